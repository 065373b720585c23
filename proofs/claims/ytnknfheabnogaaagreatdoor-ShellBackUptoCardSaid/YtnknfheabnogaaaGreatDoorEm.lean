/- An abstract machine over the model's worlds: values, a store, one lemma for each operation, a logic for code and calls, and an evaluator that is proved sound. No condition. -/
import Derived.WalkKit
import Derived.Maps.AppendAt
import Derived.Deep.MidRow
import Derived.OrdersHeld
import Derived.Deep.AppendSrc
import Derived.MapKept
import Derived.Laws.StructEq
import Derived.Deep.LoopGhost
import Derived.Lib.ConvBytes
import Derived.Maps.RangeRun
import Derived.DeepKeys
import Derived.Scope
import Derived.Laws.RangeAny
namespace Go.Proofs.YtnknfheabnogaaaGreatDoor.E

/-- Abstract values. -/
inductive AV where
  |val (v:Value)
  |nilp|nilm|nilf|nili
  |ptr (id off:Nat)
  |iptr (cells:List AV)
  |nils
  |sl (id sz off len:Nat) (full:Bool)
  |imm (sz len:Nat) (full:Bool) (cells:List AV)
  |mp (id:Nat)
  |fn (f:Fn) (first captured:List AV)
  |agg (cells:List AV)
  |tup (vs:List AV)
  |ifc (t:TypeId) (v:AV)
  |undef
  deriving Inhabited

/-- a plain value: no place in memory -/
def scalar:Value→Bool
  | .bool _| .int _ _| .string _=>true
  |_=>false

/-- The ghost: where the objects lie; what never changes any more. -/
structure G where
  n:Nat
  blk:Nat→Nat
  base:Nat→Nat
  siz:Nat→Nat
  M:Nat→List Value

structure G.le (g g':G):Prop where
  n:g.n≤g'.n
  blk:∀id,id<g.n→g'.blk id=g.blk id
  base:∀id,id<g.n→g'.base id=g.base id
  siz:∀id,id<g.n→g'.siz id=g.siz id
  M:∀b,g.M b= []∨g'.M b=g.M b

theorem G.le.refl(g:G):g.le g:=⟨Nat.le_refl _,fun _ _=>rfl,fun _ _=>rfl,fun _ _=>rfl,fun _=> .inr rfl⟩
theorem G.le.trans{a b c:G}(h:a.le b)(k:b.le c):a.le c:=
  ⟨Nat.le_trans h.n k.n,fun id hi=>(k.blk id (Nat.lt_of_lt_of_le hi h.n)).trans (h.blk id hi),fun id hi=>(k.base id (Nat.lt_of_lt_of_le hi h.n)).trans (h.base id hi),
    fun id hi=>(k.siz id (Nat.lt_of_lt_of_le hi h.n)).trans (h.siz id hi),fun b=>(h.M b).elim .inl fun e=>(k.M b).elim (fun e2=> .inl (e▸e2)) fun e2=> .inr (e2.trans e)⟩

/-- What an abstract value stands for. -/
inductive VR (g:G):AV→Value→Prop where
  |val (v:Value) (h:scalar v=true):VR g (.val v) v
  |nilp:VR g .nilp (.pointer none)
  |nilm:VR g .nilm (.map none)
  |nilf:VR g .nilf .nilFunc
  |nili:VR g .nili .nilIface
  |ptr (id off:Nat) (h:id<g.n):VR g (.ptr id off) (.pointer (some ⟨g.blk id,g.base id+off,none⟩))
  |iptr (cells:List AV) (us:List Value) (A:Addr) (hu:us.length=cells.length) (h:∀i,i<cells.length→VR g (cells.getD i .undef) (us.getD i (.tuple #[])))
      (h1:∀u∈us,u.oneCell'=true) (hA:A.spot=none∧us<+:(g.M A.block).drop A.off):VR g (.iptr cells) (.pointer (some A))
  |nils:VR g .nils (.slice none 0 0)
  |sl (id sz off len cap:Nat) (full:Bool) (h:id<g.n) (hc:off+cap*sz≤g.siz id) (hl:len≤cap) (hf:full=true→cap=len) (hm:cap≤maxLen):
      VR g (.sl id sz off len full) (.slice (some ⟨g.blk id,g.base id+off,none⟩) len cap)
  |imm (sz len cap:Nat) (full:Bool) (cells:List AV) (us:List Value) (A:Addr) (hn:cells.length=len*sz) (hu:us.length=cells.length)
      (h:∀i,i<cells.length→VR g (cells.getD i .undef) (us.getD i (.tuple #[])))
      (h1:∀u∈us,u.oneCell'=true)
      (hA:len*sz≠0→A.spot=none∧us<+:(g.M A.block).drop A.off) (hl:len≤cap) (hf:full=true→cap=len) (hm:cap≤maxLen):
      VR g (.imm sz len full cells) (.slice (some A) len cap)
  |mp (id:Nat) (h:id<g.n):VR g (.mp id) (.map (some (g.blk id)))
  |fn (f:Fn) (cs ds:List AV) (us vs:List Value) (hu:us.length=cs.length) (h:∀i,i<cs.length→VR g (cs.getD i .undef) (us.getD i (.tuple #[])))
      (hv:vs.length=ds.length) (k:∀i,i<ds.length→VR g (ds.getD i .undef) (vs.getD i (.tuple #[]))):VR g (.fn f cs ds) (.func f us.toArray vs.toArray)
  |agg (cs:List AV) (us:List Value) (hu:us.length=cs.length) (h:∀i,i<cs.length→VR g (cs.getD i .undef) (us.getD i (.tuple #[]))) (h1:∀u∈us,u.oneCell'=true):VR g (.agg cs) (.agg us.toArray)
  |tup (cs:List AV) (us:List Value) (hu:us.length=cs.length) (h:∀i,i<cs.length→VR g (cs.getD i .undef) (us.getD i (.tuple #[]))):VR g (.tup cs) (.tuple us.toArray)
  |ifc (t:TypeId) (a:AV) (v:Value) (h:VR g a v):VR g (.ifc t a) (.iface t v)
  |undef (v:Value):VR g .undef v

theorem G.le.pre{g g':G}(hg:g.le g'){A:Addr}{us:List Value}(h:us<+:(g.M A.block).drop A.off):us<+:(g'.M A.block).drop A.off:=by
  rcases hg.M A.block with e|e
  · rw [e] at h
    have:us= []:=List.prefix_nil.1 (by simpa using h)
    rw [this];exact List.nil_prefix
  · rw [e];exact h

theorem VR.mono{g g':G}(hg:g.le g'){a:AV}{v:Value}(h:VR g a v):VR g' a v:=by
  induction h with
  |val v h=>exact .val v h
  |nilp=>exact .nilp
  |nilm=>exact .nilm
  |nilf=>exact .nilf
  |nili=>exact .nili
  |ptr id off h=>rw [←hg.blk id h,←hg.base id h];exact .ptr id off (Nat.lt_of_lt_of_le h hg.n)
  |iptr cells us A hu _ h1 hA ih=>exact .iptr cells us A hu ih h1 ⟨hA.1,hg.pre hA.2⟩
  |nils=>exact .nils
  |sl id sz off len cap full h hc hl hf hm=>
    rw [←hg.blk id h,←hg.base id h]
    exact .sl id sz off len cap full (Nat.lt_of_lt_of_le h hg.n) (by rw [hg.siz id h];exact hc) hl hf hm
  |imm sz len cap full cells us A hn hu h h1 hA hl hf hm ih=>
    exact .imm sz len cap full cells us A hn hu ih h1 (fun h0=>⟨(hA h0).1,hg.pre (hA h0).2⟩) hl hf hm
  |mp id h=>rw [←hg.blk id h];exact .mp id (Nat.lt_of_lt_of_le h hg.n)
  |fn f cs ds us vs hu _ hv _ ih1 ih2=>exact .fn f cs ds us vs hu ih1 hv ih2
  |agg cs us hu _ h1 ih=>exact .agg cs us hu ih h1
  |tup cs us hu _ ih=>exact .tup cs us hu ih
  |ifc t a v _ ih=>exact .ifc t a v ih
  |undef v=>exact .undef v

/-! ### the store: a trie by numbers -/
inductive Tr (α:Type) where
  |nil
  |node (v:Option α) (l r:Tr α)
  deriving Inhabited
namespace Tr
variable {α:Type}
def get:Tr α→Nat→Option α
  |nil,_=>none
  |node v l r,n=>match n with
    |0=>v
    |n+1=>match n%2 with
      |0=>l.get (n/2)
      |_=>r.get (n/2)
def val:Tr α→Option α|nil=>none|node v _ _=>v
def left:Tr α→Tr α|nil=>nil|node _ l _=>l
def right:Tr α→Tr α|nil=>nil|node _ _ r=>r
def put:Nat→Tr α→Nat→Option α→Tr α
  |0,t,_,_=>t
  |f+1,t,n,v=>match n with
    |0=>node v t.left t.right
    |n+1=>match n%2 with
      |0=>node t.val (put f t.left (n/2) v) t.right
      |_=>node t.val t.left (put f t.right (n/2) v)
theorem get_parts(t:Tr α)(n:Nat):t.get n=match n with|0=>t.val|n+1=>match n%2 with|0=>t.left.get (n/2)|_=>t.right.get (n/2):=by
  cases t with
  |nil=>cases n with
    |zero=>simp [get,val]
    |succ n=>simp only [get,left,right];split<;>rfl
  |node v l r=>cases n with
    |zero=>simp [get,val]
    |succ n=>simp only [get,left,right]
theorem get_put:∀(f:Nat) (t:Tr α) (n:Nat) (v:Option α) (m:Nat),n<f→(put f t n v).get m=if m=n then v else t.get m
  |0,_,_,_,_,h=>by omega
  |f+1,t,n,v,m,h=>by
    cases n with
    |zero=>
      simp only [put]
      cases m with
      |zero=>simp [get]
      |succ m=>rw [get_parts t];simp [get]
    |succ n=>
      rcases Nat.mod_two_eq_zero_or_one n with h2|h2
      · simp only [put,h2]
        cases m with
        |zero=>rw [get_parts t];simp [get]
        |succ m=>
          rw [get_parts t]
          rcases Nat.mod_two_eq_zero_or_one m with h3|h3
          · simp only [get,h3]
            rw [get_put f t.left (n/2) v (m/2) (by omega)]
            by_cases e:m=n
            · subst e;simp
            · rw [if_neg (by omega),if_neg (by omega)]
          · simp only [get,h3]
            rw [if_neg (by omega)]
      · simp only [put,h2]
        cases m with
        |zero=>rw [get_parts t];simp [get]
        |succ m=>
          rw [get_parts t]
          rcases Nat.mod_two_eq_zero_or_one m with h3|h3
          · simp only [get,h3]
            rw [if_neg (by omega)]
          · simp only [get,h3]
            rw [get_put f t.right (n/2) v (m/2) (by omega)]
            by_cases e:m=n
            · subst e;simp
            · rw [if_neg (by omega),if_neg (by omega)]
end Tr

inductive AObj where
  |row (vs:List AV) (ty:TypeId)
  |map (es:List (AV×AV)) (bs:List Nat) (clock:Nat)
  |iter (m since:Nat) (seen:List Nat) (c0:Nat)
  |siter (s:ByteArray) (pos:Nat)
  deriving Inhabited

/-- 'lock': objects that may be read only; 'gl': package variables that never change -/
structure St where
  next:Nat
  objs:Tr AObj
  lock:List Nat
  gl:List (Nat×List AV)
def St.get(s:St)(id:Nat):Option AObj:=s.objs.get id
def St.wget(s:St)(id:Nat):Option AObj:=if s.lock.contains id then none else s.objs.get id
theorem St.wget_get{s:St}{id:Nat}{o:AObj}(h:s.wget id=some o):s.get id=some o∧id∉s.lock:=by
  unfold St.wget at h
  split at h
  · cases h
  · rename_i hc;exact ⟨h,by simpa using hc⟩
theorem St.wget_of{s:St}{id:Nat}{o:AObj}(h:s.get id=some o)(hl:id∉s.lock):s.wget id=some o:=by
  unfold St.wget
  rw [if_neg (by simpa using hl)];exact h
def St.set(s:St)(id:Nat)(o:AObj):St:={s with objs:=s.objs.put (id+1) id (some o)}
def St.del(s:St)(id:Nat):St:={s with objs:=s.objs.put (id+1) id none}
def St.push(s:St)(o:AObj):St:={next:=s.next+1,objs:=s.objs.put (s.next+1) s.next (some o),lock:=s.lock,gl:=s.gl}
theorem St.get_set(s:St)(id:Nat)(o:AObj)(i:Nat):(s.set id o).get i=if i=id then some o else s.get i:=Tr.get_put _ _ _ _ _ (Nat.lt_succ_self _)
theorem St.get_del(s:St)(id:Nat)(i:Nat):(s.del id).get i=if i=id then none else s.get i:=Tr.get_put _ _ _ _ _ (Nat.lt_succ_self _)
theorem St.get_push(s:St)(o:AObj)(i:Nat):(s.push o).get i=if i=s.next then some o else s.get i:=Tr.get_put _ _ _ _ _ (Nat.lt_succ_self _)
@[simp] theorem St.lock_set (s:St) (id:Nat) (o:AObj):(s.set id o).lock=s.lock:=rfl
@[simp] theorem St.lock_del (s:St) (id:Nat):(s.del id).lock=s.lock:=rfl
@[simp] theorem St.lock_push (s:St) (o:AObj):(s.push o).lock=s.lock:=rfl
@[simp] theorem St.next_set (s:St) (id:Nat) (o:AObj):(s.set id o).next=s.next:=rfl
@[simp] theorem St.next_del (s:St) (id:Nat):(s.del id).next=s.next:=rfl
@[simp] theorem St.next_push (s:St) (o:AObj):(s.push o).next=s.next+1:=rfl

/-! ### what the store says of the world -/
def VRs(g:G)(cs:List AV)(us:List Value):Prop:=us.length=cs.length∧∀i,i<cs.length→VR g (cs.getD i .undef) (us.getD i (.tuple #[]))

def ObjR(g:G)(w:World)(id:Nat):AObj→Prop
  | .row vs ty=>∃cs fr us,w.heap[g.blk id]? =some (.cells cs ty fr)∧cs.size=g.base id+g.siz id∧VRs g vs us∧(∀u∈us,u.oneCell'=true)∧us<+:cs.toList.drop (g.base id)∧
      (fr.1=fr.2∨cs.size≤fr.1)
  | .map es bs clock=>∃(es':Array MapEntry),w.heap[g.blk id]? =some (.map es' clock)∧VRs g (es.map (·.1)) (es'.toList.map (·.key))∧VRs g (es.map (·.2)) (es'.toList.map (·.val))∧
      es'.toList.map (·.born)=bs∧bs.Nodup∧∀b∈bs,b<clock
  | .iter m since seen c0=>w.heap[g.blk id]? =some (.mapIter (some (g.blk m)) since seen.toArray c0)∧m<g.n∧g.base id=0
  | .siter s pos=>w.heap[g.blk id]? =some (.stringIter s pos)∧g.base id=0

/-- a table that a package variable holds: its block holds it, and nothing else -/
def GV(g:G)(p:Nat×List AV):Prop:=VR g (.iptr p.2) (.pointer (some ⟨p.1,0,none⟩))∧(p.2≠ []→g.M p.1≠ []∧(g.M p.1).length=p.2.length)∧(p.2= []→p.1<g.n∧g.base p.1=0∧g.siz p.1=2)
theorem GV.mono{g g':G}{p:Nat×List AV}(h:GV g p)(hg:g.le g'):GV g' p:=
  ⟨h.1.mono hg,fun hp=>(by
      rcases hg.M p.1 with e|e
      · exact absurd e (h.2.1 hp).1
      · rw [e];exact h.2.1 hp),fun hp=>⟨Nat.lt_of_lt_of_le (h.2.2 hp).1 hg.n,by rw [hg.base _ (h.2.2 hp).1,hg.siz _ (h.2.2 hp).1];exact (h.2.2 hp).2⟩⟩
structure OK (g:G) (st:St) (w:World):Prop where
  imm:∀b,g.M b≠ []→∃cs T fr,w.heap[b]? =some (.cells cs T fr)∧g.M b=cs.toList
  obj:∀id o,st.get id=some o→id<st.next∧ObjR g w id o
  inj:∀id o id' o',st.get id=some o→st.get id'=some o'→g.blk id=g.blk id'→id=id'
  sep:∀id o,st.get id=some o→g.M (g.blk id)= []
  n:g.n=st.next
  glob:∀p∈st.gl,GV g p

structure Step (g:G) (st:St) (w:World) (g':G) (st':St) (w':World):Prop where
  le:g.le g'
  ok:OK g' st' w'
  os:w'.os=w.os
  tape:w'.tape=w.tape
  output:w'.output=w.output
  size:w.heap.size≤w'.heap.size
  frame:∀b,b<w.heap.size→(∀id o,st.wget id=some o→g.blk id≠b)→w'.heap[b]? =w.heap[b]?
  from_:∀id o,st'.get id=some o→g'.blk id<w.heap.size→∃id0 o0,st.get id0=some o0∧g.blk id0=g'.blk id∧(id0∈st.lock→id0=id∧o0=o)
  froz:∀b,b<w.heap.size→(∀id o,st.wget id=some o→g.blk id≠b)→g'.M b=g.M b
  lock:st'.lock=st.lock
  gl:st'.gl=st.gl

theorem Step.refl{g:G}{st:St}{w:World}(h:OK g st w):Step g st w g st w:=
  ⟨.refl g,h,rfl,rfl,rfl,Nat.le_refl _,fun _ _ _=>rfl,fun id o h _=>⟨id,o,h,rfl,fun _=>⟨rfl,rfl⟩⟩,fun _ _ _=>rfl,rfl,rfl⟩

theorem Step.trans{g g1 g2:G}{st st1 st2:St}{w w1 w2:World}(h:Step g st w g1 st1 w1)(k:Step g1 st1 w1 g2 st2 w2):Step g st w g2 st2 w2:=by
  have dead:∀b,b<w.heap.size→(∀id o,st.wget id=some o→g.blk id≠b)→∀id o,st1.wget id=some o→g1.blk id≠b:=by
    intro b hb hn id o ho he
    obtain ⟨ho',hl⟩:=St.wget_get ho
    obtain ⟨id0,o0,h0,h1,h2⟩:=h.from_ id o ho' (by rw [he];exact hb)
    by_cases hl0:id0∈st.lock
    · obtain ⟨e,_⟩:=h2 hl0
      subst e
      exact hl (by rw [h.lock];exact hl0)
    · exact hn id0 o0 (St.wget_of h0 hl0) (h1.trans he)
  refine ⟨h.le.trans k.le,k.ok,k.os.trans h.os,k.tape.trans h.tape,k.output.trans h.output,Nat.le_trans h.size k.size,fun b hb hn=> ?_,fun id o ho hlt=> ?_,fun b hb hn=> ?_,k.lock.trans h.lock,k.gl.trans h.gl⟩
  · rw [←h.frame b hb hn]
    exact k.frame b (Nat.lt_of_lt_of_le hb h.size) (dead b hb hn)
  · obtain ⟨id1,o1,h1,e1,l1⟩:=k.from_ id o ho (Nat.lt_of_lt_of_le hlt h.size)
    obtain ⟨id0,o0,h0,e0,l0⟩:=h.from_ id1 o1 h1 (by rw [e1];exact hlt)
    refine ⟨id0,o0,h0,e0.trans e1,fun hl=> ?_⟩
    obtain ⟨a1,a2⟩:=l0 hl
    obtain ⟨b1,b2⟩:=l1 (by rw [h.lock,←a1];exact hl)
    exact ⟨a1.trans b1,a2.trans b2⟩
  · rw [←h.froz b hb hn]
    exact k.froz b (Nat.lt_of_lt_of_le hb h.size) (dead b hb hn)

/-- The store may forget. -/
theorem OK.sub{g:G}{st st':St}{w:World}(h:OK g st w)(hs:∀id o,st'.get id=some o→st.get id=some o)(hn:st'.next=st.next)(hgl:st'.gl=st.gl):OK g st' w:=
  ⟨h.imm,fun id o ho=>⟨by rw [hn];exact (h.obj id o (hs id o ho)).1,(h.obj id o (hs id o ho)).2⟩,fun id o id' o' h1 h2=>h.inj id o id' o' (hs _ _ h1) (hs _ _ h2),fun id o ho=>h.sep id o (hs id o ho),h.n.trans hn.symm,by rw [hgl];exact h.glob⟩
theorem Step.sub{g:G}{st st':St}{w:World}(h:OK g st w)(hs:∀id o,st'.get id=some o→st.get id=some o)(hn:st'.next=st.next)(hl:st'.lock=st.lock)(hgl:st'.gl=st.gl):Step g st w g st' w:=
  ⟨.refl g,h.sub hs hn hgl,rfl,rfl,rfl,Nat.le_refl _,fun _ _ _=>rfl,fun id o h1 _=>⟨id,o,hs id o h1,rfl,fun _=>⟨rfl,rfl⟩⟩,fun _ _ _=>rfl,hl,hgl⟩

theorem VRs.mono{g g':G}(hg:g.le g'){cs:List AV}{us:List Value}(h:VRs g cs us):VRs g' cs us:=⟨h.1,fun i hi=>(h.2 i hi).mono hg⟩
theorem VRs.nil(g:G):VRs g [] []:=⟨rfl,fun i hi=>by simp at hi⟩
theorem VRs.cons{g:G}{c:AV}{u:Value}{cs:List AV}{us:List Value}(h:VR g c u)(hs:VRs g cs us):VRs g (c::cs) (u::us):=by
  refine ⟨by simp [hs.1],fun i hi=> ?_⟩
  cases i with
  |zero=>simpa using h
  |succ i=>simpa using hs.2 i (by simpa using hi)
theorem VRs.head{g:G}{c:AV}{u:Value}{cs:List AV}{us:List Value}(h:VRs g (c::cs) (u::us)):VR g c u:=by simpa using h.2 0 (by simp)
theorem VRs.tail{g:G}{c:AV}{u:Value}{cs:List AV}{us:List Value}(h:VRs g (c::cs) (u::us)):VRs g cs us:=
  ⟨by simpa using h.1,fun i hi=>by simpa using h.2 (i+1) (by simpa using hi)⟩
theorem VRs.get{g:G}{cs:List AV}{us:List Value}(h:VRs g cs us){i:Nat}{c:AV}(hc:cs[i]? =some c):∃u,us[i]? =some u∧VR g c u:=by
  have hi:i<cs.length:=(List.getElem?_eq_some_iff.1 hc).1
  have hu:i<us.length:=by rw [h.1];exact hi
  refine ⟨us[i],List.getElem?_eq_getElem hu,?_⟩
  have:=h.2 i hi
  simpa [List.getD_eq_getElem?_getD,hc,List.getElem?_eq_getElem hu] using this
theorem VRs.of_get{g:G}{cs:List AV}{us:List Value}(hl:us.length=cs.length)(h:∀(i:Nat) (c:AV) (u:Value),cs[i]? =some c→us[i]? =some u→VR g c u):VRs g cs us:=by
  refine ⟨hl,fun i hi=> ?_⟩
  have hu:i<us.length:=by rw [hl];exact hi
  simpa [List.getD_eq_getElem?_getD,List.getElem?_eq_getElem hi,List.getElem?_eq_getElem hu] using h i _ _ (List.getElem?_eq_getElem hi) (List.getElem?_eq_getElem hu)
theorem VRs.append{g:G}{cs ds:List AV}{us vs:List Value}(h:VRs g cs us)(k:VRs g ds vs):VRs g (cs++ds) (us++vs):=by
  refine .of_get (by simp [h.1,k.1]) fun i c u hc hu=> ?_
  rw [List.getElem?_append] at hc hu
  rw [h.1] at hu
  split at hc
  · rename_i hi
    rw [if_pos hi] at hu
    obtain ⟨u',hu',hv⟩:=h.get hc
    rw [hu] at hu';cases hu';exact hv
  · rename_i hi
    rw [if_neg hi] at hu
    obtain ⟨u',hu',hv⟩:=k.get hc
    rw [hu] at hu';cases hu';exact hv
theorem VRs.take{g:G}{cs:List AV}{us:List Value}(h:VRs g cs us)(n:Nat):VRs g (cs.take n) (us.take n):=by
  refine .of_get (by simp [h.1]) fun i c u hc hu=> ?_
  rw [List.getElem?_take] at hc hu
  split at hc
  · rename_i hi
    rw [if_pos hi] at hu
    obtain ⟨u',hu',hv⟩:=h.get hc
    rw [hu] at hu';cases hu';exact hv
  · cases hc
theorem VRs.drop{g:G}{cs:List AV}{us:List Value}(h:VRs g cs us)(n:Nat):VRs g (cs.drop n) (us.drop n):=by
  refine .of_get (by simp [h.1]) fun i c u hc hu=> ?_
  rw [List.getElem?_drop] at hc hu
  obtain ⟨u',hu',hv⟩:=h.get hc
  rw [hu] at hu';cases hu';exact hv
theorem VRs.set{g:G}{cs:List AV}{us:List Value}(h:VRs g cs us)(n:Nat){c:AV}{u:Value}(hv:VR g c u):VRs g (cs.set n c) (us.set n u):=by
  refine .of_get (by simp [h.1]) fun i c' u' hc hu=> ?_
  rw [List.getElem?_set] at hc hu
  rw [h.1] at hu
  split at hc
  · rename_i hi
    rw [if_pos hi] at hu
    split at hc
    · rename_i hlt
      rw [if_pos hlt] at hu
      cases hc;cases hu;exact hv
    · cases hc
  · rename_i hi
    rw [if_neg hi] at hu
    obtain ⟨u2,hu',hv⟩:=h.get hc
    rw [hu] at hu';cases hu';exact hv

/-! ### frames -/
structure Tm where
  n:Nat
  l:List (Nat×AV)
  gl:List (Nat×List AV)
def look:List (Nat×AV)→Nat→AV
  | [],_=> .undef
  |(u,v)::r,t=>if u=t then v else look r t
def Tm.get(T:Tm)(t:Nat):AV:=look T.l t
def Tm.put(T:Tm)(d:Option Nat)(v:AV):Tm:=match d with|none=>T|some d=>{T with l:=(d,v)::T.l}
def Tm.fits(T:Tm)(d:Option Nat):Bool:=match d with|none=>true|some d=>decide (d<T.n)
@[simp] theorem Tm.get_put_some (T:Tm) (d:Nat) (v:AV) (t:Nat):(T.put (some d) v).get t=if d=t then v else T.get t:=rfl
@[simp] theorem Tm.get_put_none (T:Tm) (v:AV) (t:Nat):(T.put none v).get t=T.get t:=rfl
@[simp] theorem Tm.n_put (T:Tm) (d:Option Nat) (v:AV):(T.put d v).n=T.n:=by cases d<;>rfl

structure TR (g:G) (T:Tm) (a:Act):Prop where
  size:a.tmps.size=T.n
  get:∀t,VR g (T.get t) (a.tmps.getD t Go.undef)
  defers:a.defers= []
  glob:∀p∈T.gl,VR g (.iptr p.2) (.pointer (some ⟨p.1,0,none⟩))

theorem TR.mono{g g':G}(hg:g.le g'){T:Tm}{a:Act}(h:TR g T a):TR g' T a:=⟨h.size,fun t=>(h.get t).mono hg,h.defers,fun p hp=>(h.glob p hp).mono hg⟩
theorem TR.put{g:G}{T:Tm}{a:Act}(h:TR g T a){d:Option Nat}(hd:T.fits d=true){v:AV}{u:Value}(hv:VR g v u):TR g (T.put d v) (a.put d u):=by
  cases d with
  |none=>exact h
  |some d=>
    have hd':d<T.n:=by simpa [Tm.fits] using hd
    refine ⟨by simp [Act.put,h.size],fun t=> ?_,h.defers,h.glob⟩
    rw [Tm.get_put_some]
    simp only [Act.put]
    split
    · rename_i e
      subst e
      rw [Array.getD_eq_getD_getElem?,Array.getElem?_setIfInBounds_self_of_lt (by rw [h.size];exact hd')]
      exact hv
    · rename_i e
      rw [Array.getD_eq_getD_getElem?,Array.getElem?_setIfInBounds_ne e,←Array.getD_eq_getD_getElem?]
      exact h.get t

/-- constants -/
def cv0:Value→AV
  | .bool b=> .val (.bool b)
  | .int k n=> .val (.int k n)
  | .string s=> .val (.string s)
  | .pointer none=> .nilp
  | .map none=> .nilm
  | .nilFunc=> .nilf
  | .nilIface=> .nili
  | .slice none 0 0=> .nils
  | .func f ⟨[]⟩ ⟨[]⟩=> .fn f [] []
  |_=> .undef
def cv:Value→AV
  | .agg cs=>if cs.all (·.oneCell') then .agg (cs.toList.map cv0) else .undef
  |v=>cv0 v
theorem cv0_ok(g:G)(v:Value):VR g (cv0 v) v:=by
  unfold cv0
  split
  · exact .val _ rfl
  · exact .val _ rfl
  · exact .val _ rfl
  · exact .nilp
  · exact .nilm
  · exact .nilf
  · exact .nili
  · exact .nils
  · exact .fn _ [] [] [] [] rfl (fun i hi=>by simp at hi) rfl (fun i hi=>by simp at hi)
  · exact .undef _
theorem VRs.map_cv0(g:G)(us:List Value):VRs g (us.map cv0) us:=
  .of_get (by simp) fun i c u hc hu=>by
    rw [List.getElem?_map,hu] at hc
    simp at hc
    subst hc
    exact cv0_ok g u
theorem cv_ok(g:G)(v:Value):VR g (cv v) v:=by
  unfold cv
  split
  · rename_i cs
    split
    · rename_i h
      have hs:=VRs.map_cv0 g cs.toList
      have:=VR.agg (g:=g) (cs.toList.map cv0) cs.toList hs.1 hs.2 (fun u hu=>(Array.all_eq_true_iff_forall_mem.1 h) u (by simpa using hu))
      simpa using this
    · exact .undef _
  · exact cv0_ok g v

def glOf:List (Nat×List AV)→Nat→AV
  | [],_=> .undef
  |(j,cs)::r,i=>if j=i then .iptr cs else glOf r i
theorem glOf_ok{g:G}{i:Nat}:∀(l:List (Nat×List AV)),(∀p∈l,VR g (.iptr p.2) (.pointer (some ⟨p.1,0,none⟩)))→VR g (glOf l i) (.pointer (some ⟨i,0,none⟩))
  | [],_=> .undef _
  |(j,cs)::r,h=>by
    unfold glOf
    split
    · rename_i e;subst e;exact h _ (List.mem_cons_self ..)
    · exact glOf_ok r fun p hp=>h p (List.mem_cons_of_mem _ hp)
def Tm.eval(T:Tm):Operand→AV
  | .tmp t=>T.get t
  | .const v=>cv v
  | .global i=>glOf T.gl i
  | .func f=> .fn (.func f) [] []
theorem TR.eval{g:G}{T:Tm}{a:Act}(h:TR g T a)(x:Operand):VR g (T.eval x) (a.eval x):=by
  cases x with
  |tmp t=>exact h.get t
  |const v=>exact cv_ok g v
  |global i=>exact glOf_ok T.gl h.glob
  |func f=>exact .fn _ [] [] [] [] rfl (fun i hi=>by simp at hi) rfl (fun i hi=>by simp at hi)

/-! ### the types' table -/
structure TI where
  desc:TypeDesc
  size:Nat
  bytes:Nat
  zero:Option Value
structure Env where
  ty:Nat→Option TI
  fn:Nat→Option Func
  eqv:Nat→List Value→List Value→Option Bool
structure EOK (P:Program) (E:Env):Prop where
  ty:∀t i,E.ty t=some i→P.underlying t=some i.desc∧∃f,P.info? t=some f∧f.size=i.size∧f.bytes=i.bytes∧f.zero=i.zero
  fn:∀f x,E.fn f=some x→P.funcs[f]? =some x
  mixed:P.follows .mixedOrders=true
  eqv:∀t us vs r,E.eqv t us vs=some r→(∀w,(Op.equalIn 10000 t (.agg us.toArray) (.agg vs.toArray)).run P w= .ok r w)∧P.eqGuardType P.depth t=false

/-! ### operations that only compute -/
def isAggD:TypeDesc→Bool
  | .struct _| .array _ _=>true
  |_=>false

/-- One value out of an aggregate's cells. -/
def partA(E:Env)(t:Nat)(cs:List AV)(off:Nat):Option AV:=
  match E.ty t with
  |none=>none
  |some i=>if isAggD i.desc then (if off+i.size≤cs.length then some (.agg ((cs.drop off).take i.size)) else none) else cs[off]?

def pureVal(s:Sem Value):Option AV:=
  match s with
  | .pure v=>if scalar v then some (.val v) else none
  |_=>none
theorem pureVal_ok{s:Sem Value}{av:AV}(h:pureVal s=some av)(P:Program)(g:G):∃u,(∀w,s.run P w= .ok u w)∧VR g av u:=by
  unfold pureVal at h
  split at h
  · rename_i v
    split at h
    · rename_i hs
      cases h
      exact ⟨v,fun w=>rfl,.val v hs⟩
    · cases h
  · cases h

/-- is it nil? (a value of the type's kind) -/
def nilOf:TypeDesc→AV→Option Bool
  | .pointer _,.nilp=>some true
  | .pointer _,.ptr .. =>some false
  | .pointer _,.iptr .. =>some false
  | .map ..,.nilm=>some true
  | .map ..,.mp _=>some false
  | .slice _,.nils=>some true
  | .slice _,.sl .. =>some false
  | .slice _,.imm .. =>some false
  | .func ..,.nilf=>some true
  | .func ..,.fn .. =>some false
  |_,_=>none

def unscalar:List AV→Option (List Value)
  | []=>some []
  | .val v::r=>(unscalar r).map (v:: ·)
  |_=>none
theorem unscalar_ok{g:G}:∀{cs:List AV} {vs us:List Value},unscalar cs=some vs→VRs g cs us→us=vs
  | [],vs,us,h,hv=>by
    simp only [unscalar,Option.some.injEq] at h
    subst h
    exact List.eq_nil_of_length_eq_zero (by simpa using hv.1)
  |c::cs,vs,us,h,hv=>by
    cases us with
    |nil=>simp [VRs] at hv
    |cons u us=>
      have h1:=hv.head
      have h2:=hv.tail
      cases c<;>try (simp [unscalar] at h;done)
      simp only [unscalar,Option.map_eq_some_iff] at h
      obtain ⟨r,hr,rfl⟩:=h
      rw [unscalar_ok hr h2]
      cases h1
      rfl

def binA(E:Env)(op:BinOp)(t:Nat)(a b:AV):Option AV:=
  match a,b with
  | .val (.bool p),.val (.bool q)=>match E.ty t with
    |some i=>match i.desc,op with
      | .bool,.eql=>some (.val (.bool (p==q)))
      | .bool,.neq=>some (.val (.bool (!(p==q))))
      |_,_=>none
    |none=>none
  | .val (.int k x),.val (.int k' y)=>pureVal (binOp op t (.int k x) (.int k' y))
  | .val (.string x),.val (.string y)=>pureVal (binOp op t (.string x) (.string y))
  | .agg xs,.agg ys=>match unscalar xs,unscalar ys,op with
    |some us,some vs,.eql=>(E.eqv t us vs).map fun r=> .val (.bool r)
    |some us,some vs,.neq=>(E.eqv t us vs).map fun r=> .val (.bool (!r))
    |_,_,_=>none
  |a,b=>match E.ty t with
    |some i=>match nilOf i.desc a,nilOf i.desc b,op with
      |some true,some q,.eql=>some (.val (.bool q))
      |some true,some q,.neq=>some (.val (.bool (!q)))
      |some false,some true,.eql=>some (.val (.bool false))
      |some false,some true,.neq=>some (.val (.bool true))
      |_,_,_=>none
    |none=>none

def nilV:TypeDesc→Value→Option Bool
  | .pointer _,.pointer a=>some a.isNone
  | .map ..,.map a=>some a.isNone
  | .slice _,.slice a _ _=>some a.isNone
  | .func ..,.nilFunc=>some true
  | .func ..,.func .. =>some false
  |_,_=>none
theorem nilV_of{d:TypeDesc}{a:AV}{p:Bool}(h:nilOf d a=some p){g:G}{u:Value}(hu:VR g a u):nilV d u=some p:=by
  cases hu<;>cases d<;>first|(simp [nilOf] at h;done)|(simp only [nilOf,Option.some.injEq] at h;subst h;rfl)

def easyEq:Value→Value→Bool
  | .agg _,.agg _=>false
  | .nilIface,.nilIface=>false
  |_,_=>true
theorem eqGuard_easy{P:Program}{op:BinOp}{t:Nat}{xo yo:Operand}{u v:Value}(h:easyEq u v=true)(w:World):(eqGuard op t xo yo u v).run P w= .ok () w:=by
  have e:∀(X Y:Sem Unit) (b:Bool),X.run P w= .ok () w→Y.run P w= .ok () w→(if b=true then X else Y).run P w= .ok () w:=by
    intro X Y b h1 h2
    split
    · exact h1
    · exact h2
  unfold eqGuard
  refine e _ _ _ rfl ?_
  split
  · simp [easyEq] at h
  · simp [easyEq] at h
  · rfl

theorem equalIn_nil{P:Program}{d:TypeDesc}{t:Nat}(n:Nat)(ht:P.underlying t=some d){p q:Bool}(hpq:p=true∨q=true)
    {u v:Value} (hu:nilV d u=some p) (hv:nilV d v=some q) (w:World):(Op.equalIn (n+1) t u v).run P w= .ok (if p=true then q else false) w:=by
  simp only [Op.equalIn,Sem.run_bind,run_underlying ht,Result.andThen_ok]
  cases d with
  |pointer e=>
    cases u<;>first|(simp [nilV] at hu;done)|skip
    cases v<;>first|(simp [nilV] at hv;done)|skip
    rename_i a b
    simp only [nilV,Option.some.injEq] at hu hv
    subst hu;subst hv
    cases a<;>cases b<;>simp at hpq⊢<;>rfl
  |map k e=>
    cases u<;>first|(simp [nilV] at hu;done)|skip
    cases v<;>first|(simp [nilV] at hv;done)|skip
    rename_i a b
    simp only [nilV,Option.some.injEq] at hu hv
    subst hu;subst hv
    cases a<;>cases b<;>simp at hpq⊢<;>rfl
  |slice e=>
    cases u<;>first|(simp [nilV] at hu;done)|skip
    cases v<;>first|(simp [nilV] at hv;done)|skip
    rename_i a _ _ b _ _
    simp only [nilV,Option.some.injEq] at hu hv
    subst hu;subst hv
    cases a<;>cases b<;>simp at hpq⊢<;>rfl
  |func=>
    cases u<;>first|(simp [nilV] at hu;done)|skip
    all_goals cases v<;>first|(simp [nilV] at hv;done)|skip
    all_goals simp only [nilV,Option.some.injEq] at hu hv
    all_goals subst hu;subst hv
    all_goals simp at hpq⊢
    all_goals rfl
  |_=>simp [nilV] at hu

theorem nilV_easy{d:TypeDesc}{u v:Value}{p q:Bool}(hu:nilV d u=some p)(hv:nilV d v=some q):easyEq u v=true∧
    (∀t,binOp .eql t u v=(do pure (.bool (←Op.equal t u v)):Sem Value))∧(∀t,binOp .neq t u v=(do pure (.bool (!(←Op.equal t u v))):Sem Value)):=by
  cases u<;>first|(cases d<;>simp [nilV] at hu;done)|skip
  all_goals cases v<;>first|(cases d<;>simp [nilV] at hv hu;done)|skip
  all_goals exact ⟨rfl,fun _=>rfl,fun _=>rfl⟩

/-- an interface value against the literal nil -/
def nilCmp(E:Env)(op:BinOp)(t:Nat)(a:AV):Option AV:=
  match E.ty t with
  |some i=>match i.desc,a,op with
    | .interface _,.nili,.eql=>some (.val (.bool true))
    | .interface _,.nili,.neq=>some (.val (.bool false))
    | .interface _,.ifc _ _,.eql=>some (.val (.bool false))
    | .interface _,.ifc _ _,.neq=>some (.val (.bool true))
    |_,_,_=>none
  |none=>none
theorem nilCmp_ok{P:Program}{E:Env}(hE:EOK P E){op:BinOp}{t:Nat}{a:AV}{av:AV}(h:nilCmp E op t a=some av){g:G}{u:Value}(ha:VR g a u)(xo:Operand):
    ∃r,(∀w,(do eqGuard op t xo (.const .nilIface) u .nilIface;binOp op t u .nilIface:Sem Value).run P w= .ok r w)∧VR g av r:=by
  unfold nilCmp at h
  split at h
  · rename_i i hty
    have ht:=(hE.ty t _ hty).1
    have hnn0:∀(n:Nat) ms,i.desc= .interface ms→∀w,(Op.equalIn (n+1) t .nilIface .nilIface).run P w= .ok true w:=fun n ms hd w=>by
      rw [hd] at ht
      simp only [Op.equalIn,Sem.run_bind,run_underlying ht,Result.andThen_ok]
      rfl
    have hin0:∀(n:Nat) ms,i.desc= .interface ms→∀(T:TypeId) (v:Value) w,(Op.equalIn (n+1) t (.iface T v) .nilIface).run P w= .ok false w:=fun n ms hd T v w=>by
      rw [hd] at ht
      simp only [Op.equalIn,Sem.run_bind,run_underlying ht,Result.andThen_ok]
      rfl
    have hnn:∀ms,i.desc= .interface ms→∀w,(Op.equal t .nilIface .nilIface).run P w= .ok true w:=fun ms hd w=>hnn0 9999 ms hd w
    have hin:∀ms,i.desc= .interface ms→∀(T:TypeId) (v:Value) w,(Op.equal t (.iface T v) .nilIface).run P w= .ok false w:=fun ms hd T v w=>hin0 9999 ms hd T v w
    have hg1:∀w,(eqGuard op t xo (.const .nilIface) .nilIface .nilIface).run P w= .ok () w:=fun w=>by
      have e:∀(X Y:Sem Unit) (b:Bool),X.run P w= .ok () w→Y.run P w= .ok () w→(if b=true then X else Y).run P w= .ok () w:=by
        intro X Y b h1 h2
        split
        · exact h1
        · exact h2
      unfold eqGuard
      refine e _ _ _ rfl ?_
      simp only [Bool.or_true,if_true]
      rfl
    split at h
    all_goals first|(cases h;done)|skip
    · rename_i ms hd
      cases h;cases ha
      exact ⟨_,fun w=>by rw [Sem.run_bind,hg1,Result.andThen_ok];show ((do pure (.bool (←Op.equal t .nilIface .nilIface))):Sem Value).run P w=_;rw [Sem.run_bind,hnn ms hd w];rfl,.val _ rfl⟩
    · rename_i ms hd
      cases h;cases ha
      exact ⟨_,fun w=>by rw [Sem.run_bind,hg1,Result.andThen_ok];show ((do pure (.bool (!(←Op.equal t .nilIface .nilIface)))):Sem Value).run P w=_;rw [Sem.run_bind,hnn ms hd w];rfl,.val _ rfl⟩
    · rename_i ms T x hd
      cases h
      cases ha with
      |ifc _ _ v hv=>
        exact ⟨_,fun w=>by rw [Sem.run_bind,eqGuard_easy rfl,Result.andThen_ok];show ((do pure (.bool (←Op.equal t (.iface T v) .nilIface))):Sem Value).run P w=_;rw [Sem.run_bind,hin ms hd T v w];rfl,.val _ rfl⟩
    · rename_i ms T x hd
      cases h
      cases ha with
      |ifc _ _ v hv=>
        exact ⟨_,fun w=>by rw [Sem.run_bind,eqGuard_easy rfl,Result.andThen_ok];show ((do pure (.bool (!(←Op.equal t (.iface T v) .nilIface)))):Sem Value).run P w=_;rw [Sem.run_bind,hin ms hd T v w];rfl,.val _ rfl⟩
  · cases h

theorem binA_ok{P:Program}{E:Env}(hE:EOK P E){op:BinOp}{t:Nat}{a b:AV}{av:AV}(h:binA E op t a b=some av){g:G}{u v:Value}(ha:VR g a u)(hb:VR g b v)(xo yo:Operand):
    ∃r,(∀w,(do eqGuard op t xo yo u v;binOp op t u v:Sem Value).run P w= .ok r w)∧VR g av r:=by
  unfold binA at h
  split at h
  · rename_i p q
    cases ha;cases hb
    split at h
    · rename_i i hty
      have hu:=(hE.ty t _ hty).1
      split at h
      · rename_i hd
        cases h
        rw [hd] at hu
        refine ⟨.bool (p==q),fun w=> ?_,.val _ rfl⟩
        rw [Sem.run_bind,eqGuard_easy rfl,Result.andThen_ok,run_eql_bool w t p q hu]
      · rename_i hd
        cases h
        rw [hd] at hu
        refine ⟨.bool (!(p==q)),fun w=> ?_,.val _ rfl⟩
        rw [Sem.run_bind,eqGuard_easy rfl,Result.andThen_ok,run_neq_bool w t p q hu]
      · cases h
    · cases h
  · rename_i k x k' y
    cases ha;cases hb
    obtain ⟨r,hr,hv⟩:=pureVal_ok h P g
    refine ⟨r,fun w=> ?_,hv⟩
    rw [Sem.run_bind,eqGuard_easy rfl]
    exact hr w
  · rename_i x y
    cases ha;cases hb
    obtain ⟨r,hr,hv⟩:=pureVal_ok h P g
    refine ⟨r,fun w=> ?_,hv⟩
    rw [Sem.run_bind,eqGuard_easy rfl]
    exact hr w
  · rename_i xs ys
    cases ha with
    |agg _ us hu1 hu2 _=>
    cases hb with
    |agg _ vs hv1 hv2 _=>
    split at h
    · rename_i us' vs' h1 h2
      obtain ⟨r,hr,rfl⟩:=Option.map_eq_some_iff.1 h
      obtain rfl:=unscalar_ok h1 ⟨hu1,hu2⟩
      obtain rfl:=unscalar_ok h2 ⟨hv1,hv2⟩
      refine ⟨.bool r,fun w=> ?_,.val _ rfl⟩
      rw [Sem.run_bind,run_eqGuard_agg w _ t xo yo _ _ (hE.eqv _ _ _ _ hr).2,Result.andThen_ok,run_eql_struct,(hE.eqv _ _ _ _ hr).1 w]
      rfl
    · rename_i us' vs' h1 h2
      obtain ⟨r,hr,rfl⟩:=Option.map_eq_some_iff.1 h
      obtain rfl:=unscalar_ok h1 ⟨hu1,hu2⟩
      obtain rfl:=unscalar_ok h2 ⟨hv1,hv2⟩
      refine ⟨.bool (!r),fun w=> ?_,.val _ rfl⟩
      rw [Sem.run_bind,run_eqGuard_agg w _ t xo yo _ _ (hE.eqv _ _ _ _ hr).2,Result.andThen_ok,run_neq_struct,(hE.eqv _ _ _ _ hr).1 w]
      rfl
    · cases h
  · split at h
    · rename_i i hty
      have ht:=(hE.ty t _ hty).1
      split at h
      all_goals first|(cases h;done)|skip
      all_goals
        rename_i h1 h2
        have n1:=nilV_of h1 ha
        have n2:=nilV_of h2 hb
        obtain ⟨k1,k2,k3⟩:=nilV_easy n1 n2
        cases h
        refine ⟨_,fun w=> ?_,.val _ rfl⟩
        rw [Sem.run_bind,eqGuard_easy k1,Result.andThen_ok]
        first|rw [k2]|rw [k3]
        rw [Sem.run_bind,show (Op.equal t u v).run P w=_ from equalIn_nil 9999 ht (by simp) n1 n2 w]
        rfl
    · cases h

def natLe(v:AV)(y:Nat):Option Nat:=match v with| .val (.int _ i)=>if 0≤i∧i≤y then some i.toNat else none|_=>none
def boundsA(len cap:Nat)(lo hi mx:Option AV):Option (Nat×Nat×Nat):=
  match (match mx with|none=>some cap|some v=>natLe v cap) with
  |none=>none
  |some m=>match (match hi,mx with|some v,_=>natLe v m|none,none=>some len|none,some _=>none) with
    |none=>none
    |some h=>match (match lo with|none=>some 0|some v=>natLe v h) with
      |none=>none
      |some l=>some (l,h,m)

theorem sliceBound_ok{P:Program}{v:AV}{y n:Nat}(h:natLe v y=some n){g:G}{u:Value}(hv:VR g v u){y':Nat}(hy:y≤y')(code:BoundsCode)(w:World):
    (Instr.sliceBound u y' code).run P w= .ok n w∧n≤y:=by
  unfold natLe at h
  split at h
  · rename_i k i
    cases hv
    split at h
    · rename_i hi
      cases h
      refine ⟨?_,by omega⟩
      rw [run_sliceBound w k i y' code hi.1 (by omega)]
    · cases h
  · cases h

/-- an operand that may be absent -/
def VRo(g:G):Option AV→Option Value→Prop
  |none,none=>True
  |some a,some v=>VR g a v
  |_,_=>False

theorem bounds_ok{P:Program}{len capA cap:Nat}{lo hi mx:Option AV}{l h m:Nat}(hb:boundsA len capA lo hi mx=some (l,h,m))(hc:capA≤cap)(hl:len≤capA){g:G}{lo' hi' mx':Option Value}
    (h1:VRo g lo lo') (h2:VRo g hi hi') (h3:VRo g mx mx') (isSlice:Bool) (w:World):
    (Instr.sliceBounds isSlice len cap lo' hi' mx').run P w= .ok (l,h,if mx.isSome then m else cap) w∧l≤h∧h≤m∧m≤capA∧(mx=none→m=capA):=by
  unfold boundsA at hb
  split at hb
  · cases hb
  · rename_i m0 hm
    split at hb
    · cases hb
    · rename_i h0 hh
      split at hb
      · cases hb
      · rename_i l0 hl0
        cases hb
        have em:(match (generalizing:=false) mx' with|some v=>Instr.sliceBound v cap (if isSlice then .slice3Acap else .slice3Alen)|none=>pure cap:Sem Nat).run P w= .ok (if mx.isSome then m else cap) w∧m≤capA∧(mx=none→m=capA):=by
          cases mx with
          |none=>cases mx' with
            |none=>simp at hm;subst hm;exact ⟨rfl,Nat.le_refl _,fun _=>rfl⟩
            |some _=>exact h3.elim
          |some x=>cases mx' with
            |none=>exact h3.elim
            |some x'=>
              obtain ⟨e,hle⟩:=sliceBound_ok (P:=P) hm h3 hc (if isSlice then .slice3Acap else .slice3Alen) w
              exact ⟨e,hle,fun h=>by cases h⟩
        have hmm:m≤(if mx.isSome then m else cap):=by split<;>omega
        have eh:(match (generalizing:=false) hi',mx' with
            |some v,some _=>Instr.sliceBound v (if mx.isSome then m else cap) .slice3B
            |some v,none=>Instr.sliceBound v (if mx.isSome then m else cap) (if isSlice then .sliceAcap else .sliceAlen)
            |none,none=>pure len
            |none,some _=>stuck "Slice: max without high" :Sem Nat).run P w= .ok h w∧h≤m:=by
          cases hi with
          |none=>cases hi' with
            |none=>cases mx with
              |none=>cases mx' with
                |none=>simp at hh;subst hh;exact ⟨rfl,by simp at hm;omega⟩
                |some _=>exact h3.elim
              |some _=>simp at hh
            |some _=>exact h2.elim
          |some x=>cases hi' with
            |none=>exact h2.elim
            |some x'=>cases mx' with
              |none=>exact sliceBound_ok (P:=P) hh h2 hmm (if isSlice then .sliceAcap else .sliceAlen) w
              |some _=>exact sliceBound_ok (P:=P) hh h2 hmm .slice3B w
        have el:(match (generalizing:=false) lo' with|some v=>Instr.sliceBound v h (if mx'.isSome then .slice3C else .sliceB)|none=>pure 0:Sem Nat).run P w= .ok l w∧l≤h:=by
          cases lo with
          |none=>cases lo' with
            |none=>simp at hl0;subst hl0;exact ⟨rfl,Nat.zero_le _⟩
            |some _=>exact h1.elim
          |some x=>cases lo' with
            |none=>exact h1.elim
            |some x'=>exact sliceBound_ok (P:=P) hl0 h1 (Nat.le_refl _) (if mx'.isSome then .slice3C else .sliceB) w
        refine ⟨?_,el.2,eh.2,em.2.1,em.2.2⟩
        have e1:=em.1
        have e2:=eh.1
        have e3:=el.1
        clear em eh el hm hh hl0 h1 h2 h3
        unfold Instr.sliceBounds
        generalize (if mx.isSome then m else cap)=M at e1 e2⊢
        cases mx'<;>cases hi'<;>cases lo'<;>simp only [Option.isSome_none,Option.isSome_some,Bool.false_eq_true,if_false,if_true] at e1 e2 e3⊢<;>first
          |(simp [stuck] at e2;done)
          |(rw [Sem.run_bind,e1,Result.andThen_ok,Sem.run_bind,e2,Result.andThen_ok,Sem.run_bind,e3,Result.andThen_ok];rfl)

/-- is an abstract value one cell? -/
def oneA:AV→Bool
  | .agg _| .tup _| .undef=>false
  |_=>true
theorem oneA_ok{g:G}{a:AV}{v:Value}(h:oneA a=true)(hv:VR g a v):v.oneCell'=true:=by
  cases hv<;>first|rfl|(simp [oneA] at h;done)|skip
  next hs=>cases v<;>first|rfl|(simp [scalar] at hs)

def PureOK(P:Program)(g:G)(s:Sem Value)(av:AV):Prop:=∃u,(∀w,s.run P w= .ok u w)∧VR g av u

def tySize(E:Env)(t:Nat):Option Nat:=(E.ty t).map (·.size)
theorem tySize_ok{P:Program}{E:Env}(hE:EOK P E){t n:Nat}(h:tySize E t=some n)(w:World):(sizeOf t).run P w= .ok n w:=by
  unfold tySize at h
  cases hi:E.ty t with
  |none=>simp [hi] at h
  |some i=>
    simp [hi] at h
    obtain ⟨_,f,hf,h1,_⟩:=hE.ty t i hi
    simp [sizeOf,typeInfo,program,Sem.run_bind,Sem.run,hf,Result.andThen,h1,h]

theorem part_ok{P:Program}{E:Env}(hE:EOK P E){t:Nat}{cs:List AV}{off:Nat}{av:AV}(h:partA E t cs off=some av){g:G}{us:List Value}(hv:VRs g cs us)(h1:∀u∈us,u.oneCell'=true):
    PureOK P g (part t us.toArray off) av:=by
  unfold partA at h
  cases hi:E.ty t with
  |none=>simp [hi] at h
  |some i=>
    simp only [hi] at h
    have hu:=(hE.ty t i hi).1
    obtain ⟨_,f,hf,hs1,_⟩:=hE.ty t i hi
    have hsz:∀w,(sizeOf t).run P w= .ok i.size w:=fun w=>tySize_ok hE (by simp [tySize,hi]) w
    split at h
    · rename_i ha
      split at h
      · rename_i hle
        cases h
        refine ⟨.agg (us.toArray.extract off (off+i.size)),fun w=> ?_,?_⟩
        · have:(isAgg t).run P w= .ok true w:=by
            unfold isAgg
            rw [Sem.run_bind,run_underlying hu,Result.andThen_ok]
            unfold isAggD at ha
            split at ha<;>simp_all [Sem.run_pure]
          unfold part
          rw [Sem.run_bind,this,Result.andThen_ok]
          simp only [if_true]
          rw [Sem.run_bind,hsz w,Result.andThen_ok]
          rfl
        · have hd:=(hv.drop off).take i.size
          have:=VR.agg (g:=g) _ _ hd.1 hd.2 (fun u hu=>h1 u (List.mem_of_mem_drop (List.mem_of_mem_take hu)))
          have e:us.toArray.extract off (off+i.size)=(List.take i.size (List.drop off us)).toArray:=by
            simp [List.extract_toArray,List.extract_eq_take_drop]
          rw [e];exact this
      · cases h
    · rename_i ha
      obtain ⟨u,hu1,hv1⟩:=hv.get h
      refine ⟨u,fun w=> ?_,hv1⟩
      have:(isAgg t).run P w= .ok false w:=by
        unfold isAgg
        rw [Sem.run_bind,run_underlying hu,Result.andThen_ok]
        unfold isAggD at ha
        split<;>simp_all [Sem.run_pure]
      unfold part
      rw [Sem.run_bind,this,Result.andThen_ok]
      simp [hu1,Sem.run_pure]

def fullOf(mx:Option AV)(b:Nat×Nat×Nat)(full:Bool)(len:Nat):Bool:=if mx.isSome then b.2.2==b.2.1 else full&&b.2.1==len
def sliceA(E:Env)(st:St)(t:Nat)(x:AV)(lo hi mx:Option AV):Option AV:=
  match E.ty t with
  |none=>none
  |some i=>match i.desc,x with
    | .string,.val (.string s)=>if mx.isSome then none else match boundsA s.size s.size lo hi none with
      |some b=>some (.val (.string (s.extract b.1 b.2.1)))
      |none=>none
    | .slice e,.nils=>if (tySize E e).isSome then match boundsA 0 0 lo hi mx with
      |some _=>some .nils
      |none=>none
      else none
    | .slice e,.sl id sz off len full=>if tySize E e=some sz then match boundsA len len lo hi mx with
        |some b=>if b.2.1=b.1 then some (.imm sz 0 false []) else some (.sl id sz (off+b.1*sz) (b.2.1- b.1) (fullOf mx b full len))
        |none=>none
      else none
    | .slice e,.imm sz len full cells=>if tySize E e=some sz then match boundsA len len lo hi mx with
        |some b=>some (.imm sz (b.2.1- b.1) (fullOf mx b full len) ((cells.drop (b.1*sz)).take ((b.2.1- b.1)*sz)))
        |none=>none
      else none
    | .array n e,.ptr id off=>match tySize E e,boundsA n n lo hi mx,st.get id with
      |some sz,some b,some (.row vs _)=>if off+n*sz≤vs.length∧n≤1000000000 then
          (if b.2.1=b.1 then some (.imm sz 0 false []) else some (.sl id sz (off+b.1*sz) (b.2.1- b.1) (b.2.2==b.2.1))) else none
      |_,_,_=>none
    |_,_=>none

theorem OK.row_len{g:G}{st:St}{w:World}(h:OK g st w){id:Nat}{vs:List AV}{ty:TypeId}(hg:st.get id=some (.row vs ty)):id<g.n∧vs.length≤g.siz id:=by
  obtain ⟨h1,cs,fr,us,_,h3,h4,_,h5,_⟩:=h.obj id _ hg
  refine ⟨by rw [h.n];exact h1,?_⟩
  have:=h5.length_le
  simp only [List.length_drop,Array.length_toList] at this
  have:=h4.1
  omega

theorem imm_empty(g:G)(sz c:Nat)(A:Addr)(hc:c≤maxLen):VR g (.imm sz 0 false []) (.slice (some A) 0 c):=
  .imm sz 0 c false [] [] A (by simp) rfl (fun i hi=>by simp at hi) (by simp) (fun h=>absurd (Nat.zero_mul _) h) (Nat.zero_le _) (fun h=>by cases h) hc

theorem run_sliceAt_other{P:Program}{t:Nat}{d:TypeDesc}(h:P.underlying t=some d)(hd:∀n e,d≠ .array n e)(x:Value)(lo hi mx:Option Value)(w:World):
    (Instr.sliceAt t x lo hi mx).run P w=(Instr.slice t x lo hi mx).run P w:=by
  unfold Instr.sliceAt
  rw [Sem.run_bind,run_underlying h,Result.andThen_ok]
  cases d<;>first|rfl|exact absurd rfl (hd _ _)

theorem add_mid'(b o n:Nat):(⟨b,o,none⟩:Addr).add n=⟨b,o+n,none⟩:=Addr.add_mid b o n

theorem run_slice_slice{P:Program}{t e sz:Nat}{a:Option Addr}{len cap l h m:Nat}{lo hi mx:Option Value}(ht:P.underlying t=some (.slice e)){w:World}
    (hsz:(sizeOf e).run P w= .ok sz w) (hb:(Instr.sliceBounds true len cap lo hi mx).run P w= .ok (l,h,m) w):
    (Instr.sliceAt t (.slice a len cap) lo hi mx).run P w= .ok (.slice (if m=l then a else a.map (·.add (l*sz))) (h- l) (m- l)) w:=by
  rw [run_sliceAt_other ht (by intros;simp)]
  unfold Instr.slice
  rw [Sem.run_bind,run_underlying ht,Result.andThen_ok]
  simp only []
  rw [Sem.run_bind,hb,Result.andThen_ok]
  simp only []
  rw [Sem.run_bind,hsz,Result.andThen_ok]
  rfl

theorem sliceA_ok{P:Program}{E:Env}(hE:EOK P E){st:St}{t:Nat}{x:AV}{lo hi mx:Option AV}{av:AV}(h:sliceA E st t x lo hi mx=some av)
    {g:G} {w0:World} (hok:OK g st w0) {u:Value} {lo' hi' mx':Option Value} (hx:VR g x u) (h1:VRo g lo lo') (h2:VRo g hi hi') (h3:VRo g mx mx'):
    PureOK P g (Instr.sliceAt t u lo' hi' mx') av:=by
  unfold sliceA at h
  cases hi0:E.ty t with
  |none=>simp [hi0] at h
  |some i=>
    simp only [hi0] at h
    have hu:=(hE.ty t i hi0).1
    split at h
    · -- a string
      rename_i s hd
      cases hx
      rw [hd] at hu
      split at h
      · cases h
      · rename_i hmx
        cases mx with
        |some _=>simp at hmx
        |none=>
          cases mx' with
          |some _=>exact h3.elim
          |none=>
            cases hb:boundsA s.size s.size lo hi none with
            |none=>simp [hb] at h
            |some b=>
              simp only [hb,Option.some.injEq] at h
              subst h
              refine ⟨.string (s.extract b.1 b.2.1),fun w=> ?_,.val _ rfl⟩
              rw [run_sliceAt_other hu (by intros;simp)]
              unfold Instr.slice
              have hb':=(bounds_ok (P:=P) (l:=b.1) (h:=b.2.1) (m:=b.2.2) hb (Nat.le_refl _) (Nat.le_refl _) h1 h2 (mx':=none) trivial false w).1
              simp only [Option.isSome_none,Bool.false_eq_true,if_false] at hb'
              rw [Sem.run_bind,run_underlying hu,Result.andThen_ok]
              simp only [Option.isSome_none,Bool.false_eq_true,if_false]
              rw [Sem.run_bind,hb',Result.andThen_ok]
              rfl
    · -- nil
      rename_i e hd
      cases hx
      rw [hd] at hu
      split at h
      · rename_i hsz
        obtain ⟨sz,hsz⟩:=Option.isSome_iff_exists.1 hsz
        cases hb:boundsA 0 0 lo hi mx with
        |none=>simp [hb] at h
        |some b=>
          simp only [hb,Option.some.injEq] at h
          subst h
          refine ⟨.slice none 0 0,fun w=> ?_,.nils⟩
          obtain ⟨e1,e2,e3,e4,_⟩:=bounds_ok (P:=P) (l:=b.1) (h:=b.2.1) (m:=b.2.2) hb (Nat.le_refl 0) (Nat.le_refl _) h1 h2 h3 true w
          rw [run_slice_slice hu (tySize_ok hE hsz w) e1]
          have z1:b.1=0:=by omega
          have z2:b.2.1=0:=by omega
          have z3:b.2.2=0:=by omega
          simp [z1,z2,z3]
      · cases h
    · -- a slice of the store
      rename_i e id sz off len full hd
      rw [hd] at hu
      split at h
      · rename_i hsz
        cases hb:boundsA len len lo hi mx with
        |none=>simp [hb] at h
        |some b=>
          simp only [hb] at h
          cases hx with
          |sl _ _ _ _ cap _ hid hc hl hf hm=>
          have key:=fun w=>bounds_ok (P:=P) (l:=b.1) (h:=b.2.1) (m:=b.2.2) hb hl (Nat.le_refl _) h1 h2 h3 true w
          obtain ⟨_,e2,e3,e4,e5⟩:=key w0
          have eM:b.2.1≤(if mx.isSome then b.2.2 else cap):=by split<;>omega
          have eC:(if mx.isSome then b.2.2 else cap)≤cap:=by split<;>omega
          split at h
          · rename_i heq
            simp only [Option.some.injEq] at h
            subst h
            refine ⟨_,fun w=>run_slice_slice hu (tySize_ok hE hsz w) (key w).1,?_⟩
            have hz:b.2.1- b.1=0:=by omega
            rw [hz]
            generalize (if mx.isSome then b.2.2 else cap)=M at eM eC⊢
            split
            · exact imm_empty g sz _ _ (by omega)
            · exact imm_empty g sz _ _ (by omega)
          · rename_i hne
            simp only [Option.some.injEq] at h
            subst h
            refine ⟨_,fun w=>run_slice_slice hu (tySize_ok hE hsz w) (key w).1,?_⟩
            rw [if_neg (by omega)]
            simp only [Option.map_some,add_mid',Nat.add_assoc]
            refine .sl id sz (off+b.1*sz) (b.2.1- b.1) _ _ hid ?_ (by omega) ?_ (by omega)
            · have:((if mx.isSome then b.2.2 else cap)- b.1)*sz+b.1*sz=(if mx.isSome then b.2.2 else cap)*sz:=by rw [←Nat.add_mul];congr 1;omega
              have:(if mx.isSome then b.2.2 else cap)*sz≤cap*sz:=Nat.mul_le_mul_right _ eC
              omega
            · intro hfl
              unfold fullOf at hfl
              cases mx with
              |none=>
                simp at hfl⊢
                have:=hf hfl.1
                omega
              |some _=>
                simp at hfl⊢
                omega
      · cases h
    · -- an immutable slice
      rename_i e sz len full cells hd
      rw [hd] at hu
      split at h
      · rename_i hsz
        cases hb:boundsA len len lo hi mx with
        |none=>simp [hb] at h
        |some b=>
          simp only [hb,Option.some.injEq] at h
          subst h
          cases hx with
          |imm _ _ cap _ _ us A hn hus hv h11 hA hl hf hm=>
          have key:=fun w=>bounds_ok (P:=P) (l:=b.1) (h:=b.2.1) (m:=b.2.2) hb hl (Nat.le_refl _) h1 h2 h3 true w
          obtain ⟨_,e2,e3,e4,e5⟩:=key w0
          have eM:b.2.1≤(if mx.isSome then b.2.2 else cap):=by split<;>omega
          have eC:(if mx.isSome then b.2.2 else cap)≤cap:=by split<;>omega
          refine ⟨_,fun w=>run_slice_slice hu (tySize_ok hE hsz w) (key w).1,?_⟩
          have hd':=(VRs.take (VRs.drop (g:=g) (cs:=cells) (us:=us) ⟨hus,hv⟩ (b.1*sz)) ((b.2.1- b.1)*sz))
          have hmul:b.1*sz+(b.2.1- b.1)*sz≤len*sz:=by rw [←Nat.add_mul];exact Nat.mul_le_mul_right _ (by omega)
          have hlen:((cells.drop (b.1*sz)).take ((b.2.1- b.1)*sz)).length=(b.2.1- b.1)*sz:=by simp [hn];omega
          have hful:fullOf mx b full len=true→(if mx.isSome then b.2.2 else cap)- b.1=b.2.1- b.1:=by
            intro hfl
            unfold fullOf at hfl
            cases mx with
            |none=>
              simp at hfl⊢
              have:=hf hfl.1
              omega
            |some _=>
              simp at hfl⊢
              omega
          have h11':∀u∈(us.drop (b.1*sz)).take ((b.2.1- b.1)*sz),u.oneCell'=true:=fun u hu=>h11 u (List.mem_of_mem_drop (List.mem_of_mem_take hu))
          have hA2:(b.2.1- b.1)*sz≠0→A.spot=none∧us<+:(g.M A.block).drop A.off:=fun h0=>hA (fun h1=>h0 (by omega))
          generalize (if mx.isSome then b.2.2 else cap)=M at eM eC hful⊢
          by_cases hz:(b.2.1- b.1)*sz=0
          · split
            · exact .imm sz _ _ _ _ _ A hlen hd'.1 hd'.2 h11' (fun h0=>absurd hz h0) (by omega) hful (by omega)
            · exact .imm sz _ _ _ _ _ _ hlen hd'.1 hd'.2 h11' (fun h0=>absurd hz h0) (by omega) hful (by omega)
          · have hne:¬M=b.1:=by
              intro h0
              have:b.2.1- b.1=0:=by omega
              exact hz (by rw [this,Nat.zero_mul])
            rw [if_neg hne]
            obtain ⟨hs,hp⟩:=hA2 hz
            obtain ⟨blk,o,sp⟩:=A
            simp only at hs hp
            subst hs
            simp only [Option.map_some,add_mid']
            refine .imm sz _ _ _ _ _ ⟨blk,o+b.1*sz,none⟩ hlen hd'.1 hd'.2 h11' (fun _=>⟨rfl,?_⟩) (by omega) hful (by omega)
            refine (List.take_prefix _ _).trans ?_
            obtain ⟨r,hr⟩:=hp
            refine ⟨r,?_⟩
            rw [←List.drop_drop,←hr,List.drop_append_of_le_length (by rw [hus,hn];omega)]
      · cases h
    · -- an array
      rename_i n e id off hd
      rw [hd] at hu
      split at h
      · rename_i sz b vs ty hsz hb hg
        split at h
        · rename_i hlen
          cases hx with
          |ptr _ _ hid=>
          have key:=fun w=>bounds_ok (P:=P) (l:=b.1) (h:=b.2.1) (m:=b.2.2) hb (Nat.le_refl _) (Nat.le_refl _) h1 h2 h3 false w
          obtain ⟨_,e2,e3,e4,e5⟩:=key w0
          have eM:(if mx.isSome then b.2.2 else n)=b.2.2:=by
            cases mx with
            |none=>simp [e5 rfl]
            |some _=>simp
          have hrun:∀w,(Instr.sliceAt t (.pointer (some ⟨g.blk id,g.base id+off,none⟩)) lo' hi' mx').run P w=
              .ok (.slice (some (if b.2.2=b.1 then ⟨g.blk id,g.base id+off,none⟩ else ⟨g.blk id,g.base id+off+b.1*sz,none⟩)) (b.2.1- b.1) (b.2.2- b.1)) w:=by
            intro w
            have k1:=(key w).1
            rw [eM] at k1
            unfold Instr.sliceAt
            rw [Sem.run_bind,run_underlying hu,Result.andThen_ok]
            simp only [Instr.sureAddr]
            rw [Sem.run_bind,Sem.run_pure,Result.andThen_ok,Sem.run_bind,k1,Result.andThen_ok]
            simp only []
            rw [Sem.run_bind,tySize_ok hE hsz w,Result.andThen_ok]
            simp only [add_mid']
            rfl
          have hsiz:=(hok.row_len hg).2
          split at h
          · rename_i heq
            simp only [Option.some.injEq] at h
            subst h
            refine ⟨_,hrun,?_⟩
            have hz:b.2.1- b.1=0:=by omega
            rw [hz]
            exact imm_empty g sz _ _ (by simp only [maxLen];omega)
          · rename_i hne
            simp only [Option.some.injEq] at h
            subst h
            refine ⟨_,hrun,?_⟩
            rw [if_neg (by omega)]
            simp only [Nat.add_assoc]
            refine .sl id sz (off+b.1*sz) (b.2.1- b.1) _ _ hid ?_ (by omega) ?_ (by simp only [maxLen];omega)
            · have:(b.2.2- b.1)*sz+b.1*sz=b.2.2*sz:=by rw [←Nat.add_mul];congr 1;omega
              have:b.2.2*sz≤n*sz:=Nat.mul_le_mul_right _ e4
              omega
            · intro hfl
              simp at hfl
              omega
        · cases h
      · cases h
    · cases h

def fieldAddrA(E:Env)(t:Nat)(x:AV)(f:Nat):Option AV:=
  match E.ty t with
  |none=>none
  |some i=>match i.desc with
    | .struct fs=>match fs[f]? with
      |none=>none
      |some fd=>match tySize E fd.type with
        |none=>none
        |some sz=>if sz=0 then none else match x with
          | .ptr id off=>some (.ptr id (off+fd.offset))
          | .iptr cells=>some (.iptr (cells.drop fd.offset))
          |_=>none
    |_=>none

theorem iptr_drop{g:G}{cells:List AV}{us:List Value}{A:Addr}(hu:us.length=cells.length)(h:∀i,i<cells.length→VR g (cells.getD i .undef) (us.getD i (.tuple #[])))
    (h1:∀u∈us,u.oneCell'=true) (hA:A.spot=none∧us<+:(g.M A.block).drop A.off) (n:Nat):VR g (.iptr (cells.drop n)) (.pointer (some (A.add n))):=by
  obtain ⟨b,o,sp⟩:=A
  obtain ⟨hs,hp⟩:=hA
  simp only at hs hp
  subst hs
  rw [add_mid']
  have hd:=VRs.drop (g:=g) (cs:=cells) (us:=us) ⟨hu,h⟩ n
  refine .iptr _ _ _ hd.1 hd.2 (fun u hu=>h1 u (List.mem_of_mem_drop hu)) ⟨rfl,?_⟩
  obtain ⟨r,hr⟩:=hp
  simp only []
  rw [←List.drop_drop,←hr,List.drop_append]
  exact List.prefix_append _ _

theorem fieldAddrA_ok{P:Program}{E:Env}(hE:EOK P E){t:Nat}{x:AV}{f:Nat}{av:AV}(h:fieldAddrA E t x f=some av){g:G}{u:Value}(hx:VR g x u):PureOK P g (Instr.fieldAt t u f) av:=by
  unfold fieldAddrA at h
  cases hi:E.ty t with
  |none=>simp [hi] at h
  |some i=>
    simp only [hi] at h
    have hu:=(hE.ty t i hi).1
    split at h
    · rename_i fs hd
      rw [hd] at hu
      cases hf:fs[f]? with
      |none=>simp [hf] at h
      |some fd=>
        simp only [hf] at h
        cases hsz:tySize E fd.type with
        |none=>simp [hsz] at h
        |some sz=>
          simp only [hsz] at h
          split at h
          · cases h
          · rename_i h0
            have key:∀(A:Addr) w,(Instr.fieldAt t (.pointer (some A)) f).run P w= .ok (.pointer (some (A.add fd.offset))) w:=by
              intro A w
              unfold Instr.fieldAt
              rw [Sem.run_bind,run_underlying hu,Result.andThen_ok]
              simp only [hf,Instr.sureAddr]
              rw [Sem.run_bind,Sem.run_pure,Result.andThen_ok]
              unfold fieldPlace
              rw [Sem.run_bind,Sem.run_bind,tySize_ok hE hsz w,Result.andThen_ok,if_neg h0,Sem.run_pure,Result.andThen_ok]
              rfl
            split at h
            · simp only [Option.some.injEq] at h
              subst h
              cases hx with
              |ptr id off hid=>
              refine ⟨_,key _,?_⟩
              rw [add_mid',Nat.add_assoc]
              exact .ptr _ _ hid
            · simp only [Option.some.injEq] at h
              subst h
              cases hx with
              |iptr cells us A hu hv h1 hA=>exact ⟨_,key _,iptr_drop hu hv h1 hA _⟩
            · cases h
    · cases h

def fieldA(E:Env)(t:Nat)(x:AV)(f:Nat):Option AV:=
  match E.ty t with
  |none=>none
  |some i=>match i.desc,x with
    | .struct fs,.agg cs=>match fs[f]? with
      |none=>none
      |some fd=>partA E fd.type cs fd.offset
    |_,_=>none
theorem fieldA_ok{P:Program}{E:Env}(hE:EOK P E){t:Nat}{x:AV}{f:Nat}{av:AV}(h:fieldA E t x f=some av){g:G}{u:Value}(hx:VR g x u):PureOK P g (Instr.field t u f) av:=by
  unfold fieldA at h
  cases hi:E.ty t with
  |none=>simp [hi] at h
  |some i=>
    simp only [hi] at h
    have hu:=(hE.ty t i hi).1
    split at h
    · rename_i fs cs hd
      rw [hd] at hu
      cases hf:fs[f]? with
      |none=>simp [hf] at h
      |some fd=>
        simp only [hf] at h
        cases hx with
        |agg _ us hus hv h1=>
        obtain ⟨r,hr,hrv⟩:=part_ok hE h (g:=g) (us:=us) ⟨hus,hv⟩ h1
        refine ⟨r,fun w=> ?_,hrv⟩
        unfold Instr.field
        rw [Sem.run_bind,run_underlying hu,Result.andThen_ok]
        simp only [hf,asAgg]
        rw [Sem.run_bind,Sem.run_pure,Result.andThen_ok]
        exact hr w
    · cases h

def indexAddrA(E:Env)(t:Nat)(x ix:AV):Option AV:=
  match E.ty t,ix with
  |some i,.val (.int _ n)=>match i.desc,x with
    | .array len e,.ptr id off=>match tySize E e with
      |some sz=>if 0≤n∧n<len then some (.ptr id (off+n.toNat*sz)) else none
      |none=>none
    | .array len e,.iptr cells=>match tySize E e with
      |some sz=>if 0≤n∧n<len then some (.iptr (cells.drop (n.toNat*sz))) else none
      |none=>none
    | .slice e,.sl id sz off len _=>if tySize E e=some sz∧0≤n∧n<len then some (.ptr id (off+n.toNat*sz)) else none
    | .slice e,.imm sz len _ cells=>if tySize E e=some sz∧0≤n∧n<len∧sz≠0 then some (.iptr (cells.drop (n.toNat*sz))) else none
    |_,_=>none
  |_,_=>none

theorem run_indexAt_arr{P:Program}{E:Env}(hE:EOK P E){t len e sz:Nat}(hu:P.underlying t=some (.array len e))(hsz:tySize E e=some sz)(A:Addr)(k:IntKind)(n:Int)(h:0≤n∧n<len)(w:World):
    (Instr.indexAt t (.pointer (some A)) (.int k n)).run P w= .ok (.pointer (some (A.add (n.toNat*sz)))) w:=by
  unfold Instr.indexAt
  simp only [asIntOf,Sem.run_bind,Sem.run_pure,Result.andThen_ok,run_underlying hu,Instr.sureAddr,if_pos h,tySize_ok hE hsz w]
theorem run_indexAt_sl{P:Program}{E:Env}(hE:EOK P E){t e sz:Nat}(hu:P.underlying t=some (.slice e))(hsz:tySize E e=some sz)(A:Addr)(k:IntKind)(n:Int)(len c:Nat)(h:0≤n∧n<len)(w:World):
    (Instr.indexAt t (.slice (some A) len c) (.int k n)).run P w= .ok (.pointer (some (A.add (n.toNat*sz)))) w:=by
  unfold Instr.indexAt
  simp only [asIntOf,Sem.run_bind,Sem.run_pure,Result.andThen_ok,run_underlying hu,if_pos h,tySize_ok hE hsz w]

theorem indexAddrA_ok{P:Program}{E:Env}(hE:EOK P E){t:Nat}{x ix:AV}{av:AV}(h:indexAddrA E t x ix=some av){g:G}{u v:Value}(hx:VR g x u)(hv:VR g ix v):PureOK P g (Instr.indexAt t u v) av:=by
  unfold indexAddrA at h
  split at h
  · rename_i i k n hi
    cases hv
    have hu:=(hE.ty t i hi).1
    split at h
    · rename_i len e id off hd
      rw [hd] at hu
      cases hsz:tySize E e with
      |none=>simp [hsz] at h
      |some sz=>
        simp only [hsz] at h
        split at h
        · rename_i hb
          simp only [Option.some.injEq] at h
          subst h
          cases hx with
          |ptr _ _ hid=>
          refine ⟨_,fun w=>run_indexAt_arr hE hu hsz _ k n hb w,?_⟩
          rw [add_mid',Nat.add_assoc]
          exact .ptr _ _ hid
        · cases h
    · rename_i len e cells hd
      rw [hd] at hu
      cases hsz:tySize E e with
      |none=>simp [hsz] at h
      |some sz=>
        simp only [hsz] at h
        split at h
        · rename_i hb
          simp only [Option.some.injEq] at h
          subst h
          cases hx with
          |iptr _ us A hus hvs h1 hA=>exact ⟨_,fun w=>run_indexAt_arr hE hu hsz _ k n hb w,iptr_drop hus hvs h1 hA _⟩
        · cases h
    · rename_i e id sz off len full hd
      rw [hd] at hu
      split at h
      · rename_i hb
        simp only [Option.some.injEq] at h
        subst h
        cases hx with
        |sl _ _ _ _ cap _ hid hc hl hf hm=>
        refine ⟨_,fun w=>run_indexAt_sl hE hu hb.1 _ k n _ _ hb.2 w,?_⟩
        rw [add_mid',Nat.add_assoc]
        exact .ptr _ _ hid
      · cases h
    · rename_i e sz len full cells hd
      rw [hd] at hu
      split at h
      · rename_i hb
        simp only [Option.some.injEq] at h
        subst h
        cases hx with
        |imm _ _ cap _ _ us A hn hus hvs h1 hA hl hf hm=>
        have hne:len*sz≠0:=by
          have:0<len:=by omega
          have:0<sz:=by omega
          exact Nat.ne_of_gt (Nat.mul_pos ‹_› ‹_›)
        exact ⟨_,fun w=>run_indexAt_sl hE hu hb.1 _ k n _ _ ⟨hb.2.1,hb.2.2.1⟩ w,iptr_drop hus hvs h1 (hA hne) _⟩
      · cases h
    · cases h
  · cases h

def indexA(E:Env)(t:Nat)(x ix:AV):Option AV:=
  match E.ty t,ix with
  |some i,.val (.int _ n)=>match i.desc,x with
    | .array len e,.agg cs=>match tySize E e with
      |some sz=>if 0≤n∧n<len then partA E e cs (n.toNat*sz) else none
      |none=>none
    | .string,.val (.string s)=>if 0≤n then (s[n.toNat]?).map fun b=> .val (.int .u8 b.toNat) else none
    |_,_=>none
  |_,_=>none
theorem indexA_ok{P:Program}{E:Env}(hE:EOK P E){t:Nat}{x ix:AV}{av:AV}(h:indexA E t x ix=some av){g:G}{u v:Value}(hx:VR g x u)(hv:VR g ix v):PureOK P g (Instr.index t u v) av:=by
  unfold indexA at h
  split at h
  · rename_i i k n hi
    cases hv
    have hu:=(hE.ty t i hi).1
    split at h
    · rename_i len e cs hd
      rw [hd] at hu
      cases hsz:tySize E e with
      |none=>simp [hsz] at h
      |some sz=>
        simp only [hsz] at h
        split at h
        · rename_i hb
          cases hx with
          |agg _ us hus hv h1=>
          obtain ⟨r,hr,hrv⟩:=part_ok hE h (g:=g) (us:=us) ⟨hus,hv⟩ h1
          refine ⟨r,fun w=> ?_,hrv⟩
          unfold Instr.index
          simp only [asIntOf,Sem.run_bind,Sem.run_pure,Result.andThen_ok,run_underlying hu,if_pos hb,tySize_ok hE hsz w]
          exact hr w
        · cases h
    · rename_i s hd
      rw [hd] at hu
      split at h
      · rename_i hb
        cases hx
        cases hs:s[n.toNat]? with
        |none=>simp [hs] at h
        |some b=>
          simp only [hs,Option.map_some,Option.some.injEq] at h
          subst h
          refine ⟨_,fun w=> ?_,.val (.int .u8 b.toNat) rfl⟩
          unfold Instr.index
          simp only [asIntOf,Sem.run_bind,Sem.run_pure,Result.andThen_ok,run_underlying hu,if_pos hb,hs]
      · cases h
    · cases h
  · cases h

def avCells:AV→Option (List AV)
  | .agg cs=>some cs
  |a=>if oneA a then some [a] else none
theorem avCells_ok{g:G}{a:AV}{v:Value}{cs:List AV}(h:avCells a=some cs)(hv:VR g a v):VRs g cs v.cells.toList∧∀u∈v.cells.toList,u.oneCell'=true:=by
  unfold avCells at h
  split at h
  · cases h
    cases hv with
    |agg _ us hus hvs h1=>exact ⟨⟨by simpa [Value.cells] using hus,by simpa [Value.cells] using hvs⟩,by simpa [Value.cells] using h1⟩
  · split at h
    · rename_i h1
      cases h
      have h2:=oneA_ok h1 hv
      have:v.cells= #[v]:=by cases v<;>first|rfl|(simp [Value.oneCell'] at h2)
      rw [this]
      exact ⟨.cons hv (.nil g),by simpa using h2⟩
    · cases h

theorem foldl_set(off:Nat):∀(vs:List Value) (k:Nat) (cells:Array Value),off+k+vs.length≤cells.size→
    ((vs.zipIdx k).foldl (fun cs (c,j)=>cs.setIfInBounds (off+j) c) cells).toList=cells.toList.take (off+k)++vs++cells.toList.drop (off+k+vs.length)
  | [],k,cells,_=>by simp
  |v::vs,k,cells,h=>by
    simp only [List.length_cons] at h
    rw [List.zipIdx_cons,List.foldl_cons,foldl_set off vs (k+1) _ (by simp;omega)]
    simp only [Array.toList_setIfInBounds,List.length_cons]
    apply List.ext_getElem?
    intro i
    simp only [List.getElem?_append,List.length_append,List.length_take,List.length_set,Array.length_toList,List.getElem?_take,List.getElem?_set,List.getElem?_drop,List.length_cons]
    by_cases h1:i<off+k
    · simp [h1,show i<off+(k+1) by omega,show i<cells.size by omega,show i<min (off+(k+1)) cells.size by omega,show i<min (off+k) cells.size by omega,show¬off+k=i by omega,
        show i<min (off+(k+1)) cells.size+vs.length by omega,show i<min (off+k) cells.size+(vs.length+1) by omega]
    · by_cases h2:i=off+k
      · subst h2
        simp [show off+k<off+(k+1) by omega,show off+k<cells.size by omega,show min (off+k) cells.size=off+k by omega,show min (off+(k+1)) cells.size=off+k+1 by omega]
        omega
      · have e1:min (off+k) cells.size=off+k:=by omega
        have e2:min (off+(k+1)) cells.size=off+k+1:=by omega
        rw [e1,e2]
        by_cases h3:i<off+k+(vs.length+1)
        · have h4:i<off+k+1+vs.length:=by omega
          simp only [h3,h4,if_true,if_neg (show¬i<off+k+1 by omega),if_neg h1]
          obtain ⟨m,rfl⟩:∃m,i=off+k+1+m:=⟨i- (off+k+1),by omega⟩
          rw [show off+k+1+m- (off+k+1)=m by omega,show off+k+1+m- (off+k)=m+1 by omega]
          simp
        · have h4:¬i<off+k+1+vs.length:=by omega
          simp only [h3,h4,if_false]
          rw [if_neg (by omega)]
          congr 1
          omega

theorem foldl_cells(off:Nat)(v:Array Value)(us:List Value)(h:off+v.size≤us.length):
    v.zipIdx.foldl (fun cs (c,j)=>cs.setIfInBounds (off+j) c) us.toArray=(us.take off++v.toList++us.drop (off+v.size)).toArray:=by
  have:=foldl_set off v.toList 0 us.toArray (by simpa using h)
  simp only [Nat.add_zero,Array.length_toList] at this
  apply Array.ext'
  simp only []
  rw [←this,←Array.foldl_toList,Array.toList_zipIdx]

def fillA(place:Nat→Option (Nat×Nat))(cells:List AV):List (Nat×AV)→Option (List AV)
  | []=>some cells
  |(i,a)::rest=>match place i,avCells a with
    |some p,some vs=>if vs.length=p.2∧p.1+vs.length≤cells.length then fillA place (cells.take p.1++vs++cells.drop (p.1+vs.length)) rest else none
    |_,_=>none

theorem fill_ok(place:Nat→Option (Nat×Nat)){g:G}:∀(parts:List (Nat×AV)) (parts':List (Nat×Value)) (cells:List AV) (us:List Value) (cells':List AV),
    fillA place cells parts=some cells'→parts'.map (·.1)=parts.map (·.1)→VRs g (parts.map (·.2)) (parts'.map (·.2))→VRs g cells us→(∀u∈us,u.oneCell'=true)→
    ∃us',Instr.fill place us.toArray parts'=some us'.toArray∧VRs g cells' us'∧∀u∈us',u.oneCell'=true
  | [],[],cells,us,cells',h,_,_,hv,h1=>by
    simp only [fillA,Option.some.injEq] at h
    subst h
    exact ⟨us,rfl,hv,h1⟩
  | [],_::_,_,_,_,_,he,_,_,_=>by simp at he
  |_::_,[],_,_,_,_,he,_,_,_=>by simp at he
  |(i,a)::rest,(i',v)::rest',cells,us,cells',h,he,hp,hv,h1=>by
    simp only [List.map_cons,List.cons.injEq] at he
    obtain ⟨rfl,he⟩:=he
    simp only [fillA] at h
    cases hpl:place i' with
    |none=>simp [hpl] at h
    |some p=>
      cases ha:avCells a with
      |none=>simp [hpl,ha] at h
      |some vs=>
        simp only [hpl,ha] at h
        split at h
        · rename_i hc
          obtain ⟨k1,k2⟩:=avCells_ok ha hp.head
          have hlen:v.cells.size=vs.length:=by simpa using k1.1
          have hul:=hv.1
          obtain ⟨us',e1,e2,e3⟩:=fill_ok place rest rest' _ (us.take p.1++v.cells.toList++us.drop (p.1+v.cells.size)) cells' h he hp.tail
            (by rw [hlen];exact ((hv.take _).append k1).append (hv.drop _))
            (by
              intro u hu
              simp only [List.mem_append] at hu
              rcases hu with (hu|hu)|hu
              · exact h1 u (List.mem_of_mem_take hu)
              · exact k2 u hu
              · exact h1 u (List.mem_of_mem_drop hu))
          refine ⟨us',?_,e2,e3⟩
          simp only [Instr.fill,hpl]
          rw [if_neg (by simp [hlen];omega),foldl_cells p.1 v.cells us (by omega)]
          exact e1
        · cases h

/-- the zero value's cells -/
def zeroA(E:Env)(t:Nat):Option (List AV):=
  match E.ty t with
  |some i=>match i.zero with
    |some z=>if z.cells.all (·.oneCell') then some (z.cells.toList.map cv0) else none
    |none=>none
  |none=>none
theorem zeroA_ok{P:Program}{E:Env}(hE:EOK P E){t:Nat}{cs:List AV}(h:zeroA E t=some cs)(g:G):∃f z,P.info? t=some f∧f.zero=some z∧VRs g cs z.cells.toList∧∀u∈z.cells.toList,u.oneCell'=true:=by
  unfold zeroA at h
  split at h
  · rename_i i hi
    obtain ⟨_,f,hf,_,_,hz0⟩:=hE.ty t i hi
    split at h
    · rename_i z hz
      split at h
      · rename_i hall
        cases h
        exact ⟨f,z,hf,hz0.trans hz,VRs.map_cv0 g _,fun u hu=>(Array.all_eq_true_iff_forall_mem.1 hall) u (by simpa using hu)⟩
      · cases h
    · cases h
  · cases h

def placesA(E:Env)(fs:List Field):Option (List (Nat×Nat)):=fs.mapM fun f=>(tySize E f.type).map fun n=>(f.offset,n)
theorem placesA_ok{P:Program}{E:Env}(hE:EOK P E):∀(fs:List Field) (ps:List (Nat×Nat)),placesA E fs=some ps→fs.mapM (fun f=>(P.info? f.type).map fun i=>(f.offset,i.size))=some ps
  | [],ps,h=>by simpa [placesA] using h
  |f::fs,ps,h=>by
    simp only [placesA,List.mapM_cons,Option.bind_eq_bind,Option.pure_def] at h⊢
    cases hi:tySize E f.type with
    |none=>simp [hi] at h
    |some n=>
      have hi':P.info? f.type>>=(fun i=>some (f.offset,i.size))=some (f.offset,n):=by
        unfold tySize at hi
        cases ht:E.ty f.type with
        |none=>simp [ht] at hi
        |some i=>
          simp [ht] at hi
          obtain ⟨_,x,hx,h1,_⟩:=hE.ty _ _ ht
          simp [hx,h1,hi]
      cases hr:placesA E fs with
      |none=>
        have hr':fs.mapM (fun f=>(tySize E f.type).map fun n=>(f.offset,n))=none:=hr
        simp [hi,hr'] at h
      |some rest=>
        have hr':fs.mapM (fun f=>(tySize E f.type).map fun n=>(f.offset,n))=some rest:=hr
        simp [hi,hr'] at h
        subst h
        have:=placesA_ok hE fs rest hr
        cases hp:P.info? f.type with
        |none=>simp [hp] at hi'
        |some x=>
          simp [hp] at hi'
          simp [this,hi']

def buildA(E:Env)(t:Nat)(parts:List (Nat×AV)):Option AV:=
  match E.ty t,zeroA E t with
  |some i,some z=>match i.desc with
    | .struct fs=>match placesA E fs.toList with
      |some ps=>(fillA (fun x=>ps[x]?) z parts).map .agg
      |none=>none
    | .array _ e=>match tySize E e with
      |some sz=>(fillA (fun i=>some (i*sz,sz)) z parts).map .agg
      |none=>none
    |_=>none
  |_,_=>none
theorem buildA_ok{P:Program}{E:Env}(hE:EOK P E){t:Nat}{parts:List (Nat×AV)}{av:AV}(h:buildA E t parts=some av){g:G}{parts':Array (Nat×Value)}
    (he:parts'.toList.map (·.1)=parts.map (·.1)) (hp:VRs g (parts.map (·.2)) (parts'.toList.map (·.2))):PureOK P g (Instr.build t parts') av:=by
  unfold buildA at h
  split at h
  · rename_i i z hi hz
    have hu:=(hE.ty t i hi).1
    obtain ⟨f,zv,hf,hfz,hzv,hz1⟩:=zeroA_ok hE hz g
    split at h
    · rename_i fs hd
      rw [hd] at hu
      cases hps:placesA E fs.toList with
      |none=>simp [hps] at h
      |some ps=>
        simp only [hps,Option.map_eq_some_iff] at h
        obtain ⟨cells',hfill,rfl⟩:=h
        obtain ⟨us',e1,e2,e3⟩:=fill_ok _ parts parts'.toList z zv.cells.toList cells' hfill he hp hzv hz1
        refine ⟨.agg us'.toArray,fun w=>run_build w t parts' us'.toArray ?_,.agg _ _ e2.1 e2.2 e3⟩
        unfold Program.built
        simp only [hf,hu,hfz,placesA_ok hE _ _ hps]
        simpa using e1
    · rename_i n e hd
      rw [hd] at hu
      cases hsz:tySize E e with
      |none=>simp [hsz] at h
      |some sz=>
        simp only [hsz,Option.map_eq_some_iff] at h
        obtain ⟨cells',hfill,rfl⟩:=h
        obtain ⟨us',e1,e2,e3⟩:=fill_ok _ parts parts'.toList z zv.cells.toList cells' hfill he hp hzv hz1
        refine ⟨.agg us'.toArray,fun w=>run_build w t parts' us'.toArray ?_,.agg _ _ e2.1 e2.2 e3⟩
        unfold tySize at hsz
        cases ht:E.ty e with
        |none=>simp [ht] at hsz
        |some ie=>
          simp [ht] at hsz
          obtain ⟨_,x,hx,h1,_⟩:=hE.ty _ _ ht
          unfold Program.built
          simp only [hf,hu,hfz,hx,h1,hsz]
          simpa using e1
    · cases h
  · cases h

def lenA(E:Env)(t:Nat)(x:AV):Option AV:=
  match E.ty t with
  |none=>none
  |some i=>match i.desc,x with
    | .string,.val (.string s)=>some (.val (.int .i64 s.size))
    | .array n _,_=>some (.val (.int .i64 n))
    | .slice _,.nils=>some (.val (.int .i64 0))
    | .slice _,.sl _ _ _ len _=>some (.val (.int .i64 len))
    | .slice _,.imm _ len _ _=>some (.val (.int .i64 len))
    |_,_=>none
theorem lenA_ok{P:Program}{E:Env}(hE:EOK P E){t ty:Nat}{x:AV}{av:AV}(h:lenA E t x=some av){g:G}{u:Value}(hx:VR g x u):PureOK P g (Builtin.len_ #[t] ty #[u]) av:=by
  unfold lenA at h
  cases hi:E.ty t with
  |none=>simp [hi] at h
  |some i=>
    simp only [hi] at h
    have hu:=(hE.ty t i hi).1
    split at h
    all_goals first|(cases h;done)|skip
    all_goals
      rename_i hd
      rw [hd] at hu
      simp only [Option.some.injEq] at h
      subst h
      refine ⟨_,fun w=> ?_,.val _ rfl⟩
      first
        |(cases hx;unfold Builtin.len_;simp only [List.getElem?_toArray,List.getElem?_cons_zero,Sem.run_bind,run_underlying hu,Result.andThen_ok,Sem.run_pure,goInt];done)
        |(cases hx;unfold Builtin.len_;simp only [List.getElem?_toArray,List.getElem?_cons_zero,Sem.run_bind,run_underlying hu,Result.andThen_ok,Sem.run_pure,goInt];rfl)
        |(unfold Builtin.len_;simp only [List.getElem?_toArray,List.getElem?_cons_zero,Sem.run_bind,run_underlying hu,Result.andThen_ok,Sem.run_pure,goInt];done)

def pureA(E:Env)(st:St)(op:Op)(T:Tm):Option AV:=
  match op with
  | .move x=>some (T.eval x)
  | .assign x=>some (T.eval x)
  | .pick c a b=>match T.eval c with
    | .val (.bool p)=>some (if p then T.eval a else T.eval b)
    |_=>none
  | .binOp op t x y _=>match binA E op t (T.eval x) (T.eval y) with
    |some r=>some r
    |none=>match y with
      | .const .nilIface=>nilCmp E op t (T.eval x)
      |_=>none
  | .unOp op _ x=>match T.eval x with
    | .val v=>pureVal (Op.unary op v)
    |_=>none
  | .convert s d x=>match E.ty s,E.ty d,T.eval x with
    |some _,some i,.val (.int _ n)=>match i.desc with
      | .int k=>some (.val (.int k (k.wrap n)))
      |_=>none
    |some _,some i,.val (.string b)=>match i.desc with
      | .string=>some (.val (.string b))
      |_=>none
    |_,_,_=>none
  | .nilCheck x=>match T.eval x with
    | .ptr id off=>some (.ptr id off)
    | .iptr cs=>some (.iptr cs)
    | .fn (.func f) cs ds=>some (.fn (.func f) cs ds)
    |_=>none
  | .fieldAddr s x f=>fieldAddrA E s (T.eval x) f
  | .field t x f=>fieldA E t (T.eval x) f
  | .indexAddr t x i=>indexAddrA E t (T.eval x) (T.eval i)
  | .index t x i=>indexA E t (T.eval x) (T.eval i)
  | .slice t x lo hi mx=>sliceA E st t (T.eval x) (lo.map T.eval) (hi.map T.eval) (mx.map T.eval)
  | .makeFunc fn first captured=>some (.fn fn (first.toList.map T.eval) (captured.toList.map T.eval))
  | .extract x i=>match T.eval x with
    | .tup vs=>vs[i]?
    |_=>none
  | .build t parts=>buildA E t (parts.toList.map fun p=>(p.1,T.eval p.2))
  | .call ⟨.builtin b,args,ts⟩=>match b,args.toList,ts.toList with
    | .len,[x],[t]=>lenA E t (T.eval x)
    | .max,xs,_=>(unscalar (xs.map T.eval)).bind fun vs=>pureVal (Builtin.max_ #[] 0 vs.toArray)
    | .min,xs,_=>(unscalar (xs.map T.eval)).bind fun vs=>pureVal (Builtin.min_ #[] 0 vs.toArray)
    |_,_,_=>none
  |_=>none

theorem VR.val_inv{g:G}{v u:Value}(h:VR g (.val v) u):u=v:=by cases h;rfl
theorem VR.ptr_inv{g:G}{id off:Nat}{u:Value}(h:VR g (.ptr id off) u):id<g.n∧u= .pointer (some ⟨g.blk id,g.base id+off,none⟩):=by cases h with|ptr _ _ h=>exact ⟨h,rfl⟩
theorem VR.iptr_inv{g:G}{cs:List AV}{u:Value}(h:VR g (.iptr cs) u):∃A,u= .pointer (some A):=by cases h with|iptr _ _ A=>exact ⟨A,rfl⟩
theorem VR.fn_inv{g:G}{f:Fn}{cs ds:List AV}{u:Value}(h:VR g (.fn f cs ds) u):∃us vs:List Value,u= .func f us.toArray vs.toArray∧VRs g cs us∧VRs g ds vs:=by
  cases h with|fn _ _ _ us vs h1 h2 h3 h4=>exact ⟨us,vs,rfl,⟨h1,h2⟩,⟨h3,h4⟩⟩
theorem VR.tup_inv{g:G}{cs:List AV}{u:Value}(h:VR g (.tup cs) u):∃us:List Value,u= .tuple us.toArray∧VRs g cs us:=by
  cases h with|tup _ us h1 h2=>exact ⟨us,rfl,⟨h1,h2⟩⟩

theorem TR.evals{g:G}{T:Tm}{a:Act}(hT:TR g T a):∀(xs:List Operand),VRs g (xs.map T.eval) (xs.map a.eval)
  | []=> .nil g
  |x::xs=> .cons (hT.eval x) (hT.evals xs)
theorem TR.evalo{g:G}{T:Tm}{a:Act}(hT:TR g T a)(x:Option Operand):VRo g (x.map T.eval) (x.map a.eval):=by
  cases x with
  |none=>trivial
  |some x=>exact hT.eval x

theorem run_v{P:Program}{s:Sem Value}{w w':World}{u:Value}(h:s.run P w= .ok u w'):((do pure (.value (←s)):Sem Next)).run P w= .ok (.value u) w':=by
  rw [Sem.run_bind,h];rfl

theorem pureA_ok{P:Program}{E:Env}(hE:EOK P E){st:St}{T:Tm}{o:Oper}{av:AV}(h:pureA E st o.op T=some av){g:G}{w0:World}(hok:OK g st w0){a:Act}(hT:TR g T a):
    ∃u,(∀w,(execOp a.eval o).run P w= .ok (.value u) w)∧VR g av u:=by
  have lift:∀{s:Sem Value},PureOK P g s av→(∀w,(execOp a.eval o).run P w=((do pure (.value (←s)):Sem Next)).run P w)→∃u,(∀w,(execOp a.eval o).run P w= .ok (.value u) w)∧VR g av u:=by
    intro s hs he
    obtain ⟨u,hu,hv⟩:=hs
    exact ⟨u,fun w=>by rw [he,run_v (hu w)],hv⟩
  unfold pureA at h
  split at h
  · rename_i x hop
    simp only [Option.some.injEq] at h;subst h
    exact ⟨_,fun w=>by unfold execOp;simp only [hop];rfl,hT.eval x⟩
  · rename_i x hop
    simp only [Option.some.injEq] at h;subst h
    exact ⟨_,fun w=>by unfold execOp;simp only [hop];rfl,hT.eval x⟩
  · rename_i c x y hop
    split at h
    · rename_i p hp
      simp only [Option.some.injEq] at h;subst h
      have hc:=hT.eval c
      rw [hp] at hc
      have hce:a.eval c= .bool p:=hc.val_inv
      refine ⟨if p then a.eval x else a.eval y,fun w=> ?_,by cases p<;>simp<;>exact hT.eval _⟩
      unfold execOp;simp only [hop,hce];rfl
    · cases h
  · rename_i op t x y yt hop
    split at h
    · rename_i r hb
      cases h
      exact lift (binA_ok hE hb (hT.eval x) (hT.eval y) x y) fun w=>by unfold execOp;simp only [hop]
    · split at h
      · exact lift (nilCmp_ok hE h (hT.eval x) x) fun w=>by unfold execOp;simp only [hop];rfl
      · cases h
  · rename_i op t x hop
    split at h
    · rename_i v hv
      have hx:=hT.eval x
      rw [hv] at hx
      have hxe:a.eval x=v:=hx.val_inv
      exact lift (s:=Op.unary op v) (pureVal_ok h P g) fun w=>by unfold execOp;simp only [hop,hxe]
    · cases h
  · rename_i s d x hop
    split at h
    · rename_i is id k n hs hd hx0
      split at h
      · rename_i k' hk
        simp only [Option.some.injEq] at h;subst h
        have hx:=hT.eval x
        rw [hx0] at hx
        have hxe:a.eval x= .int k n:=hx.val_inv
        have h1:=(hE.ty _ _ hs).1
        have h2:=(hE.ty _ _ hd).1
        rw [hk] at h2
        refine lift (s:=convert s d (.int k n)) ⟨_,fun w=> ?_,.val (.int k' (k'.wrap n)) rfl⟩ fun w=>by unfold execOp;simp only [hop,hxe]
        unfold convert
        simp only [Sem.run_bind,run_underlying h1,run_underlying h2,Result.andThen_ok]
        rfl
      · cases h
    · rename_i is id b hs hd hx0
      split at h
      · rename_i hk
        simp only [Option.some.injEq] at h;subst h
        have hx:=hT.eval x
        rw [hx0] at hx
        have hxe:a.eval x= .string b:=hx.val_inv
        have h1:=(hE.ty _ _ hs).1
        have h2:=(hE.ty _ _ hd).1
        rw [hk] at h2
        refine lift (s:=convert s d (.string b)) ⟨_,fun w=> ?_,.val (.string b) rfl⟩ fun w=>by unfold execOp;simp only [hop,hxe]
        unfold convert
        simp only [Sem.run_bind,run_underlying h1,run_underlying h2,Result.andThen_ok]
        rfl
      · cases h
    · cases h
  · rename_i x hop
    have hx:=hT.eval x
    split at h
    · rename_i id off hx0
      simp only [Option.some.injEq] at h;subst h
      rw [hx0] at hx
      have hxe:=hx.ptr_inv.2
      exact ⟨_,fun w=>by unfold execOp;simp only [hop,hxe];rfl,.ptr id off hx.ptr_inv.1⟩
    · rename_i cs hx0
      simp only [Option.some.injEq] at h;subst h
      rw [hx0] at hx
      obtain ⟨A,hxe⟩:=hx.iptr_inv
      rw [hxe] at hx
      exact ⟨_,fun w=>by unfold execOp;simp only [hop,hxe];rfl,hx⟩
    · rename_i f cs ds hx0
      simp only [Option.some.injEq] at h;subst h
      rw [hx0] at hx
      obtain ⟨us,vs,hxe,_,_⟩:=hx.fn_inv
      rw [hxe] at hx
      exact ⟨_,fun w=>by unfold execOp;simp only [hop,hxe];rfl,hx⟩
    · cases h
  · rename_i s x f hop
    exact lift (fieldAddrA_ok hE h (hT.eval x)) fun w=>by unfold execOp;simp only [hop]
  · rename_i t x f hop
    exact lift (fieldA_ok hE h (hT.eval x)) fun w=>by unfold execOp;simp only [hop]
  · rename_i t x i hop
    exact lift (indexAddrA_ok hE h (hT.eval x) (hT.eval i)) fun w=>by unfold execOp;simp only [hop]
  · rename_i t x i hop
    exact lift (indexA_ok hE h (hT.eval x) (hT.eval i)) fun w=>by unfold execOp;simp only [hop]
  · rename_i t x lo hi mx hop
    exact lift (sliceA_ok hE h hok (hT.eval x) (hT.evalo lo) (hT.evalo hi) (hT.evalo mx)) fun w=>by unfold execOp;simp only [hop]
  · rename_i fn first captured hop
    simp only [Option.some.injEq] at h;subst h
    have h1:=hT.evals first.toList
    have h2:=hT.evals captured.toList
    refine ⟨.func fn (first.toList.map a.eval).toArray (captured.toList.map a.eval).toArray,fun w=> ?_,.fn fn _ _ _ _ h1.1 h1.2 h2.1 h2.2⟩
    unfold execOp;simp only [hop,Instr.makeFunc]
    rw [show (first.toList.map a.eval).toArray=first.map a.eval from by apply Array.ext';simp,show (captured.toList.map a.eval).toArray=captured.map a.eval from by apply Array.ext';simp]
    rfl
  · rename_i x i hop
    split at h
    · rename_i vs hx0
      have hx:=hT.eval x
      rw [hx0] at hx
      obtain ⟨us,hxe,hvs⟩:=hx.tup_inv
      obtain ⟨v,hv1,hv2⟩:=hvs.get h
      refine ⟨v,fun w=> ?_,hv2⟩
      unfold execOp;simp only [hop,hxe,Instr.extract,List.getElem?_toArray,hv1]
      rfl
    · cases h
  · rename_i t parts hop
    refine lift (buildA_ok hE h (parts':=parts.map fun (i,x)=>(i,a.eval x)) ?_ ?_) fun w=>by unfold execOp;simp only [hop]
    · simp [Function.comp_def]
    · have:=hT.evals (parts.toList.map (·.2))
      simpa [Function.comp_def] using this
  · rename_i b args ts hop
    split at h
    · rename_i x t hargs hts
      have e1:args= #[x]:=by apply Array.ext';simpa using hargs
      have e2:ts= #[t]:=by apply Array.ext';simpa using hts
      subst e1;subst e2
      exact lift (lenA_ok (ty:=o.type) hE h (hT.eval x)) fun w=>by
        unfold execOp;simp only [hop,resolve,invoke,builtin,Sem.run_bind,Sem.run_pure,Result.andThen_ok];simp
    · cases hu:unscalar (args.toList.map T.eval) with
      |none=>simp [hu] at h
      |some vs=>
        simp only [hu,Option.bind_some] at h
        have he:=unscalar_ok hu (hT.evals args.toList)
        refine lift (s:=Builtin.max_ #[] 0 vs.toArray) (pureVal_ok h P g) fun w=> ?_
        have e3:args.map a.eval=vs.toArray:=by apply Array.ext';simpa using he
        unfold execOp;simp only [hop,resolve,invoke,builtin,Sem.run_bind,Sem.run_pure,Result.andThen_ok,e3];rfl
    · cases hu:unscalar (args.toList.map T.eval) with
      |none=>simp [hu] at h
      |some vs=>
        simp only [hu,Option.bind_some] at h
        have he:=unscalar_ok hu (hT.evals args.toList)
        refine lift (s:=Builtin.min_ #[] 0 vs.toArray) (pureVal_ok h P g) fun w=> ?_
        have e3:args.map a.eval=vs.toArray:=by apply Array.ext';simpa using he
        unfold execOp;simp only [hop,resolve,invoke,builtin,Sem.run_bind,Sem.run_pure,Result.andThen_ok,e3];rfl
    · cases h
  · cases h

/-! ### reading memory -/
theorem cell_of_obj{w:World}{b j:Nat}{cs:Array Value}{t:TypeId}{fr:Nat×Nat}(h:w.heap[b]? =some (.cells cs t fr)):w.cell? ⟨b,j,none⟩=cs[j]? :=by
  simp [World.cell?,h]
theorem pre_get{us cs:List Value}{n j:Nat}{u:Value}(h:us<+:cs.drop n)(hj:us[j]? =some u):cs[n+j]? =some u:=by
  obtain ⟨r,hr⟩:=h
  rw [←List.getElem?_drop,←hr,List.getElem?_append_left (List.getElem?_eq_some_iff.1 hj).1]
  exact hj

/-- a row's cells in the world -/
theorem OK.row_cells{g:G}{st:St}{w:World}(h:OK g st w){id:Nat}{vs:List AV}{ty:TypeId}(hg:st.get id=some (.row vs ty)):
    ∃us,VRs g vs us∧(∀u∈us,u.oneCell'=true)∧∀j u,us[j]? =some u→w.cell? ⟨g.blk id,g.base id+j,none⟩=some u:=by
  obtain ⟨h1,cs,fr,us,h2,h3,h4,h4',h5,_⟩:=h.obj id _ hg
  refine ⟨us,h4,h4',fun j u hj=> ?_⟩
  rw [cell_of_obj h2]
  have:=pre_get h5 hj
  simpa using this
theorem OK.imm_cells{g:G}{st:St}{w:World}(h:OK g st w){A:Addr}{us:List Value}(hA:A.spot=none∧us<+:(g.M A.block).drop A.off):∀j u,us[j]? =some u→w.cell? (A.add j)=some u:=by
  intro j u hj
  obtain ⟨b,o,sp⟩:=A
  obtain ⟨hs,hp⟩:=hA
  simp only at hs hp
  subst hs
  have hne:g.M b≠ []:=by
    intro h0
    rw [h0] at hp
    simp at hp
    subst hp
    simp at hj
  obtain ⟨cs,T,fr,h1,h2⟩:=h.imm b hne
  rw [add_mid',cell_of_obj h1]
  have h3:=pre_get hp hj
  have:cs.toList[o+j]? =some u:=by rw [←h2];exact h3
  simpa using this

theorem load_part{P:Program}{E:Env}(hE:EOK P E){t:Nat}{cs:List AV}{off:Nat}{av:AV}(h:partA E t cs off=some av){g:G}{us:List Value}(hv:VRs g cs us)(h1:∀u∈us,u.oneCell'=true)
    {w:World} {b o:Nat} (hc:∀j u,us[j]? =some u→w.cell? ⟨b,o+j,none⟩=some u):∃r,(Instr.loadAt t (.pointer (some ⟨b,o+off,none⟩))).run P w= .ok r w∧VR g av r:=by
  unfold partA at h
  cases hi:E.ty t with
  |none=>simp [hi] at h
  |some i=>
    simp only [hi] at h
    have hu:=(hE.ty t i hi).1
    obtain ⟨_,f,hf,hs1,_⟩:=hE.ty t i hi
    split at h
    · rename_i ha
      split at h
      · rename_i hle
        cases h
        have hd:=(hv.drop off).take i.size
        have h1':∀u∈(us.drop off).take i.size,u.oneCell'=true:=fun u hu=>h1 u (List.mem_of_mem_drop (List.mem_of_mem_take hu))
        refine ⟨.agg ((us.drop off).take i.size).toArray,run_loadAt_mid w b (o+off) t _ i.desc (fun j v hj=> ?_) hu ?_ ?_,.agg _ _ hd.1 hd.2 h1'⟩
        · rw [List.getElem?_take] at hj
          split at hj
          · rw [List.getElem?_drop] at hj
            rw [Nat.add_assoc]
            exact hc _ _ hj
          · cases hj
        · unfold isAggD at ha
          split at ha<;>simp_all [TypeDesc.isRow]
        · have:=hv.1
          simp [hf,hs1]
          omega
      · cases h
    · rename_i ha
      obtain ⟨u,hu1,hv1⟩:=hv.get h
      refine ⟨u,?_,hv1⟩
      have:(isAgg t).run P w= .ok false w:=by
        unfold isAgg
        rw [Sem.run_bind,run_underlying hu,Result.andThen_ok]
        unfold isAggD at ha
        split<;>simp_all [Sem.run_pure]
      unfold Instr.loadAt Instr.sureAddr loadVar
      rw [Sem.run_bind,Sem.run_pure,Result.andThen_ok,Sem.run_bind,this,Result.andThen_ok]
      simp only [Bool.false_eq_true,if_false,run_load,hc _ _ hu1]

def loadA(E:Env)(st:St)(t:Nat)(x:AV):Option AV:=
  match x with
  | .ptr id off=>match st.get id with
    |some (.row vs _)=>partA E t vs off
    |_=>none
  | .iptr cs=>partA E t cs 0
  |_=>none
theorem loadA_ok{P:Program}{E:Env}(hE:EOK P E){st:St}{t:Nat}{x:AV}{av:AV}(h:loadA E st t x=some av){g:G}{w:World}(hok:OK g st w){u:Value}(hx:VR g x u):
    ∃r,(Instr.loadAt t u).run P w= .ok r w∧VR g av r:=by
  unfold loadA at h
  split at h
  · rename_i id off
    split at h
    · rename_i vs ty hg
      obtain ⟨us,h1,h2,h3⟩:=hok.row_cells hg
      rw [hx.ptr_inv.2]
      exact load_part hE h h1 h2 h3
    · cases h
  · rename_i cs
    cases hx with
    |iptr _ us A hus hvs h1 hA=>
    have hc:=hok.imm_cells hA
    obtain ⟨b,o,sp⟩:=A
    obtain ⟨hs,hp⟩:=hA
    simp only at hs
    subst hs
    have:=load_part hE h (g:=g) (us:=us) ⟨hus,hvs⟩ h1 (w:=w) (b:=b) (o:=o) (fun j u hj=>by have:=hc j u hj;rwa [add_mid'] at this)
    simpa using this
  · cases h

/-- a slice's elements' cells -/
def sliceCells(st:St)(x:AV):Option (Nat×List AV):=
  match x with
  | .nils=>some (0,[])
  | .sl id sz off len _=>match st.get id with
    |some (.row vs _)=>if off+len*sz≤vs.length then some (len,(vs.drop off).take (len*sz)) else none
    |_=>none
  | .imm _ len _ cells=>some (len,cells)
  |_=>none
theorem sliceCells_ok{st:St}{x:AV}{r:Nat×List AV}(h:sliceCells st x=some r){g:G}{w:World}(hok:OK g st w){u:Value}(hx:VR g x u):
    ∃a c us,u= .slice a r.1 c∧r.1≤c∧c≤maxLen∧(a=none→c=0∧r.2= [])∧VRs g r.2 us∧(∀v∈us,v.oneCell'=true)∧
      (us≠ []→∃b o,a=some ⟨b,o,none⟩∧∀j v,us[j]? =some v→w.cell? ⟨b,o+j,none⟩=some v):=by
  unfold sliceCells at h
  split at h
  · cases h
    cases hx
    exact ⟨none,0,[],rfl,Nat.le_refl _,Nat.zero_le _,fun _=>⟨rfl,rfl⟩,.nil g,by simp,fun h=>absurd rfl h⟩
  · rename_i id sz off len full
    split at h
    · rename_i vs ty hg
      split at h
      · rename_i hle
        cases h
        cases hx with
        |sl _ _ _ _ cap _ hid hc hl hf hm=>
        obtain ⟨us,h1,h2,h3⟩:=hok.row_cells hg
        refine ⟨_,cap,(us.drop off).take (len*sz),rfl,hl,hm,(fun h=>by cases h),(h1.drop off).take _,fun v hv=>h2 v (List.mem_of_mem_drop (List.mem_of_mem_take hv)),fun _=>⟨_,_,rfl,fun j v hj=> ?_⟩⟩
        rw [List.getElem?_take] at hj
        split at hj
        · rw [List.getElem?_drop] at hj
          rw [Nat.add_assoc]
          exact h3 _ _ hj
        · cases hj
      · cases h
    · cases h
  · rename_i sz len full cells
    cases h
    cases hx with
    |imm _ _ cap _ _ us A hn hus hvs h1 hA hl hf hm=>
    refine ⟨some A,cap,us,rfl,hl,hm,(fun h=>by cases h),⟨hus,hvs⟩,h1,fun hne=> ?_⟩
    have h0:len*sz≠0:=by
      intro h0
      apply hne
      exact List.eq_nil_of_length_eq_zero (by rw [hus,hn,h0])
    have hc:=hok.imm_cells (hA h0)
    obtain ⟨b,o,sp⟩:=A
    have hs:=(hA h0).1
    simp only at hs
    subst hs
    exact ⟨b,o,rfl,fun j v hj=>by have:=hc j v hj;rwa [add_mid'] at this⟩
  · cases h

def numsA:List AV→Option (List Int)
  | []=>some []
  | .val (.int .u8 n)::r=>(numsA r).map (n:: ·)
  |_=>none
theorem numsA_ok{g:G}:∀{cs:List AV} {xs:List Int} {us:List Value},numsA cs=some xs→VRs g cs us→us=xs.map (Value.int .u8)
  | [],xs,us,h,hv=>by
    simp only [numsA,Option.some.injEq] at h
    subst h
    exact List.eq_nil_of_length_eq_zero (by simpa using hv.1)
  |c::cs,xs,us,h,hv=>by
    cases us with
    |nil=>simp [VRs] at hv
    |cons u us=>
      have h1:=hv.head
      have h2:=hv.tail
      unfold numsA at h
      split at h
      · rename_i heq;cases heq
      · rename_i n r heq
        cases heq
        simp only [Option.map_eq_some_iff] at h
        obtain ⟨r',hr,rfl⟩:=h
        rw [numsA_ok hr h2,h1.val_inv]
        rfl
      · cases h

def bytesStrA(E:Env)(st:St)(s d:Nat)(x:AV):Option AV:=
  match E.ty s,E.ty d,sliceCells st x with
  |some i,some j,some r=>match i.desc,j.desc with
    | .slice e,.string=>match E.ty e with
      |some k=>match k.desc with
        | .int .u8=>match numsA r.2 with
          |some xs=>if xs.length=r.1 then some (.val (.string (strOfNums xs))) else none
          |none=>none
        |_=>none
      |none=>none
    |_,_=>none
  |_,_,_=>none
theorem bytesStrA_ok{P:Program}{E:Env}(hE:EOK P E){st:St}{s d:Nat}{x:AV}{av:AV}(h:bytesStrA E st s d x=some av){g:G}{w:World}(hok:OK g st w){u:Value}(hx:VR g x u):
    ∃r,(convert s d u).run P w= .ok r w∧VR g av r:=by
  unfold bytesStrA at h
  split at h
  · rename_i i j r hi hj hr
    split at h
    · rename_i e hd1 hd2
      cases hk:E.ty e with
      |none=>simp [hk] at h
      |some k=>
        simp only [hk] at h
        split at h
        · rename_i hd3
          cases hn:numsA r.2 with
          |none=>simp [hn] at h
          |some xs=>
            simp only [hn] at h
            split at h
            · rename_i hlen
              simp only [Option.some.injEq] at h
              subst h
              have h1:=(hE.ty _ _ hi).1
              have h2:=(hE.ty _ _ hj).1
              have h3:=(hE.ty _ _ hk).1
              rw [hd1] at h1
              rw [hd2] at h2
              rw [hd3] at h3
              obtain ⟨a,c,us,rfl,hl,_,hnil,hvs,hone,hcell⟩:=sliceCells_ok hr hok hx
              have hus:=numsA_ok hn hvs
              refine ⟨.string (strOfNums xs),?_,.val _ rfl⟩
              cases a with
              |none=>
                obtain ⟨hc0,hr0⟩:=hnil rfl
                have hx0:xs= []:=List.eq_nil_of_length_eq_zero (by omega)
                subst hx0
                exact run_convert_bytes_nil w s e h1 h3 _ _ d h2
              |some A=>
                by_cases h0:us= []
                · have hx0:xs= []:=by rw [h0] at hus;simpa using hus.symm
                  subst hx0
                  simp only [List.length_nil] at hlen
                  rw [←hlen]
                  unfold convert
                  simp only [Sem.run_bind,run_underlying h1,run_underlying h2,run_underlying h3,Result.andThen_ok]
                  rfl
                · obtain ⟨b,o,hA,hcs⟩:=hcell h0
                  simp only [Option.some.injEq] at hA
                  subst hA
                  refine run_convert_bytes_arg w s e h1 h3 b o r.1 c xs hlen (fun i hi=>hcs i _ ?_) d h2
                  rw [hus]
                  simp [List.getElem?_eq_getElem (show i<xs.length by omega),List.getD_eq_getElem?_getD]
            · cases h
        · cases h
    · cases h
  · cases h

/-! ### steps of the world -/
theorem ObjR.keep{g g':G}{w w':World}{id:Nat}{o:AObj}(h:ObjR g w id o)(hg:g.le g')(hid:id<g.n)(hw:w'.heap[g.blk id]? =w.heap[g.blk id]?):ObjR g' w' id o:=by
  cases o with
  |row vs ty=>
    obtain ⟨cs,fr,us,h1,h2,h3,h4,h5,h6⟩:=h
    refine ⟨cs,fr,us,?_,?_,h3.mono hg,h4,?_,h6⟩
    · rw [hg.blk id hid,hw];exact h1
    · rw [hg.base id hid,hg.siz id hid];exact h2
    · rw [hg.base id hid];exact h5
  |map es bs clock=>
    obtain ⟨es',h1,h2,h3,h4,h5⟩:=h
    refine ⟨es',?_,h2.mono hg,h3.mono hg,h4,h5⟩
    rw [hg.blk id hid,hw];exact h1
  |iter m since seen c0=>
    obtain ⟨h1,h2,h3⟩:=h
    refine ⟨?_,Nat.lt_of_lt_of_le h2 hg.n,by rw [hg.base id hid];exact h3⟩
    rw [hg.blk id hid,hg.blk m h2,hw];exact h1
  |siter s pos=>
    obtain ⟨h1,h3⟩:=h
    refine ⟨?_,by rw [hg.base id hid];exact h3⟩
    rw [hg.blk id hid,hw];exact h1
theorem ObjR.lt{g:G}{w:World}{id:Nat}{o:AObj}(h:ObjR g w id o):g.blk id<w.heap.size:=by
  cases o with
  |row vs ty=>obtain ⟨cs,fr,us,h1,_⟩:=h;exact (Array.getElem?_eq_some_iff.1 h1).1
  |map es bs clock=>obtain ⟨es',h1,_⟩:=h;exact (Array.getElem?_eq_some_iff.1 h1).1
  |iter m since seen c0=>exact (Array.getElem?_eq_some_iff.1 h.1).1
  |siter s pos=>exact (Array.getElem?_eq_some_iff.1 h.1).1
theorem OK.lt{g:G}{st:St}{w:World}(h:OK g st w){id:Nat}{o:AObj}(ho:st.get id=some o):id<g.n∧g.blk id<w.heap.size:=⟨by rw [h.n];exact (h.obj id o ho).1,(h.obj id o ho).2.lt⟩
theorem OK.immlt{g:G}{st:St}{w:World}(h:OK g st w){b:Nat}(hb:g.M b≠ []):b<w.heap.size:=by
  obtain ⟨cs,T,fr,h1,_⟩:=h.imm b hb
  exact (Array.getElem?_eq_some_iff.1 h1).1

/-- The world has moved on where the store does not look (an order was drawn ..). -/
theorem step_idle{g:G}{st:St}{w w':World}(h:OK g st w)(hh:w'.heap=w.heap)(ho:w'.os=w.os)(ht:w'.tape=w.tape)(hu:w'.output=w.output):Step g st w g st w':=by
  refine ⟨.refl g,⟨fun b hb=>by rw [hh];exact h.imm b hb,fun id o hg=>⟨(h.obj id o hg).1,(h.obj id o hg).2.keep (.refl g) (h.lt hg).1 (by rw [hh])⟩,h.inj,h.sep,h.n,h.glob⟩,ho,ht,hu,by rw [hh];exact Nat.le_refl _,fun _ _ _=>by rw [hh],fun id o hg _=>⟨id,o,hg,rfl,fun _=>⟨rfl,rfl⟩⟩,fun _ _ _=>rfl,rfl,rfl⟩

def G.add(g:G)(b base siz:Nat):G:=
  { g with n:=g.n+1,blk:=fun i=>if i=g.n then b else g.blk i,base:=fun i=>if i=g.n then base else g.base i,siz:=fun i=>if i=g.n then siz else g.siz i}
theorem G.le_add(g:G)(b base siz:Nat):g.le (g.add b base siz):=
  ⟨Nat.le_succ _,fun id h=>if_neg (by omega),fun id h=>if_neg (by omega),fun id h=>if_neg (by omega),fun _=> .inr rfl⟩
@[simp] theorem G.add_n (g:G) (b base siz:Nat):(g.add b base siz).n=g.n+1:=rfl
@[simp] theorem G.add_blk (g:G) (b base siz:Nat):(g.add b base siz).blk g.n=b:=if_pos rfl
@[simp] theorem G.add_base (g:G) (b base siz:Nat):(g.add b base siz).base g.n=base:=if_pos rfl
@[simp] theorem G.add_siz (g:G) (b base siz:Nat):(g.add b base siz).siz g.n=siz:=if_pos rfl
@[simp] theorem G.add_M (g:G) (b base siz:Nat):(g.add b base siz).M=g.M:=rfl

/-- A new object in a new block. -/
theorem step_new{g:G}{st:St}{w w':World}(h:OK g st w)(ob:Obj)(siz:Nat)(o:AObj)(hh:w'.heap=w.heap.push ob)(hos:w'.os=w.os)(ht:w'.tape=w.tape)(hu:w'.output=w.output)
    (hR:ObjR (g.add w.heap.size 0 siz) w' g.n o):Step g st w (g.add w.heap.size 0 siz) (st.push o) w':=by
  have old:∀k,k<w.heap.size→w'.heap[k]? =w.heap[k]? :=fun k hk=>by rw [hh,Array.getElem?_push,if_neg (by omega)]
  have hle:=g.le_add w.heap.size 0 siz
  refine ⟨hle,⟨fun b hb=> ?_,fun id o' hg=> ?_,fun id o1 id' o2 h1 h2 he=> ?_,fun id o' hg=> ?_,by simp [h.n],fun p hp=>(h.glob p hp).mono hle⟩,hos,ht,hu,by rw [hh];simp,fun b hb _=>old b hb,fun id o' hg hlt=> ?_,fun _ _ _=>rfl,rfl,rfl⟩
  · obtain ⟨cs,T,fr,h1,h2⟩:=h.imm b hb
    exact ⟨cs,T,fr,by rw [old b (h.immlt hb)];exact h1,h2⟩
  · rw [St.get_push] at hg
    split at hg
    · rename_i e
      cases hg
      subst e
      refine ⟨Nat.lt_succ_self _,?_⟩
      rw [←h.n];exact hR
    · obtain ⟨h1,h2⟩:=h.obj id o' hg
      exact ⟨Nat.lt_succ_of_lt h1,h2.keep hle (h.lt hg).1 (old _ (h.lt hg).2)⟩
  · rw [St.get_push] at h1 h2
    rw [←h.n] at h1 h2
    split at h1<;>split at h2
    · rename_i a b;exact a.trans b.symm
    · rename_i a b
      subst a
      rw [G.add_blk,hle.blk id' (h.lt h2).1] at he
      have:=(h.lt h2).2
      omega
    · rename_i a b
      subst b
      rw [G.add_blk,hle.blk id (h.lt h1).1] at he
      have:=(h.lt h1).2
      omega
    · rw [hle.blk id (h.lt h1).1,hle.blk id' (h.lt h2).1] at he
      exact h.inj id o1 id' o2 h1 h2 he
  · rw [St.get_push,←h.n] at hg
    split at hg
    · rename_i e
      subst e
      rw [G.add_blk,G.add_M]
      by_cases hM:g.M w.heap.size= []
      · exact hM
      · exact absurd (h.immlt hM) (Nat.lt_irrefl _)
    · rw [hle.blk id (h.lt hg).1]
      exact h.sep id o' hg
  · rw [St.get_push,←h.n] at hg
    split at hg
    · rename_i e
      subst e
      rw [G.add_blk] at hlt
      omega
    · exact ⟨id,o',hg,(hle.blk id (h.lt hg).1).symm,fun _=>⟨rfl,rfl⟩⟩

/-- An object's block is written. -/
theorem step_set{g:G}{st:St}{w w':World}(h:OK g st w){id:Nat}{o0:AObj}(hgw:st.wget id=some o0)(o:AObj)(hos:w'.os=w.os)(ht:w'.tape=w.tape)(hu:w'.output=w.output)
    (hsz:w'.heap.size=w.heap.size) (hold:∀k,k≠g.blk id→w'.heap[k]? =w.heap[k]?) (hR:ObjR g w' id o):Step g st w g (st.set id o) w':=by
  obtain ⟨hg,hlk⟩:=St.wget_get hgw
  refine ⟨.refl g,⟨fun b hb=> ?_,fun id' o' hg'=> ?_,fun i1 o1 i2 o2 h1 h2 he=> ?_,fun id' o' hg'=> ?_,h.n,h.glob⟩,hos,ht,hu,by rw [hsz];exact Nat.le_refl _,fun b _ hn=>hold b (fun e=>hn id o0 hgw e.symm),fun id' o' hg' _=> ?_,fun _ _ _=>rfl,rfl,rfl⟩
  · obtain ⟨cs,T,fr,h1,h2⟩:=h.imm b hb
    refine ⟨cs,T,fr,?_,h2⟩
    rw [hold b]
    · exact h1
    · intro e
      subst e
      exact hb (h.sep id o0 hg)
  · rw [St.get_set] at hg'
    split at hg'
    · rename_i e
      cases hg'
      subst e
      exact ⟨(h.obj id' o0 hg).1,hR⟩
    · rename_i e
      obtain ⟨h1,h2⟩:=h.obj id' o' hg'
      exact ⟨h1,h2.keep (.refl g) (h.lt hg').1 (hold _ (fun he=>e (h.inj id' o' id o0 hg' hg he)))⟩
  · have q:∀i o,(st.set id o).get i=some o→True:=fun _ _ _=>trivial
    have live:∀(i:Nat) (o':AObj),(st.set id o).get i=some o'→∃o'',st.get i=some o'':=by
      intro i o' hi
      rw [St.get_set] at hi
      split at hi
      · rename_i e;subst e;exact ⟨o0,hg⟩
      · exact ⟨o',hi⟩
    obtain ⟨p1,k1⟩:=live i1 o1 h1
    obtain ⟨p2,k2⟩:=live i2 o2 h2
    exact h.inj i1 p1 i2 p2 k1 k2 he
  · rw [St.get_set] at hg'
    split at hg'
    · rename_i e;subst e;exact h.sep id' o0 hg
    · exact h.sep id' o' hg'
  · rw [St.get_set] at hg'
    split at hg'
    · rename_i e;subst e;exact ⟨id',o0,hg,rfl,fun hl=>absurd hl hlk⟩
    · exact ⟨id',o',hg',rfl,fun _=>⟨rfl,rfl⟩⟩

/-- A row goes on under a new number, its block written. -/
theorem step_regrow{g:G}{st:St}{w w':World}(h:OK g st w){id:Nat}{o0:AObj}(hgw:st.wget id=some o0)(o:AObj)(base siz:Nat)(hos:w'.os=w.os)(ht:w'.tape=w.tape)(hu:w'.output=w.output)
    (hsz:w'.heap.size=w.heap.size) (hold:∀k,k≠g.blk id→w'.heap[k]? =w.heap[k]?) (hR:ObjR (g.add (g.blk id) base siz) w' g.n o):Step g st w (g.add (g.blk id) base siz) ((st.del id).push o) w':=by
  obtain ⟨hg,hlk⟩:=St.wget_get hgw
  have hle:=g.le_add (g.blk id) base siz
  have get':∀i o',((st.del id).push o).get i=some o'→(i=g.n∧o'=o)∨(i≠g.n∧i≠id∧st.get i=some o'):=by
    intro i o' hi
    rw [St.get_push,St.next_del,←h.n] at hi
    split at hi
    · rename_i e;cases hi;exact .inl ⟨e,rfl⟩
    · rename_i e
      rw [St.get_del] at hi
      split at hi
      · cases hi
      · rename_i e2;exact .inr ⟨e,e2,hi⟩
  refine ⟨hle,⟨fun b hb=> ?_,fun i o' hi=> ?_,fun i1 o1 i2 o2 h1 h2 he=> ?_,fun i o' hi=> ?_,by simp [h.n],fun p hp=>(h.glob p hp).mono hle⟩,hos,ht,hu,by rw [hsz];exact Nat.le_refl _,fun b _ hn=>hold b (fun e=>hn id o0 hgw e.symm),fun i o' hi _=> ?_,fun _ _ _=>rfl,rfl,rfl⟩
  · obtain ⟨cs,T,fr,h1,h2⟩:=h.imm b hb
    refine ⟨cs,T,fr,?_,h2⟩
    rw [hold b]
    · exact h1
    · intro e
      subst e
      exact hb (h.sep id o0 hg)
  · rcases get' i o' hi with ⟨rfl,rfl⟩|⟨e1,e2,hi'⟩
    · exact ⟨by simp [h.n],hR⟩
    · obtain ⟨h1,h2⟩:=h.obj i o' hi'
      exact ⟨Nat.lt_succ_of_lt h1,h2.keep hle (h.lt hi').1 (hold _ (fun he=>e2 (h.inj i o' id o0 hi' hg he)))⟩
  · rcases get' i1 o1 h1 with ⟨rfl,rfl⟩|⟨a1,a2,k1⟩<;>rcases get' i2 o2 h2 with ⟨rfl,rfl⟩|⟨b1,b2,k2⟩
    · rfl
    · rw [G.add_blk,hle.blk i2 (h.lt k2).1] at he
      exact absurd (h.inj i2 o2 id o0 k2 hg he.symm) b2
    · rw [G.add_blk,hle.blk i1 (h.lt k1).1] at he
      exact absurd (h.inj i1 o1 id o0 k1 hg he) a2
    · rw [hle.blk i1 (h.lt k1).1,hle.blk i2 (h.lt k2).1] at he
      exact h.inj i1 o1 i2 o2 k1 k2 he
  · rcases get' i o' hi with ⟨rfl,rfl⟩|⟨e1,e2,hi'⟩
    · rw [G.add_blk];exact h.sep id o0 hg
    · rw [hle.blk i (h.lt hi').1];exact h.sep i o' hi'
  · rcases get' i o' hi with ⟨rfl,rfl⟩|⟨e1,e2,hi'⟩
    · exact ⟨id,o0,hg,(G.add_blk ..).symm,fun hl=>absurd hl hlk⟩
    · exact ⟨i,o',hi',(hle.blk i (h.lt hi').1).symm,fun _=>⟨rfl,rfl⟩⟩

/-- A new row. -/
theorem step_row{g:G}{st:St}{w w':World}(h:OK g st w){vs:List AV}{us:List Value}{cs:Array Value}{ty:TypeId}{fr:Nat×Nat}(hh:w'.heap=w.heap.push (.cells cs ty fr))(hos:w'.os=w.os)
    (ht:w'.tape=w.tape) (hu:w'.output=w.output) (hv:VRs g vs us) (h1:∀u∈us,u.oneCell'=true) (hp:us<+:cs.toList) (hf:fr.1=fr.2∨cs.size≤fr.1):
    Step g st w (g.add w.heap.size 0 cs.size) (st.push (.row vs ty)) w':=
  step_new h _ cs.size _ hh hos ht hu ⟨cs,fr,us,by rw [G.add_blk,hh];simp,by simp,hv.mono (g.le_add ..),h1,by simpa using hp,hf⟩

/-! ### operations that write -/
def EffOK(P:Program)(g:G)(st:St)(w:World)(s:Sem Value)(r:AV×St):Prop:=
  ∃u w' g',s.run P w= .ok u w'∧Step g st w g' r.2 w'∧VR g' r.1 u

theorem run_zero{P:Program}{t:Nat}{f:TypeInfo}{z:Value}(hf:P.info? t=some f)(hz:f.zero=some z)(w:World):(zeroValue t).run P w= .ok z w:=by
  simp [zeroValue,typeInfo,program,Sem.run_bind,Sem.run,hf,Result.andThen,hz]

theorem newVar_ok{P:Program}{g:G}{st:St}{w:World}(hok:OK g st w){t:Nat}{vs:List AV}{us:List Value}{v:Value}(hv:VRs g vs us)(h1:∀u∈us,u.oneCell'=true)(he:v.cells.toList=us):
    EffOK P g st w (do pure (.pointer (some (←newVar t v)))) (.ptr st.next 0,st.push (.row vs t)):=by
  refine ⟨.pointer (some ⟨w.heap.size,0,none⟩),{w with heap:=w.heap.push (.cells v.cells t)},g.add w.heap.size 0 v.cells.size,rfl,
    step_row hok (fr:=(0,0)) rfl rfl rfl rfl hv h1 (by rw [he];exact List.prefix_refl _) (by simp),?_⟩
  rw [←hok.n]
  have:=VR.ptr (g:=g.add w.heap.size 0 v.cells.size) g.n 0 (Nat.lt_succ_self _)
  simpa using this

def allocA(E:Env)(st:St)(t:Nat):Option (AV×St):=
  match zeroA E t with
  |some z=>some (.ptr st.next 0,st.push (.row z t))
  |none=>none
theorem allocA_ok{P:Program}{E:Env}(hE:EOK P E){st:St}{t:Nat}{r:AV×St}(h:allocA E st t=some r){g:G}{w:World}(hok:OK g st w):EffOK P g st w (Instr.alloc t true (.tuple #[])) r:=by
  unfold allocA at h
  split at h
  · rename_i z hz
    cases h
    obtain ⟨f,zv,hf,hfz,hzv,hz1⟩:=zeroA_ok hE hz g
    obtain ⟨u,w',g',h1,h2,h3⟩:=newVar_ok (P:=P) hok (t:=t) hzv hz1 rfl
    refine ⟨u,w',g',?_,h2,h3⟩
    unfold Instr.alloc
    rw [Sem.run_bind,run_zero hf hfz,Result.andThen_ok]
    exact h1
  · cases h

def boxA(st:St)(t:Nat)(x:AV):Option (AV×St):=
  match avCells x with
  |some cs=>some (.ptr st.next 0,st.push (.row cs t))
  |none=>none
theorem boxA_ok{P:Program}{st:St}{t:Nat}{x:AV}{r:AV×St}(h:boxA st t x=some r){g:G}{w:World}(hok:OK g st w){u:Value}(hx:VR g x u):EffOK P g st w (Instr.box t u) r:=by
  unfold boxA at h
  split at h
  · rename_i cs hc
    cases h
    obtain ⟨h1,h2⟩:=avCells_ok hc hx
    exact newVar_ok hok h1 h2 rfl
  · cases h

theorem newRow_ok{P:Program}{g:G}{st:St}{w:World}(hok:OK g st w){e sz n c:Nat}{vs:List AV}{us:List Value}{cells:Array Value}(hv:VRs g vs us)(h1:∀u∈us,u.oneCell'=true)(he:us<+:cells.toList)
    (hsz:cells.size=c*sz) (hnc:n≤c) (hm:c≤maxLen) (full:Bool) (hf:full=true→c=n):
    EffOK P g st w (do pure (.slice (some (←newRow e cells)) n c)) (.sl st.next sz 0 n full,st.push (.row vs e)):=by
  refine ⟨.slice (some ⟨w.heap.size,0,none⟩) n c,{w with heap:=w.heap.push (.cells cells e)},g.add w.heap.size 0 cells.size,rfl,
    step_row hok (fr:=(0,0)) rfl rfl rfl rfl hv h1 he (by simp),?_⟩
  rw [←hok.n]
  have:=VR.sl (g:=g.add w.heap.size 0 cells.size) g.n sz 0 n c full (Nat.lt_succ_self _) (by simp [hsz]) hnc hf hm
  simpa using this

/-- n zero elements -/
def zerosA(z:List AV)(n:Nat):List AV:=(List.range n).map fun i=>z.getD (i%z.length) .undef

theorem zeros_ok{g:G}{z:List AV}{us:List Value}(h:VRs g z us)(h1:∀u∈us,u.oneCell'=true)(n:Nat)(hn:n=0∨z≠ []):
    VRs g (zerosA z n) ((List.range n).map fun i=>us.toArray[i%us.toArray.size]!)∧∀u∈((List.range n).map fun i=>us.toArray[i%us.toArray.size]!),u.oneCell'=true:=by
  rcases hn with rfl|hz
  · exact ⟨by simpa [zerosA] using VRs.nil g,by simp⟩
  · have hpos:0<z.length:=List.length_pos_iff.2 hz
    have hul:=h.1
    refine ⟨.of_get (by simp [zerosA]) fun i c u hc hu=> ?_,fun u hu=> ?_⟩
    · simp only [zerosA,List.getElem?_map,Option.map_eq_some_iff] at hc hu
      obtain ⟨j,hj,rfl⟩:=hc
      obtain ⟨j',hj',rfl⟩:=hu
      rw [hj] at hj'
      cases hj'
      have hlt:j%z.length<z.length:=Nat.mod_lt _ hpos
      have:=h.2 (j%z.length) hlt
      simp only [List.size_toArray,hul]
      rw [List.getElem!_toArray]
      rw [List.getD_eq_getElem?_getD,List.getD_eq_getElem?_getD,List.getElem?_eq_getElem (show j%z.length<us.length by omega)] at this
      rw [List.getD_eq_getElem?_getD]
      simpa [getElem!_def,List.getElem?_eq_getElem (show j%z.length<us.length by omega)] using this
    · simp only [List.mem_map] at hu
      obtain ⟨j,_,rfl⟩:=hu
      have hlt:j%us.length<us.length:=Nat.mod_lt _ (by omega)
      apply h1
      simp only [List.size_toArray,List.getElem!_toArray]
      simp [getElem!_def,List.getElem?_eq_getElem hlt]

def buildSliceA(E:Env)(st:St)(t len:Nat)(parts:List (Nat×AV)):Option (AV×St):=
  match E.ty t with
  |some i=>match i.desc with
    | .slice e=>match tySize E e,zeroA E e with
      |some sz,some z=>if len*sz≤16777216∧z≠ []∧len≤16777216 then
          (match fillA (fun i=>some (i*sz,sz)) (zerosA z (len*sz)) parts with
          |some cells=>if cells.length=len*sz then some (.sl st.next sz 0 len true,st.push (.row cells e)) else none
          |none=>none) else none
      |_,_=>none
    |_=>none
  |none=>none
theorem buildSliceA_ok{P:Program}{E:Env}(hE:EOK P E){st:St}{t len:Nat}{parts:List (Nat×AV)}{r:AV×St}(h:buildSliceA E st t len parts=some r){g:G}{w:World}(hok:OK g st w){parts':Array (Nat×Value)}
    (he:parts'.toList.map (·.1)=parts.map (·.1)) (hp:VRs g (parts.map (·.2)) (parts'.toList.map (·.2))):EffOK P g st w (Instr.buildSlice t len parts') r:=by
  unfold buildSliceA at h
  split at h
  · rename_i i hi
    have hu:=(hE.ty t i hi).1
    split at h
    · rename_i e hd
      rw [hd] at hu
      split at h
      · rename_i sz z hsz hz
        split at h
        · rename_i hc
          split at h
          · rename_i cells hfill
            split at h
            · rename_i hlen
              cases h
              obtain ⟨f,zv,hf,hfz,hzv,hz1⟩:=zeroA_ok hE hz g
              obtain ⟨hz2,hz3⟩:=zeros_ok hzv hz1 (len*sz) (.inr hc.2.1)
              obtain ⟨us',e1,e2,e3⟩:=fill_ok _ parts parts'.toList _ _ cells hfill he hp hz2 hz3
              have hus:us'.length=len*sz:=by rw [e2.1,hlen]
              obtain ⟨u,w',g',h1,h2,h3⟩:=newRow_ok (P:=P) hok (e:=e) (sz:=sz) (n:=len) (c:=len) (cells:=us'.toArray) e2 e3 (by simp) (by simpa using hus) (Nat.le_refl _) (by simp only [maxLen];omega) true (fun _=>rfl)
              refine ⟨u,w',g',?_,h2,h3⟩
              unfold Instr.buildSlice
              rw [Sem.run_bind,run_underlying hu,Result.andThen_ok]
              simp only []
              rw [Sem.run_bind,tySize_ok hE hsz w,Result.andThen_ok,if_neg (by omega)]
              have hfin:∀zs:Array Value,(len*sz=0∨zs=zv.cells)→Instr.fill (fun i=>some (i*sz,sz)) ((Array.range (len*sz)).map (zs[· %zs.size]!)) parts'.toList=some us'.toArray:=by
                intro zs hzs
                have:(Array.range (len*sz)).map (zs[· %zs.size]!)=((List.range (len*sz)).map fun i=>zv.cells.toList.toArray[i%zv.cells.toList.toArray.size]!).toArray:=by
                  rcases hzs with h0|rfl
                  · simp [h0]
                  · apply Array.ext';simp
                rw [this];exact e1
              split
              · rename_i h0
                rw [Sem.run_bind,Sem.run_pure,Result.andThen_ok,hfin #[] (.inl h0)]
                exact h1
              · rw [Sem.run_bind,run_zero hf hfz,Result.andThen_ok,Sem.run_bind,Sem.run_pure,Result.andThen_ok,hfin _ (.inr rfl)]
                exact h1
            · cases h
          · cases h
        · cases h
      · cases h
    · cases h
  · cases h

theorem setCells_eq(b:Nat){t:TypeId}{fr:Nat×Nat}:∀(vs:List Value) (o:Nat) (cur:Array Value) (w:World),w.heap[b]? =some (.cells cur t fr)→o+vs.length≤cur.size→
    w.setCells b o vs=w.setRow b (cur.toList.take o++vs++cur.toList.drop (o+vs.length)).toArray
  | [],o,cur,w,hg,_=>by
    simp only [World.setCells,List.append_nil,List.length_nil,Nat.add_zero,List.take_append_drop,Array.toArray_toList]
    rw [setRow_self w b cur t fr hg]
  |v::r,o,cur,w,hg,h=>by
    simp only [List.length_cons] at h
    simp only [World.setCells]
    rw [setCell_eq_setRow w b o cur t fr v hg]
    have hg':=setRow_heap w b cur (cur.setIfInBounds o v) t fr hg
    rw [setCells_eq b r (o+1) _ _ hg' (by simp;omega),setRow_setRow]
    congr 2
    simp only [Array.toList_setIfInBounds,List.length_cons]
    apply List.ext_getElem?
    intro i
    simp only [List.getElem?_append,List.length_append,List.length_take,List.length_set,Array.length_toList,List.getElem?_take,List.getElem?_set,List.getElem?_drop,List.length_cons]
    by_cases h1:i<o
    · simp [h1,show i<o+1 by omega,show i<cur.size by omega,show i<min (o+1) cur.size by omega,show i<min o cur.size by omega,show¬o=i by omega,
        show i<min (o+1) cur.size+r.length by omega,show i<min o cur.size+(r.length+1) by omega]
    · by_cases h2:i=o
      · subst h2
        simp [show i<cur.size by omega,show min i cur.size=i by omega,show min (i+1) cur.size=i+1 by omega]
        omega
      · have e1:min o cur.size=o:=by omega
        have e2:min (o+1) cur.size=o+1:=by omega
        rw [e1,e2]
        by_cases h3:i<o+(r.length+1)
        · have h4:i<o+1+r.length:=by omega
          simp only [h3,h4,if_true,if_neg (show¬i<o+1 by omega),if_neg h1]
          obtain ⟨m,rfl⟩:∃m,i=o+1+m:=⟨i- (o+1),by omega⟩
          rw [show o+1+m- (o+1)=m by omega,show o+1+m- o=m+1 by omega]
          simp
        · have h4:¬i<o+1+r.length:=by omega
          simp only [h3,h4,if_false]
          rw [if_neg (by omega)]
          congr 1
          omega

/-- the row of an object, written in the middle -/
theorem write_row{g:G}{st:St}{w:World}(hok:OK g st w){id:Nat}{vs:List AV}{ty:TypeId}(hgw:st.wget id=some (.row vs ty)){off:Nat}{ns:List AV}{us:List Value}(hv:VRs g ns us)(h1:∀u∈us,u.oneCell'=true)
    (hle:off+ns.length≤vs.length):
    (∀j,j<us.length→(w.cell? ⟨g.blk id,g.base id+off+j,none⟩).isSome=true)∧(∀j,j<us.length→w.frozen? ⟨g.blk id,g.base id+off+j,none⟩=false)∧
    Step g st w g (st.set id (.row (vs.take off++ns++vs.drop (off+ns.length)) ty)) (w.setCells (g.blk id) (g.base id+off) us):=by
  obtain ⟨hg,hlk⟩:=St.wget_get hgw
  obtain ⟨_,cs,fr,vs',h2,h3,h4,h4',h5,h6⟩:=hok.obj id _ hg
  have hl1:=hv.1
  have hl2:=h4.1
  have hl3:=h5.length_le
  simp only [List.length_drop,Array.length_toList] at hl3
  refine ⟨fun j hj=> ?_,fun j hj=> ?_,?_⟩
  · rw [cell_of_obj h2,Array.getElem?_eq_getElem (by omega)];rfl
  · have:¬(fr.1≤g.base id+off+j∧g.base id+off+j<fr.2):=by omega
    simp only [World.frozen?,h2]
    simpa using this
  · rw [setCells_eq (g.blk id) us (g.base id+off) cs w h2 (by omega)]
    refine step_set hok hgw _ rfl rfl rfl (setRow_size ..) (fun k hk=>setRow_other w _ k _ hk) ⟨_,fr,vs'.take off++us++vs'.drop (off+us.length),setRow_heap w _ cs _ ty fr h2,?_,?_,?_,?_,?_⟩
    · simp;omega
    · rw [hl1];exact ((h4.take _).append hv).append (h4.drop _)
    · intro u hu
      simp only [List.mem_append] at hu
      rcases hu with (hu|hu)|hu
      · exact h4' u (List.mem_of_mem_take hu)
      · exact h1 u hu
      · exact h4' u (List.mem_of_mem_drop hu)
    · obtain ⟨r,hr⟩:=h5
      have e1:cs.toList=cs.toList.take (g.base id)++(vs'++r):=by rw [hr,List.take_append_drop]
      have hb:(cs.toList.take (g.base id)).length=g.base id:=by simp;omega
      refine ⟨r,?_⟩
      simp only []
      generalize cs.toList.take (g.base id)=pre at e1 hb
      rw [e1,←hb,Nat.add_assoc pre.length off us.length,List.take_length_add_append,List.drop_length_add_append,List.append_assoc pre,List.append_assoc pre,List.drop_left,
        List.take_append_of_le_length (by omega),List.drop_append_of_le_length (by omega)]
      simp only [List.append_assoc]
    · have:(cs.toList.take (g.base id+off)++us++cs.toList.drop (g.base id+off+us.length)).toArray.size=cs.size:=by simp;omega
      rw [this];exact h6

def storeA(E:Env)(st:St)(t:Nat)(x v:AV):Option St:=
  match x,avCells v with
  | .ptr id off,some ns=>match st.wget id with
    |some (.row vs ty)=>if tySize E t=some ns.length∧off+ns.length≤vs.length then some (st.set id (.row (vs.take off++ns++vs.drop (off+ns.length)) ty)) else none
    |_=>none
  |_,_=>none
theorem storeA_ok{P:Program}{E:Env}(hE:EOK P E){st st':St}{t:Nat}{x v:AV}(h:storeA E st t x v=some st'){g:G}{w:World}(hok:OK g st w){u y:Value}(hx:VR g x u)(hv:VR g v y):
    ∃w' g',(Instr.storeAt t u y).run P w= .ok () w'∧Step g st w g' st' w':=by
  unfold storeA at h
  split at h
  · rename_i id off ns hns
    split at h
    · rename_i vs ty hg
      split at h
      · rename_i hc
        cases h
        obtain ⟨h1,h2⟩:=avCells_ok hns hv
        obtain ⟨k1,k2,k3⟩:=write_row hok hg h1 h2 hc.2
        refine ⟨_,g,?_,k3⟩
        rw [hx.ptr_inv.2]
        unfold Instr.storeAt Instr.sureAddr storeVar
        have hsz:y.cells.size=ns.length:=by simpa using h1.1
        have hst:=run_storeCells_cells (P:=P) (g.blk id) (g.base id+off) y.cells.toList 0 w (by simpa using k1) (by simpa using k2) h2
        rw [Sem.run_bind,Sem.run_pure,Result.andThen_ok,Sem.run_bind,tySize_ok hE hc.1 w,Result.andThen_ok]
        simp only [hsz,ne_eq,not_true_eq_false,if_false]
        simpa using hst
      · cases h
    · cases h
  · cases h

def srcA(E:Env)(st:St)(tx:Nat)(x:AV):Option (Nat×List AV):=
  match E.ty tx with
  |some i=>match i.desc with
    | .slice _=>sliceCells st x
    | .string=>match x with
      | .val (.string b)=>some (b.size,b.data.toList.map fun c=> .val (.int .u8 c.toNat))
      |_=>none
    |_=>none
  |none=>none

theorem firstCells_take_string{P:Program}(s:ByteArray)(m:Nat)(_hm:m≤s.size)(w:World):(Builtin.firstCells 1 m (.string s)).run P w= .ok ((byteCells s).take m).toArray w:=by
  simp only [Builtin.firstCells,byteCells,Sem.run_pure,Result.ok.injEq,and_true]
  apply Array.ext'
  simp [ByteArray.data_extract]

theorem srcA_ok{P:Program}{E:Env}(hE:EOK P E){st:St}{tx:Nat}{x:AV}{r:Nat×List AV}{sz:Nat}(h:srcA E st tx x=some r)(hlen:r.2.length=r.1*sz)(hs1:(∃i,E.ty tx=some i∧i.desc= .string)→sz=1)
    {g:G} {w:World} (hok:OK g st w) {u:Value} (hx:VR g x u):∃news,Src P sz tx u r.1 news w∧VRs g r.2 news∧∀m,m≤r.1→(Builtin.firstCells sz m u).run P w= .ok (news.take (m*sz)).toArray w:=by
  unfold srcA at h
  split at h
  · rename_i i hi
    have hu:=(hE.ty tx i hi).1
    split at h
    · rename_i e hd
      rw [hd] at hu
      obtain ⟨a,c,us,rfl,hl,_,hnil,hvs,hone,hcell⟩:=sliceCells_ok h hok hx
      have hul:us.length=r.1*sz:=by rw [hvs.1,hlen]
      cases a with
      |none=>
        obtain ⟨hc0,hr0⟩:=hnil rfl
        subst hc0
        have h0:r.1=0:=by omega
        have hus:us= []:=List.eq_nil_of_length_eq_zero (by rw [hul,h0,Nat.zero_mul])
        subst hus
        rw [h0]
        exact ⟨[],Src.ofNil w hu 0,hvs,fun m hm=>by simp [Builtin.firstCells,Sem.run_pure]⟩
      |some A=>
        have hcells:∀j v,us[j]? =some v→w.cell? (A.add j)=some v:=by
          intro j v hj
          have hne:us≠ []:=by rintro rfl;simp at hj
          obtain ⟨b,o,hA,hc⟩:=hcell hne
          cases hA
          rw [add_mid']
          exact hc j v hj
        refine ⟨us,Src.ofSlice w hu A r.1 c us hul hcells hone,hvs,fun m hm=> ?_⟩
        have hle:m*sz≤r.1*sz:=Nat.mul_le_mul_right _ hm
        refine run_firstCells_some w sz m A r.1 c (us.take (m*sz)) (by simp;omega) fun j v hj=> ?_
        rw [List.getElem?_take] at hj
        split at hj
        · exact hcells j v hj
        · cases hj
    · rename_i hd
      rw [hd] at hu
      have h1:=hs1 ⟨i,hi,hd⟩
      subst h1
      split at h
      · rename_i b
        cases h
        rw [hx.val_inv]
        refine ⟨byteCells b,Src.ofString w hu b,?_,fun m hm=> ?_⟩
        · refine .of_get (by simp [byteCells]) fun j c u hc hu=> ?_
          simp only [byteCells,List.getElem?_map,Option.map_eq_some_iff] at hc hu
          obtain ⟨y,hy,rfl⟩:=hc
          obtain ⟨y',hy',rfl⟩:=hu
          rw [hy] at hy'
          cases hy'
          exact .val _ rfl
        · rw [Nat.mul_one]
          exact firstCells_take_string b m hm w
      · cases h
    · cases h
  · cases h

theorem run_append_zero{P:Program}{t tx ty e:TypeId}{i:TypeInfo}(ht:P.underlying t=some (.slice e))(hi:P.info? e=some i)(base:Option Addr)(sLen sCap:Nat)(hle:sLen≤sCap){x:Value}{news:List Value}{w:World}
    (hs:Src P i.size tx x 0 news w):(Builtin.append_ #[t,tx] ty #[.slice base sLen sCap,x]).run P w= .ok (.slice base sLen sCap) w:=by
  have hn:news= []:=List.eq_nil_of_length_eq_zero (by rw [hs.newsLen,Nat.zero_mul])
  subst hn
  rcases hs.kind with ⟨e',hk⟩|hk<;>cases base<;>simp [Builtin.append_,run_underlying ht,run_underlying hk,sizeOf,typeInfo,hi,hs.len,hle,hs.cells,storeCells]

/-- the elements' type of a slice type -/
def elemA(E:Env)(t:Nat):Option (Nat×TI×List AV):=
  match E.ty t with
  |some i=>match i.desc with
    | .slice e=>match E.ty e,zeroA E e with
      |some ie,some z=>if z.length=ie.size∧0<ie.size then some (e,ie,z) else none
      |_,_=>none
    |_=>none
  |none=>none
theorem elemA_ok{P:Program}{E:Env}(hE:EOK P E){t:Nat}{q:Nat×TI×List AV}(h:elemA E t=some q):
    P.underlying t=some (.slice q.1)∧(∃f z,P.info? q.1=some f∧f.size=q.2.1.size∧f.bytes=q.2.1.bytes∧f.zero=some z∧z.cells.size=q.2.1.size∧(∀g,VRs g q.2.2 z.cells.toList)∧∀u∈z.cells.toList,u.oneCell'=true)∧0<q.2.1.size∧tySize E q.1=some q.2.1.size:=by
  unfold elemA at h
  split at h
  · rename_i i hi
    have hu:=(hE.ty t i hi).1
    split at h
    · rename_i e hd
      rw [hd] at hu
      split at h
      · rename_i ie z hie hz
        split at h
        · rename_i hc
          cases h
          obtain ⟨_,f,hf,h1,h2,h3⟩:=hE.ty e ie hie
          have key:∀g,∃zv,f.zero=some zv∧VRs g z zv.cells.toList∧∀u∈zv.cells.toList,u.oneCell'=true:=by
            intro g
            obtain ⟨f',zv,hf',hz',k1,k2⟩:=zeroA_ok hE hz g
            rw [hf] at hf'
            cases hf'
            exact ⟨zv,hz',k1,k2⟩
          obtain ⟨zv,hz1,hz2,hz3⟩:=key ⟨0,fun _=>0,fun _=>0,fun _=>0,fun _=> []⟩
          refine ⟨hu,⟨f,zv,hf,h1,h2,hz1,?_,fun g=> ?_,hz3⟩,hc.2,by simp [tySize,hie]⟩
          · have:=hz2.1
            simp at this
            simp;omega
          · obtain ⟨zv',k1,k2,_⟩:=key g
            rw [hz1] at k1
            cases k1
            exact k2
        · cases h
      · cases h
    · cases h
  · cases h

def isStrTy(E:Env)(t:Nat):Bool:=match E.ty t with|some i=>(match i.desc with| .string=>true|_=>false)|none=>false

def appendA(E:Env)(st:St)(t tx:Nat)(s x:AV):Option (AV×St):=
  match elemA E t,srcA E st tx x with
  |some q,some r=>
    if r.2.length=r.1*q.2.1.size∧(isStrTy E tx=true→q.2.1.size=1) then
      match s with
      | .nils=>if r.1=0 then some (.nils,st) else if r.1*q.2.1.bytes≤140737488355328∧r.1≤140737488355328 then some (.sl st.next q.2.1.size 0 r.1 false,st.push (.row r.2 q.1)) else none
      | .sl id sz off len full=>if sz≠q.2.1.size then none else if r.1=0 then some (s,st) else
        if (len+r.1)*q.2.1.bytes≤140737488355328∧len+r.1≤140737488355328 then
          match st.get id with
          |some (.row vs ty)=>if ty=q.1∧off+len*sz≤vs.length then
              (if full then some (.sl st.next sz 0 (len+r.1) false,st.push (.row ((vs.drop off).take (len*sz)++r.2) ty))
               else if off+len*sz=vs.length∧id∉st.lock then some (.sl st.next sz 0 (len+r.1) false,(st.del id).push (.row (vs.drop off++r.2) ty)) else none) else none
          |_=>none
        else none
      | .imm sz len full cells=>if sz≠q.2.1.size then none else if r.1=0 then some (s,st) else
        if full∧(len+r.1)*q.2.1.bytes≤140737488355328∧len+r.1≤140737488355328 then some (.sl st.next sz 0 (len+r.1) false,st.push (.row (cells++r.2) q.1)) else none
      |_=>none
    else none
  |_,_=>none

/-- the arm that grows -/
theorem append_grow{P:Program}{t tx ty e:TypeId}{i:TypeInfo}{z:Value}(ht:P.underlying t=some (.slice e))(hi:P.info? e=some i)(hz:i.zero=some z)(hzs:z.cells.size=i.size){g:G}{st:St}{w:World}(hok:OK g st w)
    {base:Option Addr} {sLen sCap n:Nat} {olds news:List Value} {vs ys:List AV} {x:Value} (hold:(Builtin.firstCells i.size sLen (.slice base sLen sCap)).run P w.drew= .ok olds.toArray w.drew)
    (hs:Src P i.size tx x n news w) (hv:VRs g vs olds) (h1:∀u∈olds,u.oneCell'=true) (hy:VRs g ys news) (hol:olds.length=sLen*i.size) (hg:sCap<sLen+n) (hb:(sLen+n)*i.bytes≤140737488355328) (hm:sLen+n≤140737488355328):
    EffOK P g st w (Builtin.append_ #[t,tx] ty #[.slice base sLen sCap,x]) (.sl st.next i.size 0 (sLen+n) false,st.push (.row (vs++ys) e)):=by
  have hr:=run_append_grow_src (P:=P) w t tx ty e i z ht hi hz base sLen sCap olds hold x n news hs hg (by omega) (growslice_fits hg (by omega))
  have hge:=grownCap_ge w (sLen+n) sCap e
  have hcm:=grownCap_le_maxLen w (sLen+n) sCap e (by simp only [maxLen];omega)
  have hcs:((olds++news).toArray++Builtin.zeroCells z.cells (grownCap w (sLen+n) sCap e- (sLen+n))).size=grownCap w (sLen+n) sCap e*i.size:=by
    simp only [Array.size_append,List.size_toArray,List.length_append,size_zeroCells,hzs,hol,hs.newsLen,←Nat.add_mul]
    congr 1
    omega
  refine ⟨_,_,g.add w.heap.size 0 ((olds++news).toArray++Builtin.zeroCells z.cells (grownCap w (sLen+n) sCap e- (sLen+n))).size,hr,
    step_row hok (cs:=(olds++news).toArray++Builtin.zeroCells z.cells (grownCap w (sLen+n) sCap e- (sLen+n))) (fr:=(0,0)) (us:=olds++news) rfl rfl rfl rfl (hv.append hy) ?_ ?_ (by simp),?_⟩
  · intro u hu
    simp only [List.mem_append] at hu
    exact hu.elim (h1 u) (hs.one u)
  · simp only [Array.toList_append]
    exact List.prefix_append _ _
  · rw [←hok.n]
    have:=VR.sl (g:=g.add w.heap.size 0 ((olds++news).toArray++Builtin.zeroCells z.cells (grownCap w (sLen+n) sCap e- (sLen+n))).size) g.n i.size 0 (sLen+n) (grownCap w (sLen+n) sCap e) false (Nat.lt_succ_self _)
      (by rw [G.add_siz,hcs];omega) hge (fun h=>by cases h) hcm
    simpa using this

/-- the arm with room -/
theorem append_room{P:Program}{t tx ty e:TypeId}{i:TypeInfo}(ht:P.underlying t=some (.slice e))(hi:P.info? e=some i){g:G}{st:St}{w:World}(hok:OK g st w){id off sLen sCap n:Nat}{vs ys:List AV}{news:List Value}{x:Value}
    (hgw:st.wget id=some (.row vs e)) (_hid:id<g.n) (hc:off+sCap*i.size≤g.siz id) (hcm:sCap≤maxLen) (hlen:off+sLen*i.size=vs.length) (hs:Src P i.size tx x n news w) (hy:VRs g ys news) (hroom:sLen+n≤sCap):
    EffOK P g st w (Builtin.append_ #[t,tx] ty #[.slice (some ⟨g.blk id,g.base id+off,none⟩) sLen sCap,x]) (.sl st.next i.size 0 (sLen+n) false,(st.del id).push (.row (vs.drop off++ys) e)):=by
  obtain ⟨hg,hlk⟩:=St.wget_get hgw
  obtain ⟨_,cs,fr,us,h2,h3,h4,h4',h5,h6⟩:=hok.obj id _ hg
  have hl2:=h4.1
  have hl3:=h5.length_le
  simp only [List.length_drop,Array.length_toList] at hl3
  have hnl:=hs.newsLen
  have hmul:sLen*i.size+n*i.size≤sCap*i.size:=by rw [←Nat.add_mul];exact Nat.mul_le_mul_right _ hroom
  have hr:=run_append_room_src (P:=P) w t tx ty e i ht hi (g.blk id) (g.base id+off) sLen sCap x n news hs hroom
    (fun j hj=>by rw [cell_of_obj h2,Array.getElem?_eq_getElem (by omega)];rfl)
    (fun j hj=>by
      have:¬(fr.1≤g.base id+off+sLen*i.size+j∧g.base id+off+sLen*i.size+j<fr.2):=by omega
      simp only [World.frozen?,h2]
      simpa using this)
  rw [setCells_eq (g.blk id) news _ cs w h2 (by omega)] at hr
  have hcs':(cs.toList.take (g.base id+off+sLen*i.size)++news++cs.toList.drop (g.base id+off+sLen*i.size+news.length)).toArray.size=cs.size:=by simp;omega
  refine ⟨_,_,g.add (g.blk id) (g.base id+off) (g.siz id- off),hr,step_regrow hok hgw _ _ _ rfl rfl rfl (setRow_size ..) (fun k hk=>setRow_other w _ k _ hk)
    ⟨(cs.toList.take (g.base id+off+sLen*i.size)++news++cs.toList.drop (g.base id+off+sLen*i.size+news.length)).toArray,fr,us.drop off++news,?_,?_,?_,?_,?_,?_⟩,?_⟩
  · rw [G.add_blk];exact setRow_heap w _ cs _ e fr h2
  · rw [hcs',G.add_base,G.add_siz];omega
  · exact ((h4.drop _).append hy).mono (g.le_add ..)
  · intro u hu
    simp only [List.mem_append] at hu
    exact hu.elim (fun h=>h4' u (List.mem_of_mem_drop h)) (hs.one u)
  · obtain ⟨r,hr'⟩:=h5
    have e1:cs.toList=cs.toList.take (g.base id)++(us++r):=by rw [hr',List.take_append_drop]
    have hb:(cs.toList.take (g.base id)).length=g.base id:=by simp;omega
    rw [G.add_base]
    simp only []
    generalize cs.toList.take (g.base id)=pre at e1 hb
    rw [e1,←hb,Nat.add_assoc pre.length off (sLen*i.size),List.take_length_add_append,List.append_assoc pre,List.append_assoc pre,List.drop_length_add_append,hlen,←hl2,List.take_left,
      List.append_assoc,List.drop_append_of_le_length (by omega)]
    rw [←List.append_assoc]
    exact List.prefix_append _ _
  · rw [hcs'];exact h6
  · rw [←hok.n]
    have:=VR.sl (g:=g.add (g.blk id) (g.base id+off) (g.siz id- off)) g.n i.size 0 (sLen+n) sCap false (Nat.lt_succ_self _) (by rw [G.add_siz];omega) hroom (fun h=>by cases h) hcm
    simpa using this

theorem EffOK.sub{P:Program}{g:G}{st st':St}{w:World}{s:Sem Value}{r:AV×St}(hok:OK g st w)(hs:∀id o,st'.get id=some o→st.get id=some o)(hn:st'.next=st.next)(hl:st'.lock=st.lock)(hgl:st'.gl=st.gl)(h:EffOK P g st' w s r):EffOK P g st w s r:=by
  obtain ⟨u,w',g',h1,h2,h3⟩:=h
  exact ⟨u,w',g',h1,(Step.sub hok hs hn hl hgl).trans h2,h3⟩

theorem appendA_ok{P:Program}{E:Env}(hE:EOK P E){st:St}{t tx ty:Nat}{s x:AV}{r:AV×St}(h:appendA E st t tx s x=some r){g:G}{w:World}(hok:OK g st w){u v:Value}(hs:VR g s u)(hx:VR g x v):
    EffOK P g st w (Builtin.append_ #[t,tx] ty #[u,v]) r:=by
  unfold appendA at h
  split at h
  · rename_i q rr hq hr
    obtain ⟨ht,⟨f,z,hf,hf1,hf2,hz,hzs,_,_⟩,hpos,hsz⟩:=elemA_ok hE hq
    split at h
    · rename_i hc
      obtain ⟨news,hsrc,hnv,_⟩:=srcA_ok hE (sz:=q.2.1.size) hr hc.1 (fun ⟨i,hi,hd⟩=>hc.2 (by simp [isStrTy,hi,hd])) hok hx
      rw [←hf1] at hsrc hzs hpos
      simp only [←hf1,←hf2] at h
      split at h
      · cases hs
        split at h
        · rename_i h0
          cases h
          rw [h0] at hsrc
          exact ⟨_,w,g,run_append_zero ht hf none 0 0 (Nat.le_refl _) hsrc,.refl hok,.nils⟩
        · split at h
          · rename_i h0 hb
            cases h
            have:=append_grow (ty:=ty) ht hf hz hzs hok (base:=none) (sLen:=0) (sCap:=0) (olds:= []) (vs:= []) (by simp [Builtin.firstCells,Sem.run_pure]) hsrc (.nil g) (by simp) hnv (by simp) (by omega) (by simpa using hb.1) (by omega)
            simpa using this
          · cases h
      · rename_i id sz off len full
        split at h
        · cases h
        · rename_i hsze
          have hsze':sz=f.size:=by simpa using hsze
          subst hsze'
          split at h
          · rename_i h0
            cases h
            rw [h0] at hsrc
            cases hs with
            |sl _ _ _ _ cap _ hid hcp hl hfl hm=>exact ⟨_,w,g,run_append_zero ht hf _ _ _ hl hsrc,.refl hok,.sl _ _ _ _ _ _ hid hcp hl hfl hm⟩
          · rename_i h0
            split at h
            · rename_i hb
              split at h
              · rename_i vs ty' hg
                split at h
                · rename_i hty
                  obtain ⟨rfl,hle⟩:=hty
                  obtain ⟨us,hu1,hu2,hu3⟩:=hok.row_cells hg
                  have hul:=hu1.1
                  cases hs with
                  |sl _ _ _ _ cap _ hid hcp hl hfl hm=>
                  have hold:(Builtin.firstCells f.size len (.slice (some ⟨g.blk id,g.base id+off,none⟩) len cap)).run P w.drew= .ok ((us.drop off).take (len*f.size)).toArray w.drew:=
                    run_firstCells_some w.drew f.size len _ len cap _ (by simp;omega) fun j v hj=>by
                      rw [List.getElem?_take] at hj
                      split at hj
                      · rw [List.getElem?_drop] at hj
                        rw [add_mid',Nat.add_assoc]
                        have:=hu3 _ _ hj
                        simpa using this
                      · cases hj
                  have h1':∀u∈(us.drop off).take (len*f.size),u.oneCell'=true:=fun u hu=>hu2 u (List.mem_of_mem_drop (List.mem_of_mem_take hu))
                  split at h
                  · rename_i hfull
                    cases h
                    exact append_grow ht hf hz hzs hok hold hsrc ((hu1.drop off).take _) h1' hnv (by simp;omega) (by have:=hfl hfull;omega) hb.1 hb.2
                  · split at h
                    · rename_i htip
                      cases h
                      by_cases hroom:len+rr.1≤cap
                      · exact append_room ht hf hok (St.wget_of hg htip.2) hid hcp hm htip.1 hsrc hnv hroom
                      · have hok':OK g (st.del id) w:=hok.sub (fun i o hi=>by rw [St.get_del] at hi;split at hi;(· cases hi);exact hi) rfl rfl
                        have:=append_grow (ty:=ty) ht hf hz hzs hok' hold hsrc ((hu1.drop off).take _) h1' hnv (by simp;omega) (by omega) hb.1 hb.2
                        have e:(vs.drop off).take (len*f.size)=vs.drop off:=List.take_of_length_le (by have:=htip.1;simp;omega)
                        rw [e] at this
                        exact EffOK.sub (st:=st) (st':=st.del id) hok (fun i o hi=>by rw [St.get_del] at hi;split at hi;(· cases hi);exact hi) rfl rfl rfl this
                    · cases h
                · cases h
              · cases h
            · cases h
      · rename_i sz len full cells
        split at h
        · cases h
        · rename_i hsze
          have hsze':sz=f.size:=by simpa using hsze
          subst hsze'
          split at h
          · rename_i h0
            cases h
            rw [h0] at hsrc
            cases hs with
            |imm _ _ cap _ _ us A hn hus hvs h1 hA hl hfl hm=>exact ⟨_,w,g,run_append_zero ht hf _ _ _ hl hsrc,.refl hok,.imm _ _ _ _ _ us A hn hus hvs h1 hA hl hfl hm⟩
          · rename_i h0
            split at h
            · rename_i hb
              cases h
              cases hs with
              |imm _ _ cap _ _ us A hn hus hvs h1 hA hl hfl hm=>
              have hold:(Builtin.firstCells f.size len (.slice (some A) len cap)).run P w.drew= .ok us.toArray w.drew:=
                run_firstCells_some w.drew f.size len A len cap us (by omega) fun j v hj=>by
                  have hne:len*f.size≠0:=by
                    intro h0
                    have:us= []:=List.eq_nil_of_length_eq_zero (by omega)
                    subst this
                    simp at hj
                  have:=hok.imm_cells (hA hne) j v hj
                  simpa using this
              exact append_grow ht hf hz hzs hok hold hsrc ⟨hus,hvs⟩ h1 hnv (by omega) (by have:=hfl hb.1;omega) hb.2.1 hb.2.2
            · cases h
      · cases h
    · cases h
  · cases h

theorem EffOK.pure{P:Program}{g:G}{st:St}{w:World}(hok:OK g st w){s:Sem Value}{u:Value}{av:AV}(h:s.run P w= .ok u w)(hv:VR g av u):EffOK P g st w s (av,st):=⟨u,w,g,h,.refl hok,hv⟩

def makeSliceA(E:Env)(st:St)(t:Nat)(l c:AV):Option (AV×St):=
  match elemA E t,l,c with
  |some q,.val (.int _ l),.val (.int _ c)=>
    if 0≤l∧l≤c∧c≤140737488355328∧c*q.2.1.bytes≤140737488355328 then some (.sl st.next q.2.1.size 0 l.toNat (l==c),st.push (.row (zerosA q.2.2 (l.toNat*q.2.1.size)) q.1)) else none
  |_,_,_=>none
theorem makeSliceA_ok{P:Program}{E:Env}(hE:EOK P E){st:St}{t:Nat}{l c:AV}{r:AV×St}(h:makeSliceA E st t l c=some r){g:G}{w:World}(hok:OK g st w){u v:Value}(hl:VR g l u)(hc:VR g c v):
    EffOK P g st w (Instr.makeSlice t u v) r:=by
  unfold makeSliceA at h
  split at h
  · rename_i q kl l kc c hq
    rw [hl.val_inv,hc.val_inv]
    obtain ⟨ht,⟨f,z,hf,hf1,hf2,hz,hzs,hzv,hz1⟩,hpos,hsz⟩:=elemA_ok hE hq
    split at h
    · rename_i hb
      cases h
      rw [←hf1] at hpos hzs⊢
      have hb4:c*(f.bytes:Int)≤140737488355328:=by rw [hf2];exact hb.2.2.2
      have hrun:=run_make (P:=P) w t q.1 f z ht hf hz kl kc l c hb.1 hb.2.1 (by rw [Int.mul_comm];omega) (by omega)
      obtain ⟨k1,k2⟩:=zeros_ok (hzv g) hz1 (l.toNat*f.size) (.inr (fun h0=>by
        have:=(hzv g).1
        rw [h0] at this
        simp at this
        rw [this] at hzs
        simp at hzs
        omega))
      have hmc:(madeCells z.cells (c.toNat*f.size)).toList=(List.range (c.toNat*f.size)).map fun i=>z.cells.toList.toArray[i%z.cells.toList.toArray.size]! :=by simp [madeCells]
      obtain ⟨u',w',g',h1,h2,h3⟩:=newRow_ok (P:=P) hok (e:=q.1) (sz:=f.size) (n:=l.toNat) (c:=c.toNat) (cells:=madeCells z.cells (c.toNat*f.size)) k1 k2 (by
          rw [hmc]
          have hle:l.toNat*f.size≤c.toNat*f.size:=Nat.mul_le_mul_right _ (by omega)
          obtain ⟨d,hd⟩:=Nat.le.dest hle
          rw [←hd,List.range_add,List.map_append]
          exact List.prefix_append _ _) (by simp [madeCells]) (by omega) (by simp only [maxLen];omega) (l==c) (by
          intro h
          have:l=c:=by simpa using h
          omega)
      refine ⟨u',w',g',?_,h2,h3⟩
      rw [hrun]
      exact h1
    · cases h
  · cases h

def strBytesA(E:Env)(st:St)(s d:Nat)(x:AV):Option (AV×St):=
  match E.ty s,E.ty d,x with
  |some _,some j,.val (.string b)=>match j.desc with
    | .slice e=>match E.ty e with
      |some k=>match k.desc with
        | .int .u8=>if b.size≤140737488355328 then some (.sl st.next 1 0 b.size false,st.push (.row (b.data.toList.map fun c=> .val (.int .u8 c.toNat)) e)) else none
        |_=>none
      |none=>none
    |_=>none
  |_,_,_=>none
theorem strBytesA_ok{P:Program}{E:Env}(hE:EOK P E){st:St}{s d:Nat}{x:AV}{r:AV×St}(h:strBytesA E st s d x=some r){g:G}{w:World}(hok:OK g st w){u:Value}(hx:VR g x u):EffOK P g st w (convert s d u) r:=by
  unfold strBytesA at h
  split at h
  · rename_i i j b hi hj
    have h1:=(hE.ty _ _ hi).1
    have h2:=(hE.ty _ _ hj).1
    split at h
    · rename_i e hd
      rw [hd] at h2
      cases hk:E.ty e with
      |none=>simp [hk] at h
      |some k=>
        simp only [hk] at h
        have h3:=(hE.ty _ _ hk).1
        split at h
        · rename_i hd3
          rw [hd3] at h3
          split at h
          · rename_i hb
            cases h
            rw [hx.val_inv]
            have hrun:=Lib.run_convert_string_bytes (P:=P) w s d e b h1 h2 h3
            have hge:=grownCap_ge w b.size 0 e
            have hcm:=grownCap_le_maxLen w b.size 0 e (by simp only [maxLen];omega)
            have hsz:(Lib.bytesCells w e b).size=grownCap w b.size 0 e:=by
              simp only [Lib.bytesCells,Array.size_append,Array.size_map,Array.size_replicate]
              have:b.data.size=b.size:=rfl
              omega
            have hheap:(Lib.bytesWorld w e b).heap=w.heap.push (.cells (Lib.bytesCells w e b) e ((Lib.bytesCells w e b).size,(Lib.bytesCells w e b).size+1)):=by
              apply Array.ext_getElem?
              intro k
              rcases Nat.lt_trichotomy k w.heap.size with hk|hk|hk
              · rw [Lib.bytesWorld_at_old w e b k hk,Array.getElem?_push,if_neg (by omega)]
              · subst hk
                rw [Lib.bytesWorld_at_new,Array.getElem?_push,if_pos rfl]
              · rw [Array.getElem?_eq_none (by rw [Lib.bytesWorld_size];omega),Array.getElem?_eq_none (by simp;omega)]
            refine ⟨_,_,g.add w.heap.size 0 (Lib.bytesCells w e b).size,hrun,step_row hok (us:=b.data.toList.map fun c=>Value.int .u8 c.toNat) hheap rfl rfl rfl ?_ ?_ ?_ ?_,?_⟩
            · refine .of_get (by simp) fun i c u hc hu=> ?_
              simp only [List.getElem?_map,Option.map_eq_some_iff] at hc hu
              obtain ⟨y,hy,rfl⟩:=hc
              obtain ⟨y',hy',rfl⟩:=hu
              rw [hy] at hy'
              cases hy'
              exact .val _ rfl
            · intro u hu
              obtain ⟨_,_,rfl⟩:=List.mem_map.1 hu
              rfl
            · simp only [Lib.bytesCells,Array.toList_append,Array.toList_map]
              exact List.prefix_append _ _
            · exact .inr (Nat.le_refl _)
            · rw [←hok.n]
              have:=VR.sl (g:=g.add w.heap.size 0 (Lib.bytesCells w e b).size) g.n 1 0 b.size (grownCap w b.size 0 e) false (Nat.lt_succ_self _) (by rw [G.add_siz,hsz];omega) hge (fun h=>by cases h) hcm
              simpa using this
          · cases h
        · cases h
    · cases h
  · cases h

/-- []byte(b) of a []byte of the call's own: the same slice -/
def sameBytesA(E:Env)(st:St)(s d:Nat)(x:AV):Option (AV×St):=
  match E.ty s,x with
  |some i,.sl id sz off len full=>match i.desc with
    | .slice e=>match E.ty e,st.wget id with
      |some k,some (.row vs ty)=>match k.desc with
        | .int .u8=>if s=d then some (.sl id sz off len full,st.set id (.row vs ty)) else none
        |_=>none
      |_,_=>none
    |_=>none
  |_,_=>none
theorem sameBytesA_ok{P:Program}{E:Env}(hE:EOK P E){st:St}{s d:Nat}{x:AV}{r:AV×St}(h:sameBytesA E st s d x=some r){g:G}{w:World}(hok:OK g st w){u:Value}(hx:VR g x u):EffOK P g st w (convert s d u) r:=by
  unfold sameBytesA at h
  split at h
  · rename_i i id sz off len full hi
    have h1:=(hE.ty _ _ hi).1
    split at h
    · rename_i e hd
      rw [hd] at h1
      split at h
      · rename_i k vs ty hk hgw
        obtain ⟨hg,hlk⟩:=St.wget_get hgw
        have h3:=(hE.ty _ _ hk).1
        split at h
        · rename_i hd3
          rw [hd3] at h3
          split at h
          · rename_i hsd
            cases h
            subst hsd
            obtain ⟨_,cs,fr,us,k2,k3,k4,k4',k5,k6⟩:=hok.obj id _ hg
            cases hx with
            |sl _ _ _ _ cap _ hid hc hl hfl hm=>
            have hlt:=(hok.lt hg).2
            let w':World:=w.freeze ⟨g.blk id,cs.size,none⟩ 1
            have hfz:w'.heap[g.blk id]? =some (.cells cs ty (if fr.1==fr.2 then (cs.size,cs.size+1) else (min fr.1 cs.size,max fr.2 (cs.size+1)))):=by
              have hv:w.heap[g.blk id]= .cells cs ty fr:=(Array.getElem?_eq_some_iff.1 k2).2
              simp only [w',World.freeze]
              rw [if_neg (by decide),Array.getElem?_eq_getElem (by simpa using hlt),Array.getElem_modify,if_pos rfl,hv]
            refine ⟨_,w',g,?_,step_set hok hgw _ rfl rfl rfl (by simp [w',World.freeze]) (fun k hk=> ?_) ⟨cs,_,us,hfz,k3,k4,k4',k5,?_⟩,.sl _ _ _ _ _ _ hid hc hl hfl hm⟩
            · unfold convert
              simp only [Sem.run_bind,run_underlying h1,run_underlying h3,Result.andThen_ok,beq_self_eq_true]
              have hsh:w.shape? (g.blk id)=some (ty,cs.size):=by simp [World.shape?,k2]
              simp only [markStringish,shape,freeze,Sem.run_bind,Sem.run,hsh,Result.andThen_ok,w']
              rfl
            · simp only [w',World.freeze]
              rw [if_neg (by decide),Array.getElem?_modify,if_neg (by omega)]
            · split
              · exact .inr (Nat.le_refl _)
              · rename_i hne
                rcases k6 with k6|k6
                · exact absurd (by simpa using k6) hne
                · exact .inr (by simp;omega)
          · cases h
        · cases h
      · cases h
    · cases h
  · cases h

def copyA(E:Env)(st:St)(t tx:Nat)(d x:AV):Option (AV×St):=
  match elemA E t,srcA E st tx x with
  |some q,some r=>
    if r.2.length=r.1*q.2.1.size∧(isStrTy E tx=true→q.2.1.size=1) then
      match d with
      | .sl id sz off len _=>match st.wget id with
        |some (.row vs ty)=>if sz=q.2.1.size∧off+len*sz≤vs.length then
            some (.val (.int .i64 (min r.1 len:Nat)),st.set id (.row (vs.take off++r.2.take (min r.1 len*sz)++vs.drop (off+(r.2.take (min r.1 len*sz)).length)) ty)) else none
        |_=>none
      | .nils=>some (.val (.int .i64 0),st)
      | .imm _ len _ _=>if len=0 then some (.val (.int .i64 0),st) else none
      |_=>none
    else none
  |_,_=>none
theorem run_copy{P:Program}{t tx ty e sz n len c:Nat}{base:Option Addr}{v:Value}{news:List Value}{w w':World}(ht:P.underlying t=some (.slice e))(hsz:(sizeOf e).run P w= .ok sz w)(hl:(Builtin.lenOf v).run P w= .ok n w)
    (hc:(Builtin.firstCells sz (min n len) v).run P w= .ok news.toArray w) (hst:match base with|some A=>(storeCells A news).run P w= .ok () w'|none=>w'=w):
    (Builtin.copy_ #[t,tx] ty #[.slice base len c,v]).run P w= .ok (.int .i64 (min n len:Nat)) w':=by
  unfold Builtin.copy_
  have e1:Nat.min n len=min n len:=rfl
  cases base with
  |none=>
    simp only at hst
    subst hst
    simp [run_underlying ht,hl,hsz,e1,hc,goInt]
  |some A=>
    simp only at hst
    simp [run_underlying ht,hl,hsz,e1,hc,hst,goInt]

theorem copyA_ok{P:Program}{E:Env}(hE:EOK P E){st:St}{t tx ty:Nat}{d x:AV}{r:AV×St}(h:copyA E st t tx d x=some r){g:G}{w:World}(hok:OK g st w){u v:Value}(hd:VR g d u)(hx:VR g x v):
    EffOK P g st w (Builtin.copy_ #[t,tx] ty #[u,v]) r:=by
  unfold copyA at h
  split at h
  · rename_i q rr hq hr
    obtain ⟨ht,_,hpos,hsz⟩:=elemA_ok hE hq
    split at h
    · rename_i hc
      obtain ⟨news,hsrc,hnv,htk⟩:=srcA_ok hE (sz:=q.2.1.size) hr hc.1 (fun ⟨i,hi,hd⟩=>hc.2 (by simp [isStrTy,hi,hd])) hok hx
      have h0:∀(base:Option Addr) (c:Nat),(Builtin.copy_ #[t,tx] ty #[.slice base 0 c,v]).run P w= .ok (.int .i64 (0:Nat)) w:=by
        intro base c
        have:=run_copy (P:=P) (t:=t) (tx:=tx) (ty:=ty) (len:=0) (c:=c) (base:=base) (news:= []) (w':=w) ht (tySize_ok hE hsz w) (hsrc.len w) (by simpa using htk 0 (Nat.zero_le _)) (by cases base<;>simp [storeCells,Sem.run_pure])
        simpa using this
      split at h
      · rename_i id sz off len full
        split at h
        · rename_i vs ty' hg
          split at h
          · rename_i hb
            cases h
            obtain ⟨rfl,hle⟩:=hb
            cases hd with
            |sl _ _ _ _ cap _ hid hcp hl hfl hm=>
            have hmle:min rr.1 len≤rr.1:=Nat.min_le_left _ _
            have hlen2:min rr.1 len*q.2.1.size≤len*q.2.1.size:=Nat.mul_le_mul_right _ (Nat.min_le_right _ _)
            have hone:∀u∈news.take (min rr.1 len*q.2.1.size),u.oneCell'=true:=fun u hu=>hsrc.one u (List.mem_of_mem_take hu)
            obtain ⟨k1,k2,k3⟩:=write_row hok hg (hnv.take (min rr.1 len*q.2.1.size)) hone (off:=off) (by simp;omega)
            have hst:=run_storeCells_cells (P:=P) (g.blk id) (g.base id+off) (news.take (min rr.1 len*q.2.1.size)) 0 w (by simpa using k1) (by simpa using k2) hone
            exact ⟨_,_,g,run_copy (len:=len) (c:=cap) (base:=some _) ht (tySize_ok hE hsz w) (hsrc.len w) (htk _ hmle) (by simpa using hst),k3,.val _ rfl⟩
          · cases h
        · cases h
      · cases h
        cases hd
        exact .pure hok (h0 none 0) (.val _ rfl)
      · rename_i sz len full cells
        split at h
        · rename_i hl0
          cases h
          subst hl0
          cases hd
          exact .pure hok (h0 _ _) (.val _ rfl)
        · cases h
      · cases h
    · cases h
  · cases h

/-! ### maps, by strings and numbers -/
def plainKey(E:Env)(kt:Nat):Option TypeDesc:=
  match E.ty kt with
  |some i=>match i.desc with
    | .int k=>some (.int k)
    | .string=>some .string
    |_=>none
  |none=>none
def findA(d:TypeDesc)(k:Value):List (AV×AV)→Nat→Option (Option (Nat×AV))
  | [],_=>some none
  |(.val k',v)::r,i=>match Instr.sameNow d k k' with
    |some true=>some (some (i,v))
    |some false=>findA d k r (i+1)
    |none=>none
  |_,_=>none

def MapR(g:G)(es:List (AV×AV))(es':List MapEntry):Prop:=VRs g (es.map (·.1)) (es'.map (·.key))∧VRs g (es.map (·.2)) (es'.map (·.val))

theorem findA_ok{g:G}{d:TypeDesc}{k:Value}:∀{es:List (AV×AV)} {es':List MapEntry} {i:Nat} {r:Option (Nat×AV)},findA d k es i=some r→MapR g es es'→
    (∃r',Instr.findNow d k es' i=some r'∧match r,r' with
      |none,none=>True
      |some (j,a),some (j',v)=>j=j'∧VR g a v∧i≤j∧∃e,es'[j- i]? =some e∧e.val=v∧Instr.sameNow d k e.key=some true
      |_,_=>False)
  | [],es',i,r,h,hv=>by
    simp only [findA,Option.some.injEq] at h
    subst h
    have:es'= []:=List.eq_nil_of_length_eq_zero (by simpa using hv.1.1)
    subst this
    exact ⟨none,rfl,trivial⟩
  |(a,b)::es,es',i,r,h,hv=>by
    cases es' with
    |nil=>simp [MapR,VRs] at hv
    |cons e es'=>
      obtain ⟨h1,h2⟩:=hv
      simp only [List.map_cons] at h1 h2
      have ha:=h1.head
      have hb:=h2.head
      cases a<;>try (simp [findA] at h;done)
      rename_i k'
      simp only [findA] at h
      simp only [Instr.findNow]
      have hk:=ha.val_inv
      rw [hk]
      cases hs:Instr.sameNow d k k' with
      |none=>simp [hs] at h
      |some p=>
        cases p with
        |true=>
          simp only [hs,Option.some.injEq] at h
          subst h
          exact ⟨some (i,e.val),rfl,rfl,hb,Nat.le_refl _,e,by simp,rfl,by rw [hk];exact hs⟩
        |false=>
          simp only [hs] at h
          obtain ⟨r',h3,h4⟩:=findA_ok h ⟨h1.tail,h2.tail⟩
          refine ⟨r',h3,?_⟩
          cases r with
          |none=>cases r' with
            |none=>trivial
            |some _=>exact h4.elim
          |some q=>cases r' with
            |none=>exact h4.elim
            |some q'=>
              obtain ⟨j,a'⟩:=q
              obtain ⟨j',v'⟩:=q'
              obtain ⟨h5,h6,h7,e',h8,h9,h10⟩:=h4
              refine ⟨h5,h6,by omega,e',?_,h9,h10⟩
              rw [show j- i=(j- (i+1))+1 by omega]
              simpa using h8

theorem sameNow_eq{d:TypeDesc}{a b:Value}(h:Instr.sameNow d a b=some true):a=b:=by
  unfold Instr.sameNow at h
  split at h
  · split at h
    · simp at h;subst_vars;rfl
    · cases h
  · simp only [Option.some.injEq] at h
    rw [(MapKept.bytes_beq _ _).1 h]
  · simp at h;subst h;rfl
  · cases h

theorem run_checkKey{P:Program}{kt:Nat}{d:TypeDesc}(hu:P.underlying kt=some d)(hd:(∃k,d= .int k)∨d= .string)(emp:Bool)(n:Nat)(v:Value)(w:World):(Instr.checkKey emp (n+1) kt v).run P w= .ok () w:=by
  unfold Instr.checkKey
  rw [Sem.run_bind,run_underlying hu,Result.andThen_ok]
  rcases hd with ⟨k,rfl⟩|rfl<;>rfl
theorem run_findKey{P:Program}{kt:Nat}{d:TypeDesc}(hu:P.underlying kt=some d){k:Value}{es:List MapEntry}{r:Option (Nat×Value)}(h:Instr.findNow d k es 0=some r)(w:World):(Instr.findKey kt k es).run P w= .ok r w:=by
  unfold Instr.findKey
  rw [Sem.run_bind,run_underlying hu,Result.andThen_ok,h]
  rfl
theorem plainKey_ok{P:Program}{E:Env}(hE:EOK P E){kt:Nat}{d:TypeDesc}(h:plainKey E kt=some d):P.underlying kt=some d∧((∃k,d= .int k)∨d= .string):=by
  unfold plainKey at h
  split at h
  · rename_i i hi
    have hu:=(hE.ty _ _ hi).1
    split at h
    · rename_i k hd
      cases h
      exact ⟨by rw [hu,hd],.inl ⟨k,rfl⟩⟩
    · rename_i hd
      cases h
      exact ⟨by rw [hu,hd],.inr rfl⟩
    · cases h
  · cases h


def lookupA(E:Env)(st:St)(t:Nat)(m k:AV)(ok:Bool):Option AV:=
  match E.ty t,k with
  |some i,.val kv=>match i.desc with
    | .map kt et=>match plainKey E kt,E.ty et with
      |some d,some ie=>match ie.zero with
        |some z=>match m with
          | .nilm=>some (if ok then .tup [cv z,.val (.bool false)] else cv z)
          | .mp id=>match st.get id with
            |some (.map es _ _)=>match findA d kv es 0 with
              |some none=>some (if ok then .tup [cv z,.val (.bool false)] else cv z)
              |some (some p)=>some (if ok then .tup [p.2,.val (.bool true)] else p.2)
              |none=>none
            |_=>none
          |_=>none
        |none=>none
      |_,_=>none
    |_=>none
  |_,_=>none

theorem tup2{g:G}{a b:AV}{u v:Value}(h:VR g a u)(k:VR g b v):VR g (.tup [a,b]) (.tuple #[u,v]):=by
  have:=VRs.cons h (VRs.cons k (.nil g))
  exact .tup _ [u,v] this.1 this.2

def fOr(r:Option (Nat×Value))(z:Value):Value:=(r.map (·.2)).getD z
theorem run_lookup{P:Program}{t kt et:Nat}{d:TypeDesc}{f:TypeInfo}{z:Value}(hu:P.underlying t=some (.map kt et))(hku:P.underlying kt=some d)(hkd:(∃k,d= .int k)∨d= .string)
    (hf:P.info? et=some f) (hfz:f.zero=some z) {x kv:Value} {ok:Bool} {es':Array MapEntry} {w:World} (hx:(x= .map none∧es'= #[])∨(∃r clock,x= .map (some r)∧w.heap[r]? =some (.map es' clock)))
    {r:Option (Nat×Value)} (hr:Instr.findNow d kv es'.toList 0=some r):
    (Instr.lookup t x kv ok).run P w= .ok (if ok then .tuple #[fOr r z,.bool r.isSome] else fOr r z) w:=by
  have ck:∀b,(Instr.checkKey b 10000 kt kv).run P w= .ok () w:=fun b=>run_checkKey hku hkd b 9999 kv w
  have fk:=run_findKey hku hr w
  unfold Instr.lookup
  rw [Sem.run_bind,run_underlying hu,Result.andThen_ok]
  rcases hx with ⟨rfl,rfl⟩|⟨b,clock,rfl,hb⟩
  · simp only [Sem.run_bind,Sem.run_pure,ck,fk,Result.andThen_ok]
    cases r with
    |none=>simp only [Sem.run_bind,run_zero hf hfz,Result.andThen_ok,Sem.run_pure];rfl
    |some p=>rfl
  · have e:(getObj b).run P w= .ok (.map es' clock) w:=by simp [getObj,Sem.run,hb]
    simp only [Sem.run_bind,Sem.run_pure,e,ck,fk,Result.andThen_ok]
    cases r with
    |none=>simp only [Sem.run_bind,run_zero hf hfz,Result.andThen_ok,Sem.run_pure];rfl
    |some p=>rfl

theorem OK.map_at{g:G}{st:St}{w:World}(h:OK g st w){id:Nat}{es:List (AV×AV)}{bs:List Nat}{clock:Nat}(hg:st.get id=some (.map es bs clock)):
    ∃(es':Array MapEntry),w.heap[g.blk id]? =some (.map es' clock)∧MapR g es es'.toList∧es'.toList.map (·.born)=bs∧bs.Nodup∧∀b∈bs,b<clock:=by
  obtain ⟨_,es',h1,h2,h3,h4,h5⟩:=h.obj id _ hg
  exact ⟨es',h1,⟨h2,h3⟩,h4,h5⟩

theorem lookupA_ok{P:Program}{E:Env}(hE:EOK P E){st:St}{t:Nat}{m k:AV}{ok:Bool}{av:AV}(h:lookupA E st t m k ok=some av){g:G}{w:World}(hok:OK g st w){u v:Value}(hm:VR g m u)(hk:VR g k v):
    ∃r,(Instr.lookup t u v ok).run P w= .ok r w∧VR g av r:=by
  unfold lookupA at h
  split at h
  · rename_i i kv hi
    have hu:=(hE.ty _ _ hi).1
    rw [hk.val_inv]
    split at h
    · rename_i kt et hd
      rw [hd] at hu
      split at h
      · rename_i d ie hpk hie
        obtain ⟨hku,hkd⟩:=plainKey_ok hE hpk
        obtain ⟨_,f,hf,_,_,hfz⟩:=hE.ty _ _ hie
        split at h
        · rename_i z hz
          rw [hz] at hfz
          split at h
          · simp only [Option.some.injEq] at h
            subst h
            cases hm
            refine ⟨_,run_lookup hu hku hkd hf hfz (.inl ⟨rfl,rfl⟩) (r:=none) rfl,?_⟩
            cases ok
            · exact cv_ok g z
            · exact tup2 (cv_ok g z) (.val _ rfl)
          · rename_i id
            cases hm with
            |mp _ hid=>
            split at h
            · rename_i es bs clock hg
              obtain ⟨es',h1,h2,_,_⟩:=hok.map_at hg
              split at h
              · rename_i hf0
                simp only [Option.some.injEq] at h
                subst h
                obtain ⟨r',k1,k2⟩:=findA_ok hf0 h2
                cases r' with
                |some _=>exact k2.elim
                |none=>
                  refine ⟨_,run_lookup hu hku hkd hf hfz (.inr ⟨_,clock,rfl,h1⟩) k1,?_⟩
                  cases ok
                  · exact cv_ok g z
                  · exact tup2 (cv_ok g z) (.val _ rfl)
              · rename_i p hf0
                simp only [Option.some.injEq] at h
                subst h
                obtain ⟨r',k1,k2⟩:=findA_ok hf0 h2
                cases r' with
                |none=>exact k2.elim
                |some q=>
                  refine ⟨_,run_lookup hu hku hkd hf hfz (.inr ⟨_,clock,rfl,h1⟩) k1,?_⟩
                  cases ok
                  · exact k2.2.1
                  · exact tup2 k2.2.1 (.val _ rfl)
              · cases h
            · cases h
          · cases h
        · cases h
      · cases h
    · cases h
  · cases h

def mapLenA(E:Env)(st:St)(t:Nat)(m:AV):Option AV:=
  match E.ty t with
  |some i=>match i.desc,m with
    | .map ..,.nilm=>some (.val (.int .i64 0))
    | .map ..,.mp id=>match st.get id with
      |some (.map es _ _)=>some (.val (.int .i64 es.length))
      |_=>none
    |_,_=>none
  |none=>none
theorem mapLenA_ok{P:Program}{E:Env}(hE:EOK P E){st:St}{t ty:Nat}{m:AV}{av:AV}(h:mapLenA E st t m=some av){g:G}{w:World}(hok:OK g st w){u:Value}(hm:VR g m u):
    ∃r,(Builtin.len_ #[t] ty #[u]).run P w= .ok r w∧VR g av r:=by
  unfold mapLenA at h
  split at h
  · rename_i i hi
    have hu:=(hE.ty _ _ hi).1
    split at h
    · rename_i kt et hd
      simp only [Option.some.injEq] at h
      subst h
      cases hm
      rw [hd] at hu
      exact ⟨_,by unfold Builtin.len_;simp only [List.getElem?_toArray,List.getElem?_cons_zero,Sem.run_bind,run_underlying hu,Result.andThen_ok,Sem.run_pure,goInt],.val _ rfl⟩
    · rename_i kt et id hd
      cases hm with
      |mp _ hid=>
      rw [hd] at hu
      split at h
      · rename_i es bs clock hg
        simp only [Option.some.injEq] at h
        subst h
        obtain ⟨es',h1,h2,_,_⟩:=hok.map_at hg
        have e:(getObj (g.blk id)).run P w= .ok (.map es' clock) w:=by simp [getObj,Sem.run,h1]
        have hl:es'.size=es.length:=by have:=h2.1.1;simpa using this
        refine ⟨.int .i64 es'.size,?_,by rw [hl];exact .val _ rfl⟩
        unfold Builtin.len_
        simp only [List.getElem?_toArray,List.getElem?_cons_zero,Sem.run_bind,run_underlying hu,Result.andThen_ok,e,Sem.run_pure,goInt]
      · cases h
    · cases h
  · cases h

def mapUpdateA(E:Env)(st:St)(t:Nat)(m k v:AV):Option St:=
  match E.ty t,k,m with
  |some i,.val kv,.mp id=>match i.desc with
    | .map kt _=>match plainKey E kt,st.wget id with
      |some d,some (.map es bs clock)=>match findA d kv es 0 with
        |some none=>some (st.set id (.map (es++ [(.val kv,v)]) (bs++ [clock]) (clock+1)))
        |some (some p)=>some (st.set id (.map (es.set p.1 (.val kv,v)) bs clock))
        |none=>none
      |_,_=>none
    |_=>none
  |_,_,_=>none

theorem VRs.snoc{g:G}{cs:List AV}{us:List Value}{c:AV}{u:Value}(h:VRs g cs us)(k:VR g c u):VRs g (cs++ [c]) (us++ [u]):=h.append (.cons k (.nil g))

theorem setObj_run{P:Program}{w:World}{r:Nat}{o o':Obj}(h:w.heap[r]? =some o)(hc:∀c t f,o≠ .cells c t f):(setObj r o').run P w= .ok () {w with heap:=w.heap.setIfInBounds r o'}:=by
  cases o<;>first|exact absurd rfl (hc _ _ _)|simp only [setObj,Sem.run,h]

theorem mapUpdateA_ok{P:Program}{E:Env}(hE:EOK P E){st st':St}{t:Nat}{m k v:AV}(h:mapUpdateA E st t m k v=some st'){g:G}{w:World}(hok:OK g st w){u x y:Value}(hm:VR g m u)(hk:VR g k x)(hv:VR g v y):
    ∃w' g',(Instr.mapUpdate t u x y).run P w= .ok () w'∧Step g st w g' st' w':=by
  unfold mapUpdateA at h
  split at h
  · rename_i i kv id hi
    have hu:=(hE.ty _ _ hi).1
    rw [hk.val_inv]
    split at h
    · rename_i kt et hd
      rw [hd] at hu
      cases hm with
      |mp _ hid=>
      split at h
      · rename_i d es bs clock hpk hgw
        obtain ⟨hg,hlk⟩:=St.wget_get hgw
        obtain ⟨hku,hkd⟩:=plainKey_ok hE hpk
        obtain ⟨es',h1,h2,h3,h4,h5⟩:=hok.map_at hg
        have e:(getObj (g.blk id)).run P w= .ok (.map es' clock) w:=by simp [getObj,Sem.run,h1]
        have ck:∀b,(Instr.checkKey b 10000 kt kv).run P w= .ok () w:=fun b=>run_checkKey hku hkd b 9999 kv w
        have hlt:=(hok.lt hg).2
        have hnc:∀c t f,Obj.map es' clock≠ .cells c t f:=by intro c t f h;cases h
        split at h
        · rename_i hf0
          cases h
          obtain ⟨r',k1,k2⟩:=findA_ok hf0 h2
          cases r' with
          |some _=>exact k2.elim
          |none=>
            refine ⟨_,g,?_,step_set hok hgw (.map (es++ [(.val kv,v)]) (bs++ [clock]) (clock+1)) (w':={w with heap:=w.heap.setIfInBounds (g.blk id) (.map (es'.push {key:=kv,val:=y,born:=clock}) (clock+1))}) rfl rfl rfl (by simp) (fun k hk=>by
                simp only [Array.getElem?_setIfInBounds];rw [if_neg (by omega)])
              ⟨es'.push {key:=kv,val:=y,born:=clock},by simp [hlt],?_,?_,?_,?_,?_⟩⟩
            · unfold Instr.mapUpdate
              rw [Sem.run_bind,run_underlying hu,Result.andThen_ok]
              simp only []
              rw [Sem.run_bind,e,Result.andThen_ok]
              simp only []
              rw [Sem.run_bind,ck,Result.andThen_ok,Sem.run_bind,run_findKey hku k1 w,Result.andThen_ok]
              exact setObj_run h1 hnc
            · have hkr:=hk.val_inv▸hk
              simpa using h2.1.snoc hkr
            · simpa using h2.2.snoc hv
            · simp [h3]
            · refine List.nodup_append.2 ⟨h4,by simp,?_⟩
              intro a ha b hb
              simp only [List.mem_singleton] at hb
              subst hb
              have:=h5 a ha
              omega
            · intro b hb
              simp only [List.mem_append,List.mem_singleton] at hb
              rcases hb with hb|rfl
              · exact Nat.lt_succ_of_lt (h5 b hb)
              · exact Nat.lt_succ_self _
        · rename_i p hf0
          cases h
          obtain ⟨r',k1,k2⟩:=findA_ok hf0 h2
          cases r' with
          |none=>exact k2.elim
          |some q=>
            obtain ⟨p1,p2⟩:=p
            obtain ⟨q1,q2⟩:=q
            simp only at k2
            obtain ⟨rfl,k3,_,e0,k4,k5,k6⟩:=k2
            simp only [Nat.sub_zero] at k4
            have hp1:p1<es'.size:=by have:=(List.getElem?_eq_some_iff.1 k4).1;simpa using this
            have hkey:=sameNow_eq k6
            have hme:∀(f:MapEntry→MapEntry),(es'.modify p1 f).toList=es'.toList.modify p1 f:=fun f=>by simp
            have hmm:∀{α:Type} (F:MapEntry→α) (f:MapEntry→MapEntry),((es'.modify p1 f).toList.map F)=(es'.toList.map F).set p1 (F (f e0)):=by
              intro α F f
              apply List.ext_getElem?
              intro j
              rw [hme,List.getElem?_map,List.getElem?_modify,List.getElem?_set,List.getElem?_map,List.length_map,Array.length_toList]
              by_cases hj:p1=j
              · subst hj
                obtain ⟨_,he⟩:=List.getElem?_eq_some_iff.1 k4
                simp only [Array.getElem_toList] at he
                simp [hp1,he]
              · simp [hj]
            refine ⟨_,g,?_,step_set hok hgw (.map (es.set p1 (.val kv,v)) bs clock) (w':={w with heap:=w.heap.setIfInBounds (g.blk id) (.map (es'.modify p1 fun e=>{e with key:=kv,val:=y}) clock)}) rfl rfl rfl (by simp) (fun k hk=>by
                simp only [Array.getElem?_setIfInBounds];rw [if_neg (by omega)])
              ⟨es'.modify p1 fun e=>{e with key:=kv,val:=y},by simp [hlt],?_,?_,?_,?_,?_⟩⟩
            · unfold Instr.mapUpdate
              rw [Sem.run_bind,run_underlying hu,Result.andThen_ok]
              simp only []
              rw [Sem.run_bind,e,Result.andThen_ok]
              simp only []
              rw [Sem.run_bind,ck,Result.andThen_ok,Sem.run_bind,run_findKey hku k1 w,Result.andThen_ok]
              simp only []
              have hst:(Instr.keyThatStays (((es'[p1]?).map (·.key)).getD kv) kv).run P w= .ok kv w:=by
                have e1:es'[p1]? =some e0:=by simpa using k4
                rw [e1]
                simp only [Option.map_some,Option.getD_some,←hkey]
                unfold Instr.keyThatStays
                have:Instr.sameBits 10000 kv kv=true:=by
                  unfold Instr.sameNow at k6
                  split at k6
                  · simp [Instr.sameBits]
                  · simp only [Instr.sameBits];exact (MapKept.bytes_beq _ _).2 rfl
                  · simp [Instr.sameBits]
                  · cases k6
                rw [if_pos this]
                rfl
              rw [Sem.run_bind,hst,Result.andThen_ok]
              exact setObj_run h1 hnc
            · rw [hmm (·.key),List.map_set]
              exact h2.1.set p1 (hk.val_inv▸hk)
            · rw [hmm (·.val),List.map_set]
              exact h2.2.set p1 hv
            · rw [hmm (·.born)]
              have:(es'.toList.map (·.born)).set p1 e0.born=es'.toList.map (·.born):=by
                apply List.ext_getElem?
                intro j
                rw [List.getElem?_set]
                split
                · rename_i hj
                  subst hj
                  rw [List.length_map,Array.length_toList,if_pos hp1,List.getElem?_map,k4]
                  rfl
                · rfl
              simpa [this] using h3
            · exact h4
            · exact h5
        · cases h
      · cases h
    · cases h
  · cases h

/-! ### delete -/
theorem VR.tup0(g:G):VR g (.tup []) Go.undef:= .tup [] [] rfl (fun i hi=>by simp at hi)
def mapDeleteA(E:Env)(st:St)(t:Nat)(m k:AV):Option St:=
  match E.ty t,k,m with
  |some i,.val kv,.mp id=>match i.desc with
    | .map kt _=>match plainKey E kt,st.wget id with
      |some d,some (.map es bs clock)=>match findA d kv es 0 with
        |some none=>some (st.set id (.map es bs clock))
        |some (some p)=>some (st.set id (.map (es.eraseIdx p.1) (bs.eraseIdx p.1) clock))
        |none=>none
      |_,_=>none
    |_=>none
  |_,_,_=>none

theorem map_eraseIdx{α β:Type}(f:α→β)(l:List α)(n:Nat):(l.eraseIdx n).map f=(l.map f).eraseIdx n:=by
  rw [List.eraseIdx_eq_take_drop_succ,List.eraseIdx_eq_take_drop_succ,List.map_append,List.map_take,List.map_drop]

theorem VRs.eraseIdx{g:G}{cs:List AV}{us:List Value}(h:VRs g cs us)(n:Nat):VRs g (cs.eraseIdx n) (us.eraseIdx n):=by
  rw [List.eraseIdx_eq_take_drop_succ,List.eraseIdx_eq_take_drop_succ]
  exact (h.take n).append (h.drop (n+1))

theorem mapDeleteA_ok{P:Program}{E:Env}(hE:EOK P E){st st':St}{t tk ty:Nat}{m k:AV}(h:mapDeleteA E st t m k=some st'){g:G}{w:World}(hok:OK g st w){u x:Value}(hm:VR g m u)(hk:VR g k x):
    EffOK P g st w (Builtin.delete_ #[t,tk] ty #[u,x]) (.tup [],st'):=by
  unfold mapDeleteA at h
  split at h
  · rename_i i kv id hi
    have hu:=(hE.ty _ _ hi).1
    rw [hk.val_inv]
    split at h
    · rename_i kt et hd
      rw [hd] at hu
      cases hm with
      |mp _ hid=>
      split at h
      · rename_i d es bs clock hpk hgw
        obtain ⟨hg,hlk⟩:=St.wget_get hgw
        obtain ⟨hku,hkd⟩:=plainKey_ok hE hpk
        obtain ⟨es',h1,h2,h3,h4,h5⟩:=hok.map_at hg
        have e:(getObj (g.blk id)).run P w= .ok (.map es' clock) w:=by simp [getObj,Sem.run,h1]
        have ck:∀b,(Instr.checkKey b 10000 kt kv).run P w= .ok () w:=fun b=>run_checkKey hku hkd b 9999 kv w
        have hlt:=(hok.lt hg).2
        have hnc:∀c t f,Obj.map es' clock≠ .cells c t f:=by intro c t f h;cases h
        have run:∀(o':Obj) (r':Option (Nat×Value)),Instr.findNow d kv es'.toList 0=some r'→(∀F:Obj→Result Unit,(match r' with|some (i,_)=>F (Obj.map (es'.eraseIdxIfInBounds i) clock)|none=>F (.map es' clock))=F o')→
            (Builtin.delete_ #[t,tk] ty #[.map (some (g.blk id)),kv]).run P w= .ok (.tuple #[]) {w with heap:=w.heap.setIfInBounds (g.blk id) o'}:=by
          intro o' r' k1 ho
          unfold Builtin.delete_
          simp only [List.getElem?_toArray,List.getElem?_cons_zero,List.getElem?_cons_succ]
          rw [Sem.run_bind,run_underlying hu,Result.andThen_ok]
          simp only []
          rw [Sem.run_bind,e,Result.andThen_ok]
          simp only []
          rw [Sem.run_bind,ck,Result.andThen_ok,Sem.run_bind,run_findKey hku k1 w,Result.andThen_ok]
          have:=ho (fun o=>(setObj (g.blk id) o).run P w)
          cases r' with
          |none=>simp only at this⊢;rw [Sem.run_bind,this,setObj_run h1 hnc,Result.andThen_ok];rfl
          |some q=>obtain ⟨q1,q2⟩:=q;simp only at this⊢;rw [Sem.run_bind,this,setObj_run h1 hnc,Result.andThen_ok];rfl
        have hold:∀(o':Obj) k,k≠g.blk id→({w with heap:=w.heap.setIfInBounds (g.blk id) o'}:World).heap[k]? =w.heap[k]? :=fun o' k hk=>by
          simp only [Array.getElem?_setIfInBounds];rw [if_neg (by omega)]
        split at h
        · rename_i hf0
          cases h
          obtain ⟨r',k1,k2⟩:=findA_ok hf0 h2
          cases r' with
          |some _=>exact k2.elim
          |none=>
            exact ⟨_,_,g,run _ _ k1 (fun F=>rfl),step_set hok hgw (.map es bs clock) (w':={w with heap:=w.heap.setIfInBounds (g.blk id) (.map es' clock)}) rfl rfl rfl (by simp) (hold _)
              ⟨es',by simp [hlt],h2.1,h2.2,h3,h4,h5⟩,VR.tup0 _⟩
        · rename_i p hf0
          cases h
          obtain ⟨r',k1,k2⟩:=findA_ok hf0 h2
          cases r' with
          |none=>exact k2.elim
          |some q=>
            obtain ⟨p1,p2⟩:=p
            obtain ⟨q1,q2⟩:=q
            simp only at k2
            obtain ⟨rfl,k3,_,e0,k4,k5,k6⟩:=k2
            simp only [Nat.sub_zero] at k4
            have hp1:p1<es'.size:=by have:=(List.getElem?_eq_some_iff.1 k4).1;simpa using this
            have hme:(es'.eraseIdxIfInBounds p1).toList=es'.toList.eraseIdx p1:=by simp [Array.eraseIdxIfInBounds,hp1]
            refine ⟨_,_,g,run _ _ k1 (fun F=>rfl),step_set hok hgw (.map (es.eraseIdx p1) (bs.eraseIdx p1) clock) (w':={w with heap:=w.heap.setIfInBounds (g.blk id) (.map (es'.eraseIdxIfInBounds p1) clock)}) rfl rfl rfl (by simp) (hold _)
              ⟨es'.eraseIdxIfInBounds p1,by simp [hlt],?_,?_,?_,?_,?_⟩,VR.tup0 _⟩
            · rw [hme,map_eraseIdx,map_eraseIdx];exact h2.1.eraseIdx p1
            · rw [hme,map_eraseIdx,map_eraseIdx];exact h2.2.eraseIdx p1
            · rw [hme,map_eraseIdx,h3]
            · exact h4.sublist (List.eraseIdx_sublist _ _)
            · intro b hb
              exact h5 b (List.mem_of_mem_eraseIdx hb)
        · cases h
      · cases h
    · cases h
  · cases h

/-! ### ranging over a map -/
def rangeA(E:Env)(st:St)(t:Nat)(m:AV):Option (AV×St):=
  match E.ty t,m with
  |some i,.mp id=>match i.desc,st.get id with
    | .map _ _,some (.map _ _ clock)=>some (.ptr st.next 0,st.push (.iter id clock [] clock))
    |_,_=>none
  |_,_=>none
theorem rangeA_ok{P:Program}{E:Env}(hE:EOK P E){st:St}{t:Nat}{m:AV}{r:AV×St}(h:rangeA E st t m=some r){g:G}{w:World}(hok:OK g st w){u:Value}(hm:VR g m u):EffOK P g st w (Instr.range t u) r:=by
  unfold rangeA at h
  split at h
  · rename_i i id hi
    have hu:=(hE.ty _ _ hi).1
    split at h
    · rename_i kt et es bs clock hd hg
      cases h
      rw [hd] at hu
      cases hm with
      |mp _ hid=>
      obtain ⟨es',h1,h2,h3,h4,h5⟩:=hok.map_at hg
      refine ⟨_,_,g.add w.heap.size 0 0,run_range_map w t kt et (g.blk id) es' clock hu h1,step_new hok (.mapIter (some (g.blk id)) clock #[] clock) 0 (.iter id clock [] clock) rfl rfl rfl rfl ⟨?_,Nat.lt_succ_of_lt hid,G.add_base ..⟩,?_⟩
      · rw [G.add_blk,(g.le_add w.heap.size 0 0).blk id hid]
        exact heap_alloc_new w _
      · rw [←hok.n]
        have:=VR.ptr (g:=g.add w.heap.size 0 0) g.n 0 (Nat.lt_succ_self _)
        simpa using this
    · cases h
  · cases h

/-- the entries that are still to come -/
def toCome(bs seen:List Nat):List Nat:=(List.range bs.length).filter fun i=> !seen.contains (bs.getD i 0)
/-- the step of a range: what may come of it -/
def nextA(st:St)(it:AV):Option (List (AV×St)):=
  match it with
  | .ptr id 0=>match st.wget id with
    |some (.iter m since seen c0)=>match st.get m with
      |some (.map es bs clock)=>if (bs.all fun b=>decide (b<since))=true∧since≤c0∧es.length=bs.length then
          (match toCome bs seen with
           | []=>some [(.tup [.val (.bool false)],st)]
           |l=>some (l.map fun i=>(.tup [.val (.bool true),(es.getD i default).1,(es.getD i default).2],st.set id (.iter m since (seen++ [bs.getD i 0]) clock)))) else none
      |_=>none
    |_=>none
  |_=>none
theorem tup1{g:G}{a:AV}{u:Value}(h:VR g a u):VR g (.tup [a]) (.tuple #[u]):=by
  have:=VRs.cons h (.nil g)
  exact .tup _ [u] this.1 this.2
theorem tup3{g:G}{a b c:AV}{u v x:Value}(h:VR g a u)(k:VR g b v)(l:VR g c x):VR g (.tup [a,b,c]) (.tuple #[u,v,x]):=by
  have:=VRs.cons h (VRs.cons k (VRs.cons l (.nil g)))
  exact .tup _ [u,v,x] this.1 this.2

theorem nextA_ok{P:Program}{st:St}{ty:Nat}{it:AV}{r:List (AV×St)}(h:nextA st it=some r){g:G}{w:World}(hok:OK g st w){u:Value}(hx:VR g it u):∃q∈r,EffOK P g st w (Instr.next u false ty) q:=by
  unfold nextA at h
  split at h
  · rename_i id
    split at h
    · rename_i m since seen c0 hgw
      obtain ⟨hg,hlk⟩:=St.wget_get hgw
      split at h
      · rename_i es bs clock hgm
        split at h
        · rename_i hc
          obtain ⟨hb,hsc,hlen⟩:=hc
          obtain ⟨hr,hm,hb0⟩:=(hok.obj id _ hg).2
          obtain ⟨es',h1,h2,h3,h4,h5⟩:=hok.map_at hgm
          rw [hx.ptr_inv.2,hb0,Nat.add_zero]
          have hall:∀x∈es'.toList,x.born<since:=fun x hx=>by
            have:x.born∈bs:=by rw [←h3];exact List.mem_map_of_mem hx
            simpa using List.all_eq_true.1 hb _ this
          have hbl:es'.toList.length=bs.length:=by rw [←h3];simp
          have hat:∀i,i<bs.length→∃e,es'.toList[i]? =some e∧e.born=bs.getD i 0:=fun i hi=>by
            refine ⟨es'.toList[i]'(by omega),List.getElem?_eq_getElem _,?_⟩
            have q:bs[i]? =some (es'.toList[i]'(by omega)).born:=by
              have:=congrArg (·[i]?) h3
              rw [←this,List.getElem?_map,List.getElem?_eq_getElem (by omega)]
              rfl
            rw [List.getD_eq_getElem?_getD,q]
            rfl
          rcases run_next_at (P:=P) w ty (g.blk id) (g.blk m) since c0 seen.toArray es' clock hr h1 hall hsc with ⟨h0,hrun⟩|⟨e,he,w1,hal,hrun⟩
          · have hnone:toCome bs seen= []:=by
              unfold toCome
              rw [List.filter_eq_nil_iff]
              intro i hi
              obtain ⟨e,he,hbi⟩:=hat i (List.mem_range.1 hi)
              have:=all_seen es' seen.toArray h0 e (List.mem_of_getElem? he)
              rw [hbi] at this
              simpa using this
            rw [hnone] at h
            simp only [Option.some.injEq] at h
            subst h
            exact ⟨_,List.mem_singleton.2 rfl,_,w,g,hrun,.refl hok,tup1 (.val _ rfl)⟩
          · obtain ⟨hem,hes⟩:=mem_left he
            obtain ⟨i,hi⟩:=List.mem_iff_getElem?.1 hem
            have hil:i<bs.length:=by have:=(List.getElem?_eq_some_iff.1 hi).1;omega
            have hbi:bs.getD i 0=e.born:=by
              obtain ⟨e',he',hb'⟩:=hat i hil
              rw [hi] at he';cases he';exact hb'.symm
            have hmem:i∈toCome bs seen:=by
              unfold toCome
              rw [List.mem_filter]
              refine ⟨List.mem_range.2 hil,?_⟩
              rw [hbi]
              simpa using hes
            have hres:(AV.tup [.val (.bool true),(es.getD i default).1,(es.getD i default).2],st.set id (.iter m since (seen++ [bs.getD i 0]) clock))∈r:=by
              split at h
              · rename_i hnil;rw [hnil] at hmem;cases hmem
              · simp only [Option.some.injEq] at h
                subst h
                exact List.mem_map.2 ⟨i,hmem,rfl⟩
            have hgi:es.getD i default=es[i]'(by omega):=by rw [List.getD_eq_getElem?_getD,List.getElem?_eq_getElem (by omega)];rfl
            have hk:VR g (es.getD i default).1 e.key:=by
              rw [hgi]
              obtain ⟨u,hu1,hu2⟩:=h2.1.get (i:=i) (c:=(es[i]'(by omega)).1) (by rw [List.getElem?_map,List.getElem?_eq_getElem (by omega)];rfl)
              rw [List.getElem?_map,hi] at hu1
              cases hu1
              exact hu2
            have hvv:VR g (es.getD i default).2 e.val:=by
              rw [hgi]
              obtain ⟨u,hu1,hu2⟩:=h2.2.get (i:=i) (c:=(es[i]'(by omega)).2) (by rw [List.getElem?_map,List.getElem?_eq_getElem (by omega)];rfl)
              rw [List.getElem?_map,hi] at hu1
              cases hu1
              exact hu2
            have hi1:Step g st w g st w1:=by
              rcases hal with rfl|rfl
              · exact .refl hok
              · exact step_idle hok rfl rfl rfl rfl
            have hr1:=(hi1.ok.obj id _ hg).2.1
            refine ⟨_,hres,_,_,g,hrun,hi1.trans (step_set hi1.ok hgw _ rfl rfl rfl ?_ ?_ ⟨?_,hm,hb0⟩),tup3 (.val _ rfl) hk hvv⟩
            · simp [ChangeMaps.setBlock]
            · intro k hk
              simp only [ChangeMaps.setBlock,Array.getElem?_setIfInBounds]
              rw [if_neg (by omega)]
            · have hlt:=(Array.getElem?_eq_some_iff.1 hr1).1
              simp only [ChangeMaps.setBlock,Array.getElem?_setIfInBounds,hlt,if_true,←hbi]
              simp
        · cases h
      · cases h
    · cases h
  · cases h

/-- the round's key and value -/
def entryA(st:St)(it:AV):Option AV:=
  match it with
  | .ptr id 0=>match st.get id with
    |some (.iter m _ seen c0)=>match st.get m with
      |some (.map es bs clock)=>if c0=clock∧es.length=bs.length then
          (match (List.range bs.length).filter fun i=>some (bs.getD i 0)==seen.getLast? with
           | [i]=>some (.tup [(es.getD i default).1,(es.getD i default).2])
           |_=>none) else none
      |_=>none
    |_=>none
  |_=>none
theorem entryA_ok{P:Program}{st:St}{it av:AV}(h:entryA st it=some av){g:G}{w:World}(hok:OK g st w){u:Value}(hx:VR g it u):∃r,(Instr.entry u).run P w= .ok r w∧VR g av r:=by
  unfold entryA at h
  split at h
  · rename_i id
    split at h
    · rename_i m since seen c0 hg
      split at h
      · rename_i es bs clock hgm
        split at h
        · rename_i hc
          obtain ⟨rfl,hlen⟩:=hc
          split at h
          · rename_i i hfl
            simp only [Option.some.injEq] at h
            subst h
            obtain ⟨hr,hm,hb0⟩:=(hok.obj id _ hg).2
            obtain ⟨es',h1,h2,h3,h4,h5⟩:=hok.map_at hgm
            rw [hx.ptr_inv.2,hb0,Nat.add_zero]
            have hmem:i∈(List.range bs.length).filter fun i=>some (bs.getD i 0)==seen.getLast? :=by rw [hfl];simp
            rw [List.mem_filter] at hmem
            obtain ⟨hi,hlast⟩:=hmem
            have hil:=List.mem_range.1 hi
            have hbl:es'.toList.length=bs.length:=by rw [←h3];simp
            have hb:bs.getD i 0=(es'.toList[i]'(by omega)).born:=by
              have q:bs[i]? =some (es'.toList[i]'(by omega)).born:=by
                have:=congrArg (·[i]?) h3
                rw [←this,List.getElem?_map,List.getElem?_eq_getElem (by omega)]
                rfl
              rw [List.getD_eq_getElem?_getD,q]
              rfl
            have hseen:seen=seen.dropLast++ [bs.getD i 0]:=by
              have hl:seen.getLast? =some (bs.getD i 0):=by
                have:=beq_iff_eq.1 hlast
                exact this.symm
              obtain ⟨l,hl'⟩:=List.getLast?_eq_some_iff.1 hl
              rw [hl',List.dropLast_concat]
            have hr':w.heap[g.blk id]? =some (.mapIter (some (g.blk m)) since (seen.dropLast.toArray.push (es'.toList[i]'(by omega)).born) c0):=by
              rw [hr,←hb]
              congr 2
              rw [hseen]
              simp
            refine ⟨_,run_entry_at w (g.blk id) (g.blk m) since seen.dropLast.toArray es' c0 (es'.toList[i]'(by omega)) hr' h1 (List.getElem_mem _) (by rw [h3];exact h4),?_⟩
            have hgi:es.getD i default=es[i]'(by omega):=by rw [List.getD_eq_getElem?_getD,List.getElem?_eq_getElem (by omega)];rfl
            rw [hgi]
            refine tup2 ?_ ?_
            · obtain ⟨u,hu1,hu2⟩:=h2.1.get (i:=i) (c:=(es[i]'(by omega)).1) (by rw [List.getElem?_map,List.getElem?_eq_getElem (by omega)];rfl)
              rw [List.getElem?_map,List.getElem?_eq_getElem (by omega)] at hu1
              cases hu1
              exact hu2
            · obtain ⟨u,hu1,hu2⟩:=h2.2.get (i:=i) (c:=(es[i]'(by omega)).2) (by rw [List.getElem?_map,List.getElem?_eq_getElem (by omega)];rfl)
              rw [List.getElem?_map,List.getElem?_eq_getElem (by omega)] at hu1
              cases hu1
              exact hu2
          · cases h
        · cases h
      · cases h
    · cases h
  · cases h

/-! ### ranging over a string -/
def rangeStrA(E:Env)(st:St)(t:Nat)(x:AV):Option (AV×St):=
  match E.ty t,x with
  |some i,.val (.string s)=>match i.desc with
    | .string=>some (.ptr st.next 0,st.push (.siter s 0))
    |_=>none
  |_,_=>none
theorem rangeStrA_ok{P:Program}{E:Env}(hE:EOK P E){st:St}{t:Nat}{m:AV}{r:AV×St}(h:rangeStrA E st t m=some r){g:G}{w:World}(hok:OK g st w){u:Value}(hm:VR g m u):EffOK P g st w (Instr.range t u) r:=by
  unfold rangeStrA at h
  split at h
  · rename_i i s hi
    have hu:=(hE.ty _ _ hi).1
    split at h
    · rename_i hd
      cases h
      rw [hd] at hu
      rw [hm.val_inv]
      refine ⟨_,_,g.add w.heap.size 0 0,run_range_string w t s hu,step_new hok (.stringIter s 0) 0 (.siter s 0) rfl rfl rfl rfl ⟨?_,G.add_base ..⟩,?_⟩
      · rw [G.add_blk]
        exact World.iter_heap w s 0
      · rw [←hok.n]
        have:=VR.ptr (g:=g.add w.heap.size 0 0) g.n 0 (Nat.lt_succ_self _)
        simpa using this
    · cases h
  · cases h
def nextStrA(st:St)(it:AV):Option (AV×St):=
  match it with
  | .ptr id 0=>match st.wget id with
    |some (.siter s pos)=>if pos<s.size then
        some (.tup [.val (.bool true),.val (.int .i64 pos),.val (.int .i32 (Utf8.decode s pos).1)],st.set id (.siter s (pos+(Utf8.decode s pos).2)))
      else some (.tup [.val (.bool false)],st)
    |_=>none
  |_=>none
theorem nextStrA_ok{P:Program}{st:St}{ty:Nat}{it:AV}{r:AV×St}(h:nextStrA st it=some r){g:G}{w:World}(hok:OK g st w){u:Value}(hx:VR g it u):EffOK P g st w (Instr.next u true ty) r:=by
  unfold nextStrA at h
  split at h
  · rename_i id
    split at h
    · rename_i s pos hgw
      obtain ⟨hg,hlk⟩:=St.wget_get hgw
      obtain ⟨hr,hb0⟩:=(hok.obj id _ hg).2
      rw [hx.ptr_inv.2,hb0,Nat.add_zero]
      have hlt:=(hok.lt hg).2
      have hget:(getObj (g.blk id)).run P w= .ok (.stringIter s pos) w:=by simp [getObj,Sem.run,hr]
      split at h
      · rename_i hp
        cases h
        refine ⟨_,{w with heap:=w.heap.setIfInBounds (g.blk id) (.stringIter s (pos+(Utf8.decode s pos).2))},g,?_,step_set hok hgw _ rfl rfl rfl (by simp) (fun k hk=>by
          simp only [Array.getElem?_setIfInBounds];rw [if_neg (by omega)]) ⟨by simp [hlt],hb0⟩,tup3 (.val _ rfl) (.val _ rfl) (.val _ rfl)⟩
        unfold Instr.next
        simp only [Sem.run_bind,hget,Result.andThen_ok,hp,if_true,setObj_run hr (fun c t f h=>by cases h),Sem.run_pure,goInt]
      · rename_i hp
        cases h
        refine ⟨_,w,g,?_,.refl hok,tup1 (.val _ rfl)⟩
        unfold Instr.next
        simp only [Sem.run_bind,hget,Result.andThen_ok,hp,if_false,Sem.run_pure]
    · cases h
  · cases h

/-! ### operations, all together -/
inductive EV where
  |val (av:AV) (st:St)
  |skip (st:St)
  |any (l:List (AV×St))
  |call (f:Nat) (args:List AV)

def convA(E:Env)(st:St)(s d:Nat)(x:AV):Option (AV×St):=
  match bytesStrA E st s d x with
  |some av=>some (av,st)
  |none=>match strBytesA E st s d x with
    |some r=>some r
    |none=>sameBytesA E st s d x

def builtinA(E:Env)(st:St)(b:Builtin)(ts:List Nat)(xs:List AV):Option (AV×St):=
  match b,ts,xs with
  | .append,[t,tx],[s,x]=>appendA E st t tx s x
  | .copy,[t,tx],[d,x]=>copyA E st t tx d x
  | .len,[t],[m]=>(mapLenA E st t m).map fun av=>(av,st)
  | .delete,[t,_],[m,k]=>(mapDeleteA E st t m k).map fun st'=>(.tup [],st')
  |_,_,_=>none

def evOp(E:Env)(op:Op)(T:Tm)(st:St):Option EV:=
  match pureA E st op T with
  |some av=>some (.val av st)
  |none=>match op with
    | .load t x=>(loadA E st t (T.eval x)).map fun av=> .val av st
    | .lookup t m k ok=>(lookupA E st t (T.eval m) (T.eval k) ok).map fun av=> .val av st
    | .alloc t=>(allocA E st t).map fun r=> .val r.1 r.2
    | .box t x=>(boxA st t (T.eval x)).map fun r=> .val r.1 r.2
    | .buildSlice t n parts=>(buildSliceA E st t n (parts.toList.map fun p=>(p.1,T.eval p.2))).map fun r=> .val r.1 r.2
    | .makeSlice t l c=>(makeSliceA E st t (T.eval l) (T.eval c)).map fun r=> .val r.1 r.2
    | .range t x=>match rangeA E st t (T.eval x) with
      |some r=>some (.val r.1 r.2)
      |none=>(rangeStrA E st t (T.eval x)).map fun r=> .val r.1 r.2
    | .next x true=>(nextStrA st (T.eval x)).map fun r=> .val r.1 r.2
    | .entry x=>(entryA st (T.eval x)).map fun av=> .val av st
    | .next x false=>(nextA st (T.eval x)).map .any
    | .makeMap _ none=>some (.val (.mp st.next) (st.push (.map [] [] 0)))
    | .convert s d x=>(convA E st s d (T.eval x)).map fun r=> .val r.1 r.2
    | .store t x v=>(storeA E st t (T.eval x) (T.eval v)).map .skip
    | .mapUpdate t m k v=>(mapUpdateA E st t (T.eval m) (T.eval k) (T.eval v)).map .skip
    | .call ⟨.builtin b,args,ts⟩=>(builtinA E st b ts.toList (args.toList.map T.eval)).map fun r=> .val r.1 r.2
    | .call ⟨.value f,args,_⟩=>match T.eval f with
      | .fn (.func k) first captured=>(E.fn k).map fun _=> .call k (first++args.toList.map T.eval++captured)
      |_=>none
    |_=>none

structure EOK' (P:Program) (E:Env):Prop extends EOK P E where
  body:∀f x,E.fn f=some x→x.name≠ "runtime.NumGoroutine" ∧x.body.isSome=true

/-- what an operation comes to -/
def OpR(P:Program)(g:G)(st:St)(w:World)(s:Sem Next):EV→Prop
  | .val av st'=>∃u w' g',s.run P w= .ok (.value u) w'∧Step g st w g' st' w'∧VR g' av u
  | .skip st'=>∃w' g',s.run P w= .ok .skip w'∧Step g st w g' st' w'
  | .any l=>∃q∈l,∃u w' g',s.run P w= .ok (.value u) w'∧Step g st w g' q.2 w'∧VR g' q.1 u
  | .call f args=>∃us:List Value,s.run P w= .ok (.enter f us.toArray) w∧VRs g args us

theorem makeMap_ok{P:Program}{g:G}{st:St}{w:World}(hok:OK g st w)(t:Nat):EffOK P g st w (Instr.makeMap t none) (.mp st.next,st.push (.map [] [] 0)):=by
  refine ⟨.map (some w.heap.size),{w with heap:=w.heap.push (.map #[] 0)},g.add w.heap.size 0 0,rfl,
    step_new hok (.map #[] 0) 0 (.map [] [] 0) rfl rfl rfl rfl ⟨#[],by rw [G.add_blk];simp,by simpa using VRs.nil _,by simpa using VRs.nil _,by simp,by simp,by simp⟩,?_⟩
  rw [←hok.n]
  have:=VR.mp (g:=g.add w.heap.size 0 0) g.n (Nat.lt_succ_self _)
  simpa using this

theorem run_u{P:Program}{s:Sem Unit}{w w':World}(h:s.run P w= .ok () w'):((do s;pure .skip):Sem Next).run P w= .ok .skip w':=by
  rw [Sem.run_bind,h];rfl

theorem evOp_ok{P:Program}{E:Env}(hE:EOK' P E){st:St}{T:Tm}{o:Oper}{r:EV}(h:evOp E o.op T st=some r){g:G}{w:World}(hok:OK g st w){a:Act}(hT:TR g T a):
    OpR P g st w (execOp a.eval o) r:=by
  have hE0:=hE.toEOK
  unfold evOp at h
  cases hp:pureA E st o.op T with
  |some av=>
    simp only [hp,Option.some.injEq] at h
    subst h
    obtain ⟨u,hu,hv⟩:=pureA_ok hE0 hp hok hT
    exact ⟨u,w,g,hu w,.refl hok,hv⟩
  |none=>
    simp only [hp] at h
    have eff:∀{s:Sem Value} {q:AV×St},EffOK P g st w s q→(execOp a.eval o).run P w=((do pure (.value (←s)):Sem Next)).run P w→OpR P g st w (execOp a.eval o) (.val q.1 q.2):=by
      intro s q hs he
      obtain ⟨u,w',g',h1,h2,h3⟩:=hs
      exact ⟨u,w',g',by rw [he,run_v h1],h2,h3⟩
    split at h
    · rename_i t x hop
      obtain ⟨av,hl,rfl⟩:=Option.map_eq_some_iff.1 h
      obtain ⟨u,h1,h2⟩:=loadA_ok hE0 hl hok (hT.eval x)
      exact eff (q:=(av,st)) (.pure hok h1 h2) (by unfold execOp;simp only [hop])
    · rename_i t m k ok hop
      obtain ⟨av,hl,rfl⟩:=Option.map_eq_some_iff.1 h
      obtain ⟨u,h1,h2⟩:=lookupA_ok hE0 hl hok (hT.eval m) (hT.eval k)
      exact eff (q:=(av,st)) (.pure hok h1 h2) (by unfold execOp;simp only [hop])
    · rename_i t hop
      obtain ⟨q,hl,rfl⟩:=Option.map_eq_some_iff.1 h
      exact eff (allocA_ok hE0 hl hok) (by unfold execOp;simp only [hop])
    · rename_i t x hop
      obtain ⟨q,hl,rfl⟩:=Option.map_eq_some_iff.1 h
      exact eff (boxA_ok hl hok (hT.eval x)) (by unfold execOp;simp only [hop])
    · rename_i t n parts hop
      obtain ⟨q,hl,rfl⟩:=Option.map_eq_some_iff.1 h
      refine eff (buildSliceA_ok hE0 hl hok (parts':=parts.map fun (i,x)=>(i,a.eval x)) ?_ ?_) (by unfold execOp;simp only [hop])
      · simp [Function.comp_def]
      · have:=hT.evals (parts.toList.map (·.2))
        simpa [Function.comp_def] using this
    · rename_i t l c hop
      obtain ⟨q,hl,rfl⟩:=Option.map_eq_some_iff.1 h
      exact eff (makeSliceA_ok hE0 hl hok (hT.eval l) (hT.eval c)) (by unfold execOp;simp only [hop])
    · rename_i t x hop
      split at h
      · rename_i q hl
        cases h
        exact eff (rangeA_ok hE0 hl hok (hT.eval x)) (by unfold execOp;simp only [hop])
      · obtain ⟨q,hl,rfl⟩:=Option.map_eq_some_iff.1 h
        exact eff (rangeStrA_ok hE0 hl hok (hT.eval x)) (by unfold execOp;simp only [hop])
    · rename_i x hop
      obtain ⟨q,hl,rfl⟩:=Option.map_eq_some_iff.1 h
      exact eff (nextStrA_ok (ty:=o.type) hl hok (hT.eval x)) (by unfold execOp;simp only [hop])
    · rename_i x hop
      obtain ⟨av,hl,rfl⟩:=Option.map_eq_some_iff.1 h
      obtain ⟨u,h1,h2⟩:=entryA_ok hl hok (hT.eval x)
      exact eff (q:=(av,st)) (.pure hok h1 h2) (by unfold execOp;simp only [hop])
    · rename_i x hop
      obtain ⟨l,hl,rfl⟩:=Option.map_eq_some_iff.1 h
      obtain ⟨q,hq,u,w',g',h1,h2,h3⟩:=nextA_ok (P:=P) (ty:=o.type) hl hok (hT.eval x)
      refine ⟨q,hq,u,w',g',?_,h2,h3⟩
      unfold execOp
      simp only [hop]
      rw [run_v h1]
    · rename_i t hop
      simp only [Option.some.injEq] at h
      subst h
      exact eff (makeMap_ok hok t) (by unfold execOp;simp only [hop];rfl)
    · rename_i s d x hop
      obtain ⟨q,hl,rfl⟩:=Option.map_eq_some_iff.1 h
      refine eff (s:=convert s d (a.eval x)) ?_ (by unfold execOp;simp only [hop])
      unfold convA at hl
      split at hl
      · rename_i av hb
        cases hl
        obtain ⟨u,h1,h2⟩:=bytesStrA_ok hE0 hb hok (hT.eval x)
        exact .pure hok h1 h2
      · split at hl
        · rename_i r' hb
          cases hl
          exact strBytesA_ok hE0 hb hok (hT.eval x)
        · exact sameBytesA_ok hE0 hl hok (hT.eval x)
    · rename_i t x v hop
      obtain ⟨q,hl,rfl⟩:=Option.map_eq_some_iff.1 h
      obtain ⟨w',g',h1,h2⟩:=storeA_ok hE0 hl hok (hT.eval x) (hT.eval v)
      exact ⟨w',g',by unfold execOp;simp only [hop];exact run_u h1,h2⟩
    · rename_i t m k v hop
      obtain ⟨q,hl,rfl⟩:=Option.map_eq_some_iff.1 h
      obtain ⟨w',g',h1,h2⟩:=mapUpdateA_ok hE0 hl hok (hT.eval m) (hT.eval k) (hT.eval v)
      exact ⟨w',g',by unfold execOp;simp only [hop];exact run_u h1,h2⟩
    · rename_i b args ts hop
      obtain ⟨q,hl,rfl⟩:=Option.map_eq_some_iff.1 h
      have hargs:=hT.evals args.toList
      unfold builtinA at hl
      split at hl
      · rename_i b' t tx s x hts hxs
        obtain ⟨x1,x2,e1,e2,e3⟩:∃x1 x2,args= #[x1,x2]∧T.eval x1=s∧T.eval x2=x:=by
          have:args.toList.length=2:=by have:=congrArg List.length hxs;simpa using this
          match hh:args.toList,this with
          | [y1,y2],_=>
            rw [hh] at hxs
            simp at hxs
            exact ⟨y1,y2,by apply Array.ext';simpa using hh,hxs.1,hxs.2⟩
        subst e1;subst e2;subst e3
        have e4:ts= #[t,tx]:=by apply Array.ext';simpa using hts
        subst e4
        exact eff (appendA_ok (ty:=o.type) hE0 hl hok (hT.eval x1) (hT.eval x2)) (by
          unfold execOp;simp only [hop,resolve,invoke,builtin,Sem.run_bind,Sem.run_pure,Result.andThen_ok];simp)
      · rename_i b' t tx s x hts hxs
        obtain ⟨x1,x2,e1,e2,e3⟩:∃x1 x2,args= #[x1,x2]∧T.eval x1=s∧T.eval x2=x:=by
          have:args.toList.length=2:=by have:=congrArg List.length hxs;simpa using this
          match hh:args.toList,this with
          | [y1,y2],_=>
            rw [hh] at hxs
            simp at hxs
            exact ⟨y1,y2,by apply Array.ext';simpa using hh,hxs.1,hxs.2⟩
        subst e1;subst e2;subst e3
        have e4:ts= #[t,tx]:=by apply Array.ext';simpa using hts
        subst e4
        exact eff (copyA_ok (ty:=o.type) hE0 hl hok (hT.eval x1) (hT.eval x2)) (by
          unfold execOp;simp only [hop,resolve,invoke,builtin,Sem.run_bind,Sem.run_pure,Result.andThen_ok];simp)
      · rename_i b' t m hts hxs
        obtain ⟨av,hl',rfl⟩:=Option.map_eq_some_iff.1 hl
        obtain ⟨x1,e1,e2⟩:∃x1,args= #[x1]∧T.eval x1=m:=by
          have:args.toList.length=1:=by have:=congrArg List.length hxs;simpa using this
          match hh:args.toList,this with
          | [y1],_=>
            rw [hh] at hxs
            simp at hxs
            exact ⟨y1,by apply Array.ext';simpa using hh,hxs⟩
        subst e1;subst e2
        have e4:ts= #[t]:=by apply Array.ext';simpa using hts
        subst e4
        obtain ⟨u,h1,h2⟩:=mapLenA_ok (ty:=o.type) hE0 hl' hok (hT.eval x1)
        exact eff (q:=(av,st)) (.pure hok h1 h2) (by
          unfold execOp;simp only [hop,resolve,invoke,builtin,Sem.run_bind,Sem.run_pure,Result.andThen_ok];simp)
      · rename_i b' t tk m k hts hxs
        obtain ⟨st',hl',rfl⟩:=Option.map_eq_some_iff.1 hl
        obtain ⟨x1,x2,e1,e2,e3⟩:∃x1 x2,args= #[x1,x2]∧T.eval x1=m∧T.eval x2=k:=by
          have:args.toList.length=2:=by have:=congrArg List.length hxs;simpa using this
          match hh:args.toList,this with
          | [y1,y2],_=>
            rw [hh] at hxs
            simp at hxs
            exact ⟨y1,y2,by apply Array.ext';simpa using hh,hxs.1,hxs.2⟩
        subst e1;subst e2;subst e3
        have e4:ts= #[t,tk]:=by apply Array.ext';simpa using hts
        subst e4
        exact eff (q:=(.tup [],st')) (mapDeleteA_ok (ty:=o.type) (tk:=tk) hE0 hl' hok (hT.eval x1) (hT.eval x2)) (by
          unfold execOp;simp only [hop,resolve,invoke,builtin,Sem.run_bind,Sem.run_pure,Result.andThen_ok];simp)
      · cases hl
    · rename_i f args ts hop
      split at h
      · rename_i k first captured hf
        obtain ⟨x,hx,rfl⟩:=Option.map_eq_some_iff.1 h
        have hfv:=hT.eval f
        rw [hf] at hfv
        obtain ⟨us,vs,hfe,h1,h2⟩:=hfv.fn_inv
        refine ⟨us++args.toList.map a.eval++vs,?_,(h1.append (hT.evals args.toList)).append h2⟩
        have hfn:=hE.fn k x hx
        obtain ⟨hn,hb⟩:=hE.body k x hx
        have hcf:∀xs w,(callFunc k xs).run P w= .ok (.enter k xs) w:=by
          intro xs w
          unfold callFunc
          rw [Sem.run_bind]
          have:(program).run P w= .ok P w:=rfl
          rw [this,Result.andThen_ok]
          simp only [hfn]
          rw [if_neg (by simpa using hn),if_neg (by cases hb':x.body<;>simp [hb'] at hb⊢)]
          rfl
        unfold execOp
        simp only [hop,resolve,hfe,Deferred.ofValue,Sem.run_bind,Sem.run_pure,Result.andThen_ok,invoke,hcf]
        congr 2
        apply Array.ext'
        simp
      · cases h
    · cases h

/-! ### code -/
/-- Related outcomes. -/
def Post(g:G)(st:St)(w:World)(Q:Exit→Tm→St→Prop):Exit→Act→World→Prop:=fun e a' w'=>∃g' T' st',Step g st w g' st' w'∧TR g' T' a'∧Q e T' st'
def AW(P:Program)(c:Code)(Q:Exit→Tm→St→Prop)(T:Tm)(st:St):Prop:=∀g w a,OK g st w→TR g T a→c.wp P (Post g st w Q) a w
def ACalls(P:Program)(f:Nat)(args:List AV)(Q:AV→St→Prop)(st:St):Prop:=
  ∀g w us,OK g st w→VRs g args us→Calls P f us.toArray w fun e w'=>∃g' st' r v,e= .returned v∧Step g st w g' st' w'∧VR g' r v∧Q r st'

theorem Post.trans{g g1:G}{st st1:St}{w w1:World}{Q:Exit→Tm→St→Prop}(h:Step g st w g1 st1 w1){e:Exit}{a':Act}{w':World}(k:Post g1 st1 w1 Q e a' w'):Post g st w Q e a' w':=by
  obtain ⟨g',T',st',k1,k2,k3⟩:=k
  exact ⟨g',T',st',h.trans k1,k2,k3⟩
theorem Post.mono{g:G}{st:St}{w:World}{Q Q':Exit→Tm→St→Prop}(h:∀e T st,Q e T st→Q' e T st){e:Exit}{a':Act}{w':World}(k:Post g st w Q e a' w'):Post g st w Q' e a' w':=by
  obtain ⟨g',T',st',k1,k2,k3⟩:=k
  exact ⟨g',T',st',k1,k2,h _ _ _ k3⟩

section
variable {P:Program} {Q:Exit→Tm→St→Prop} {T:Tm} {st:St}
theorem AW.mono{c:Code}{Q':Exit→Tm→St→Prop}(h:AW P c Q T st)(hq:∀e T st,Q e T st→Q' e T st):AW P c Q' T st:=
  fun g w a hok hT=>wp_mono (h g w a hok hT) fun _ _ _ k=>k.mono hq
theorem ACalls.mono{f:Nat}{args:List AV}{Q Q':AV→St→Prop}(h:ACalls P f args Q st)(hq:∀r st,Q r st→Q' r st):ACalls P f args Q' st:=
  fun g w us hok hv=>(h g w us hok hv).mono fun _ _ ⟨g',st',r,v,h1,h2,h3,h4⟩=>⟨g',st',r,v,h1,h2,h3,hq _ _ h4⟩

theorem Post.now{g:G}{w:World}{a:Act}(hok:OK g st w)(hT:TR g T a){e:Exit}(h:Q e T st):Post g st w Q e a w:=⟨g,T,st,.refl hok,hT,h⟩
theorem AW.skip(h:Q .normal T st):AW P .skip Q T st:=fun _ _ _ hok hT=>wp_skip (.now hok hT h)
theorem AW.label{l:Nat}(h:Q .normal T st):AW P (.label l) Q T st:=fun _ _ _ hok hT=>wp_label (.now hok hT h)
theorem AW.exit{id:Nat}(h:Q (.exit id) T st):AW P (.exit id) Q T st:=fun _ _ _ hok hT=>wp_exit (.now hok hT h)
theorem AW.ret(h:Q .ret T st):AW P .ret Q T st:=fun _ _ _ hok hT=>wp_ret (.now hok hT h)

/-- what follows -/
def thenA(K:Tm→St→Prop)(Q:Exit→Tm→St→Prop):Exit→Tm→St→Prop
  | .normal,T,st=>K T st
  |e,T,st=>Q e T st
theorem AW.seq{x y:Code}(h:AW P x (thenA (AW P y Q) Q) T st):AW P (.seq x y) Q T st:=by
  intro g w a hok hT
  refine wp_seq (wp_mono (h g w a hok hT) fun e a' w' k=> ?_)
  obtain ⟨g',T',st',k1,k2,k3⟩:=k
  cases e with
  |normal=>exact wp_mono (k3 g' w' a' k1.ok k2) fun _ _ _ q=> .trans k1 q
  |_=>exact ⟨g',T',st',k1,k2,k3⟩
theorem AW.cond{c:Operand}{x y:Code}{b:Bool}(hc:T.eval c= .val (.bool b))(h:AW P (if b then x else y) Q T st):AW P (.cond c x y) Q T st:=by
  intro g w a hok hT
  have hv:=hT.eval c
  rw [hc] at hv
  exact wp_cond hv.val_inv (h g w a hok hT)
def blockA(id:Nat)(Q:Exit→Tm→St→Prop):Exit→Tm→St→Prop
  | .exit id',T,st=>if id'=id then Q .normal T st else Q (.exit id') T st
  |e,T,st=>Q e T st
theorem AW.block{id:Nat}{c:Code}(h:AW P c (blockA id Q) T st):AW P (.block id c) Q T st:=by
  intro g w a hok hT
  refine wp_block (wp_mono (h g w a hok hT) fun e a' w' k=> ?_)
  obtain ⟨g',T',st',k1,k2,k3⟩:=k
  cases e with
  |exit id'=>
    simp only [Exit.inBlock,blockA] at k3⊢
    split
    · rename_i e;rw [if_pos e] at k3;exact ⟨g',T',st',k1,k2,k3⟩
    · rename_i e;rw [if_neg e] at k3;exact ⟨g',T',st',k1,k2,k3⟩
  |_=>exact ⟨g',T',st',k1,k2,k3⟩
theorem AW.scope{c:Code}(h:AW P c (fun e T st=>(∀l,e≠ .goto l)∧Q e T st) T st):AW P (.scope c) Q T st:=by
  intro g w a hok hT
  refine wp_scope_straight (wp_mono (h g w a hok hT) fun e a' w' k=> ?_)
  obtain ⟨g',T',st',k1,k2,k3,k4⟩:=k
  cases e with
  |goto l=>exact absurd rfl (k3 l)
  |_=>exact ⟨g',T',st',k1,k2,k4⟩
/-- A loop: an invariant with a number that falls. -/
theorem AW.loop{c:Code}(I:Nat→Tm→St→Prop)(n:Nat)(h:I n T st)(round:∀n T st,I n T st→AW P c (thenA (fun T' st'=>∃m,m<n∧I m T' st') Q) T st):AW P (.loop c) Q T st:=by
  intro g w a hok hT
  refine wp_loop_ghost (fun n a' w'=>∃g' T' st',Step g st w g' st' w'∧TR g' T' a'∧I n T' st') n ⟨g,T,st,.refl hok,hT,h⟩ fun n a' w' k=> ?_
  obtain ⟨g',T',st',k1,k2,k3⟩:=k
  refine wp_mono (round n T' st' k3 g' w' a' k1.ok k2) fun e a2 w2 q=> ?_
  obtain ⟨g2,T2,st2,q1,q2,q3⟩:=q
  cases e with
  |normal=>
    obtain ⟨m,hm,hI⟩:=q3
    exact ⟨m,hm,g2,T2,st2,k1.trans q1,q2,hI⟩
  |_=>exact ⟨g2,T2,st2,k1.trans q1,q2,q3⟩

/-- may the operation run? -/
def wantedA(ops:Array Oper)(o:Oper)(T:Tm):Option Bool:=
  match o.guard with
  |none=>some true
  |some (j,want)=>match (ops[j]?).bind (·.dst) with
    |none=>some false
    |some d=>if d<T.n then (match T.get d with
      | .val (.bool b)=>some (b==want)
      | .tup []=>some false
      |_=>none) else none
theorem wantedA_ok{ops:Array Oper}{o:Oper}{b:Bool}(h:wantedA ops o T=some b){g:G}{a:Act}(hT:TR g T a):Region.wanted o (yielded ops a.tmps)=b:=by
  unfold wantedA at h
  unfold Region.wanted
  split at h
  · rename_i hg;cases h;rw [hg]
  · rename_i j want hg
    rw [hg]
    simp only []
    unfold yielded
    split at h
    · rename_i hd;cases h;rw [hd];rfl
    · rename_i d hd
      rw [hd]
      split at h
      · rename_i hlt
        have hv:=hT.get d
        have hs:a.tmps[d]? =some (a.tmps.getD d Go.undef):=by
          rw [Array.getD_eq_getD_getElem?,Array.getElem?_eq_getElem (by rw [hT.size];exact hlt)]
          rfl
        simp only [Option.bind_some,hs]
        split at h
        · rename_i b' hb
          cases h
          rw [hb] at hv
          rw [hv.val_inv]
          cases b'<;>cases want<;>rfl
        · rename_i hb
          cases h
          rw [hb] at hv
          obtain ⟨us,hu,h1⟩:=hv.tup_inv
          rw [hu]
          rfl
        · cases h
      · cases h

def AOps(P:Program)(E:Env)(ops:Array Oper)(Q:Exit→Tm→St→Prop):List Oper→Tm→St→Prop
  | [],T,st=>Q .normal T st
  |o::rest,T,st=>match wantedA ops o T with
    |some true=>match evOp E o.op T st with
      |some (.val av st')=>T.fits o.dst=true∧AOps P E ops Q rest (T.put o.dst av) st'
      |some (.skip st')=>T.fits o.dst=true∧AOps P E ops Q rest (T.put o.dst (.tup [])) st'
      |some (.any l)=>T.fits o.dst=true∧∀q∈l,AOps P E ops Q rest (T.put o.dst q.1) q.2
      |some (.call f args)=>T.fits o.dst=true∧ACalls P f args (fun r st'=>AOps P E ops Q rest (T.put o.dst r) st') st
      |none=>False
    |some false=>T.fits o.dst=true∧AOps P E ops Q rest (T.put o.dst (.tup [])) st
    |none=>False


theorem AOps.ok{E:Env}(hE:EOK' P E){ops:Array Oper}:∀(l:List Oper) {T:Tm} {st:St},AOps P E ops Q l T st→∀{g0 g:G} {st0:St} {w0 w:World} {a:Act},Step g0 st0 w0 g st w→TR g T a→wpList P ops (Post g0 st0 w0 Q) l a w
  | [],T,st,h,g0,g,st0,w0,w,a,hs,hT=>wpList_nil ⟨g,T,st,hs,hT,h⟩
  |o::rest,T,st,h,g0,g,st0,w0,w,a,hs,hT=>by
    simp only [AOps] at h
    unfold wpList
    split at h
    · rename_i hw
      rw [if_pos (wantedA_ok hw hT)]
      refine .inl ?_
      unfold Oper.wp
      split at h
      · rename_i av st' he
        obtain ⟨u,w',g',h1,h2,h3⟩:=evOp_ok hE he hs.ok hT
        rw [h1]
        exact AOps.ok hE rest h.2 (hs.trans h2) ((hT.mono h2.le).put h.1 h3)
      · rename_i st' he
        obtain ⟨w',g',h1,h2⟩:=evOp_ok hE he hs.ok hT
        rw [h1]
        exact AOps.ok hE rest h.2 (hs.trans h2) ((hT.mono h2.le).put h.1 (VR.tup0 _))
      · rename_i l he
        obtain ⟨q,hq,u,w',g',h1,h2,h3⟩:=evOp_ok hE he hs.ok hT
        rw [h1]
        exact AOps.ok hE rest (h.2 q hq) (hs.trans h2) ((hT.mono h2.le).put h.1 h3)
      · rename_i f args he
        obtain ⟨us,h1,h2⟩:=evOp_ok hE he hs.ok hT
        rw [h1]
        refine (h.2 g w us hs.ok h2).mono fun e w' k=> ?_
        obtain ⟨g',st',r,v,rfl,k1,k2,k3⟩:=k
        exact AOps.ok hE rest k3 (hs.trans k1) ((hT.mono k1.le).put h.1 k2)
      · exact h.elim
    · rename_i hw
      rw [if_neg (by rw [wantedA_ok hw hT];simp)]
      exact AOps.ok hE rest h.2 hs (hT.put h.1 (VR.tup0 _))
    · exact h.elim

theorem AW.region{E:Env}(hE:EOK' P E){id:Nat}{ops:Array Oper}(h:AOps P E ops Q ops.toList T st):AW P (.region id ops false) Q T st:=
  fun _ _ _ hok hT=>wp_region_list (AOps.ok hE ops.toList h (.refl hok) hT)

/-! ### a function -/
def resA(E:Env)(T:Tm)(st:St):List ResultVar→Option (List AV)
  | []=>some []
  | .tmp t::r=>(resA E T st r).map (T.get t:: ·)
  | .cell p ty::r=>match T.get p with
    | .ptr id off=>match loadA E st ty (.ptr id off) with
      |some v=>(resA E T st r).map (v:: ·)
      |none=>none
    |_=>none
def oneOrTup:List AV→AV
  | [v]=>v
  |vs=> .tup vs
def resF(tmps:Array Value):ResultVar→Sem Value
  | .tmp t=>pure (tmps.getD t Go.undef)
  | .cell a t=>do loadVar t (←asAddr (tmps.getD a Go.undef))
theorem results_eq(fn:Func)(tmps:Array Value):results fn tmps=(do let vs←fn.results.mapM (resF tmps);pure (if h:vs.size=1 then vs[0] else .tuple vs)):=rfl
theorem resA_ok{E:Env}(hE:EOK P E){g:G}{w:World}{a:Act}(hok:OK g st w)(hT:TR g T a):∀(rs:List ResultVar) {vs:List AV},resA E T st rs=some vs→
    ∃us,(rs.mapM (resF a.tmps)).run P w= .ok us w∧VRs g vs us
  | [],vs,h=>by simp only [resA,Option.some.injEq] at h;subst h;exact ⟨[],rfl,.nil g⟩
  | .tmp t::r,vs,h=>by
    simp only [resA,Option.map_eq_some_iff] at h
    obtain ⟨vs',h',rfl⟩:=h
    obtain ⟨us,h1,h2⟩:=resA_ok hE hok hT r h'
    exact ⟨a.tmps.getD t undef::us,by rw [List.mapM_cons];simp only [resF,Sem.run_bind,Sem.run_pure,Result.andThen_ok];rw [h1];rfl,.cons (hT.get t) h2⟩
  | .cell p ty::r,vs,h=>by
    simp only [resA] at h
    split at h
    · rename_i id off hp
      split at h
      · rename_i v hv
        obtain ⟨vs',h',rfl⟩:=Option.map_eq_some_iff.1 h
        obtain ⟨us,h1,h2⟩:=resA_ok hE hok hT r h'
        have hg:=hT.get p
        rw [hp] at hg
        obtain ⟨u,k1,k2⟩:=loadA_ok hE hv hok (.ptr id off hg.ptr_inv.1)
        refine ⟨u::us,?_,.cons k2 h2⟩
        rw [List.mapM_cons]
        have hl:(loadVar ty ⟨g.blk id,g.base id+off,none⟩).run P w= .ok u w:=by
          simpa [Instr.loadAt,Instr.sureAddr,Sem.run_bind,Sem.run_pure] using k1
        have hr:(resF a.tmps (.cell p ty)).run P w= .ok u w:=by
          show ((do loadVar ty (←asAddr (a.tmps.getD p Go.undef))):Sem Value).run P w=_
          rw [hg.ptr_inv.2,Sem.run_bind,show (asAddr (.pointer (some ⟨g.blk id,g.base id+off,none⟩))).run P w= .ok ⟨g.blk id,g.base id+off,none⟩ w from rfl,Result.andThen_ok]
          exact hl
        rw [Sem.run_bind,hr,Result.andThen_ok,Sem.run_bind,h1]
        rfl
      · cases h
    · cases h

theorem results_ok{E:Env}(hE:EOK P E){g:G}{w:World}{a:Act}(hok:OK g st w)(hT:TR g T a){fn:Func}{vs:List AV}(h:resA E T st fn.results.toList=some vs):∃u,(results fn a.tmps).run P w= .ok u w∧VR g (oneOrTup vs) u:=by
  obtain ⟨us,h1,h2⟩:=resA_ok hE hok hT fn.results.toList h
  have hm:(fn.results.mapM (resF a.tmps)).run P w= .ok us.toArray w:=by
    rw [Array.mapM_eq_mapM_toList,Sem.run_map,h1]
    rfl
  rw [results_eq,Sem.run_bind,hm,Result.andThen_ok]
  refine ⟨_,rfl,?_⟩
  match vs,us,h2 with
  | [],us,h2=>
    obtain rfl:us= []:=List.eq_nil_of_length_eq_zero (by simpa using h2.1)
    exact .tup [] [] rfl (fun i hi=>by simp at hi)
  | [v],us,h2=>
    match us,h2 with
    | [u],h2=>exact h2.head
    | [],h2=>simp [VRs] at h2
    |_::_::_,h2=>simp [VRs] at h2
  |v1::v2::vs,us,h2=>
    have hl:=h2.1
    simp only [List.length_cons] at hl
    have:¬us.toArray.size=1:=by simp;omega
    rw [dif_neg this]
    exact .tup _ us h2.1 h2.2

/-- the frame at the door -/
def zipT:List AV→Nat→List (Nat×AV)
  | [],_=> []
  |v::r,k=>(k,v)::zipT r (k+1)
def enterT(fn:Func)(args:List AV)(gl:List (Nat×List AV)):Tm:={n:=args.length+(fn.ntmps- args.length),l:=zipT args 0,gl:=gl}
theorem look_zipT:∀(vs:List AV) (k t:Nat),look (zipT vs k) t=if k≤t then vs.getD (t- k) .undef else .undef
  | [],k,t=>by simp [zipT,look]
  |v::r,k,t=>by
    simp only [zipT,look]
    rw [look_zipT r (k+1) t]
    by_cases h:k=t
    · subst h;simp
    · rw [if_neg h]
      by_cases h1:k+1≤t
      · rw [if_pos h1,if_pos (by omega),show t- k=(t- (k+1))+1 by omega]
        simp
      · rw [if_neg h1,if_neg (by omega)]
theorem enterT_ok{g:G}{fn:Func}{args:List AV}{us:List Value}{gl:List (Nat×List AV)}(h:VRs g args us)(hgl:∀p∈gl,VR g (.iptr p.2) (.pointer (some ⟨p.1,0,none⟩))):TR g (enterT fn args gl) {tmps:=us.toArray++Array.replicate (fn.ntmps- us.toArray.size) Go.undef,defers:= []}:=by
  refine ⟨by simp [enterT,h.1],fun t=> ?_,rfl,hgl⟩
  simp only [enterT,Tm.get]
  rw [look_zipT,if_pos (Nat.zero_le _),Nat.sub_zero]
  by_cases ht:t<args.length
  · have:=h.2 t ht
    have e:(us.toArray++Array.replicate (fn.ntmps- us.toArray.size) Go.undef).getD t Go.undef=us.getD t (.tuple #[]):=by
      rw [Array.getD_eq_getD_getElem?,Array.getElem?_append_left (by simpa [h.1] using ht),List.getD_eq_getElem?_getD]
      simp [Go.undef]
    rw [e];exact this
  · rw [List.getD_eq_getElem?_getD,List.getElem?_eq_none (by omega)]
    exact .undef _

/-- how a body ends -/
def endA(E:Env)(fn:Func)(Q:AV→St→Prop):Exit→Tm→St→Prop
  | .normal,T,st| .ret,T,st=>∃vs,resA E T st fn.results.toList=some vs∧Q (oneOrTup vs) st
  |_,_,_=>False
theorem ACalls.body{E:Env}(hE:EOK' P E){f:Nat}{fn:Func}{c:Code}{args:List AV}{R:AV→St→Prop}(hf:P.funcs[f]? =some fn)(hb:fn.body=some c)(h:AW P c (endA E fn R) (enterT fn args st.gl) st):ACalls P f args R st:=by
  intro g w us hok hv
  refine calls_of_wp hf hb (wp_mono (h g w _ hok (enterT_ok hv fun p hp=>(hok.glob p hp).1)) fun e a' w' k=> ?_)
  obtain ⟨g',T',st',k1,k2,k3⟩:=k
  cases e<;>try exact k3.elim
  all_goals
    obtain ⟨vs,h1,h2⟩:=k3
    obtain ⟨u,h3,h4⟩:=results_ok hE.toEOK k1.ok k2 h1
    exact ⟨k2.defers,u,h3,g',st',_,u,rfl,k1,h4,h2⟩
end

/-! ### a region whose order the tape picks -/
section
variable {P:Program} {ops:Array Oper} {Q:Exit→Act→World→Prop} {S:Array Bool→World→Prop}
abbrev MD:Region.Mode:= .any

def wpAnyG(P:Program)(ops:Array Oper)(Q:Exit→Act→World→Prop)(S:Array Bool→World→Prop):Nat→Array Bool→Act→World→Prop
  |0,listed,a,w=>Region.ready MD ops listed= []∧Q .normal a w
  |fuel+1,listed,a,w=>
    (Region.ready MD ops listed= []→Q .normal a w)∧
    ∀i∈Region.ready MD ops listed,wpOp P ops Q i (fun a' w'=>S (listed.setIfInBounds i true) w'∧wpAnyG P ops Q S fuel (listed.setIfInBounds i true) a' w') a w

theorem wpAny_of_G:∀(fuel:Nat) (listed:Array Bool) (a:Act) (w:World),wpAnyG P ops Q S fuel listed a w→wpAny P MD ops Q fuel listed a w
  |0,_,_,_,h=>h
  |fuel+1,_,_,_,h=>⟨h.1,fun i hi=>wpOp_mono (fun a' w' h'=>wpAny_of_G fuel _ a' w' h'.2) (h.2 i hi)⟩

/-- nobody that has come up waits for i -/
def NoWait(ops:Array Oper)(listed:Array Bool)(i:Nat):Prop:=∀(j:Nat) (oj:Oper),ops[j]? =some oj→listed.getD j false=true→∀e∈oj.after,Region.binds MD e=true→e.on≠i

theorem wpAnyG_first{i:Nat}{oi:Oper}{v:Value}{Si:World→Prop}(hi:ops[i]? =some oi)(hsel:∀(j:Nat) (o:Oper) cs b,ops[j]? =some o→o.op≠ .select cs b)
    (hQ:∀c a w,Q (.panic c) (a.put oi.dst v) w→Q (.panic c) a w) (hSi:∀listed w,NoWait ops listed i→S listed w→Si w) (hS:∀listed w,S (listed.setIfInBounds i true) w↔S listed w) (hself:∀e∈oi.after,Region.binds MD e=true→e.on≠i):
    ∀(fuel:Nat) (listed:Array Bool) (a:Act) (w:World),
      (∀j oj,ops[j]? =some oj→j≠i→listed.getD j true=false→(∀e∈oj.after,Region.binds MD e=true→e.on≠i)→oi.apart ops oj=true)→
      i∈Region.ready MD ops listed→NoWait ops listed i→YieldsIf P ops Si oi v a→S listed w→
      wpAnyG P ops Q S fuel (listed.setIfInBounds i true) (a.put oi.dst v) w→wpAnyG P ops Q S (fuel+1) listed a w:=by
  intro fuel
  induction fuel with
  |zero=>
    intro listed a w _ hr hnw hy hSw H
    refine ⟨fun h=>(by rw [h] at hr;cases hr),fun j hj=> ?_⟩
    by_cases hji:j=i
    · subst hji;exact hy.wpOp hi (hSi _ _ hnw hSw) ⟨(hS _ _).2 hSw,H⟩
    · have:=ready_mono hj hji
      rw [H.1] at this
      cases this
  |succ fuel ih=>
    intro listed a w hfree hr hnw hy hSw H
    refine ⟨fun h=>(by rw [h] at hr;cases hr),fun j hj=> ?_⟩
    by_cases hji:j=i
    · subst hji;exact hy.wpOp hi (hSi _ _ hnw hSw) ⟨(hS _ _).2 hSw,H⟩
    · have h1:=H.2 j (ready_mono hj hji)
      obtain ⟨hjun,oj,hoj,hall⟩:=mem_ready.1 hj
      have hnot:∀e∈oj.after,Region.binds MD e=true→e.on≠i:=fun e he hb heq=>by
        have h1:=hall e he hb
        have h0:=(mem_ready.1 hr).1
        rw [heq] at h1
        rcases Nat.lt_or_ge i listed.size with h'|h'
        · simp [h'] at h0 h1;rw [h0] at h1;cases h1
        · simp [Array.getElem?_eq_none h'] at h1
      have h2:=wpOp_putIf hoj (hfree j oj hoj hji hjun hnot) (fun cs b=>hsel i oi cs b hi) (fun cs b=>hsel j oj cs b hoj) hQ hy h1
      have hfree':∀k ok,ops[k]? =some ok→k≠i→(listed.setIfInBounds j true).getD k true=false→
          (∀e∈ok.after,Region.binds MD e=true→e.on≠i)→oi.apart ops ok=true:=fun k ok hk hki hun hno=>by
        refine hfree k ok hk hki ?_ hno
        by_cases hjk:j=k
        · subst hjk;exact hjun
        · rw [getD_set_ne true hjk] at hun;exact hun
      have hnw':NoWait ops (listed.setIfInBounds j true) i:=fun k ok hk hl=>by
        by_cases hjk:j=k
        · subst hjk;rw [hoj] at hk;cases hk;exact hnot
        · rw [getD_set_ne false hjk] at hl;exact hnw k ok hk hl
      refine wpOp_mono (fun a' w' h3=> ?_) h2
      have hs':S (listed.setIfInBounds j true) w':=by
        have:=h3.2.1
        rw [Array.setIfInBounds_comm _ _ (Ne.symm hji)] at this
        exact (hS _ _).1 this
      refine ⟨hs',ih (listed.setIfInBounds j true) a' w' hfree' (ready_mono hr (Ne.symm hji)) hnw' h3.1 hs' ?_⟩
      rw [Array.setIfInBounds_comm _ _ hji]
      exact h3.2.2
end

/-- does it change the world, or might it? -/
def effOp:Op→Bool
  | .move .. | .assign .. | .binOp .. | .unOp .. | .fieldAddr .. | .indexAddr .. | .extract .. | .pick .. | .nilCheck .. | .load .. | .lookup .. | .field .. | .index .. | .slice .. | .build .. | .convert .. | .makeFunc .. =>false
  | .call ⟨.builtin .len,_,_⟩=>false
  |_=>true
def effAt(ops:Array Oper)(i:Nat):Bool:=match ops[i]? with|some o=>effOp o.op|none=>false
def isLoad:Op→Bool| .load .. | .lookup .. =>true|_=>false
def waits(o:Oper)(i:Nat):Bool:=o.after.any fun e=>Region.binds MD e&&e.on==i
/-- may a load still be to come, as far as the operations that have come up tell? -/
def phase(ops:Array Oper)(listed:Array Bool):Bool:=
  (List.range ops.size).any fun i=>(match ops[i]? with|some o=>isLoad o.op|none=>false)&&(List.range ops.size).all fun j=> !(listed.getD j false)||match ops[j]? with|some oj=> !(effOp oj.op&&waits oj i)|none=>true
def noWait(ops:Array Oper)(listed:Array Bool)(i:Nat):Bool:=(List.range ops.size).all fun j=> !(listed.getD j false)||match ops[j]? with|some oj=> !(waits oj i)|none=>true

theorem waits_false{o:Oper}{i:Nat}(h:waits o i=false):∀e∈o.after,Region.binds MD e=true→e.on≠i:=by
  intro e he hb hi
  unfold waits at h
  rw [Array.any_eq_false'] at h
  exact h e he (by simp [hb,hi])
theorem waits_of{o:Oper}{i:Nat}(h:∀e∈o.after,Region.binds MD e=true→e.on≠i):waits o i=false:=by
  unfold waits
  rw [Array.any_eq_false']
  intro e he hh
  simp only [Bool.and_eq_true,beq_iff_eq] at hh
  exact h e he hh.1 hh.2
theorem noWait_spec{ops:Array Oper}{listed:Array Bool}{i:Nat}(h:noWait ops listed i=true):NoWait ops listed i:=by
  intro j oj hj hl
  simp only [noWait,List.all_eq_true,List.mem_range] at h
  have:=h j (Array.getElem?_eq_some_iff.1 hj).1
  rw [hl,hj] at this
  exact waits_false (by simpa using this)
theorem phase_of{ops:Array Oper}{listed:Array Bool}{i:Nat}{o:Oper}(hi:ops[i]? =some o)(hl:isLoad o.op=true)(h:NoWait ops listed i):phase ops listed=true:=by
  simp only [phase,List.any_eq_true,List.mem_range]
  refine ⟨i,(Array.getElem?_eq_some_iff.1 hi).1,?_⟩
  simp only [hi,hl,Bool.true_and,List.all_eq_true,List.mem_range]
  intro j hj
  cases hlj:listed.getD j false with
  |false=>rfl
  |true=>
    cases hoj:ops[j]? with
    |none=>rfl
    |some oj=>
      simp only [waits_of (h j oj hoj hlj)]
      simp
theorem phase_set{ops:Array Oper}{listed:Array Bool}{i:Nat}(h:effAt ops i=false):phase ops (listed.setIfInBounds i true)=phase ops listed:=by
  unfold phase
  congr 1
  funext k
  congr 1
  apply Bool.eq_iff_iff.2
  simp only [List.all_eq_true,List.mem_range]
  refine forall_congr' fun j=>forall_congr' fun hj=> ?_
  by_cases hij:i=j
  · subst hij
    unfold effAt at h
    cases ho:ops[i]? with
    |none=>simp
    |some o=>rw [ho] at h;simp only at h;simp [h]
  · rw [getD_set_ne false hij]
theorem phase_anti{ops:Array Oper}{listed:Array Bool}{i:Nat}(h:phase ops (listed.setIfInBounds i true)=true):phase ops listed=true:=by
  simp only [phase,List.any_eq_true,List.mem_range,Bool.and_eq_true,List.all_eq_true] at h⊢
  obtain ⟨k,hk,h1,h2⟩:=h
  refine ⟨k,hk,h1,fun j hj=> ?_⟩
  have:=h2 j hj
  cases hl:listed.getD j false with
  |false=>rfl
  |true=>rw [getD_set_true hl] at this;exact this

/-! the store, some objects locked -/
def St.hide(st:St)(ids:List Nat):St:={st with lock:=ids++st.lock}
def St.show1(st' st:St)(ids:List Nat):St:=ids.foldl (fun s id=>match st.get id with|some o=>s.set id o|none=>s) st'
def St.show(st' st:St)(ids:List Nat):St:={st'.show1 st ids with lock:=st.lock}
theorem St.hide_get(ids:List Nat)(st:St)(i:Nat):(st.hide ids).get i=st.get i:=rfl
theorem St.hide_wget{ids:List Nat}{st:St}{i:Nat}{o:AObj}(h:(st.hide ids).wget i=some o):st.wget i=some o∧i∉ids:=by
  obtain ⟨h1,h2⟩:=St.wget_get h
  simp only [St.hide,List.mem_append,not_or] at h2
  exact ⟨St.wget_of h1 h2.2,h2.1⟩
theorem St.show1_get:∀(ids:List Nat) (st' st:St) (i:Nat),(st'.show1 st ids).get i=if i∈ids∧(st.get i).isSome=true then st.get i else st'.get i
  | [],st',st,i=>by simp [St.show1]
  |id::r,st',st,i=>by
    show (St.show1 (match st.get id with|some o=>st'.set id o|none=>st') st r).get i=_
    rw [St.show1_get r]
    by_cases h1:i∈r
    · simp only [h1,true_and,List.mem_cons,or_true]
      by_cases h2:(st.get i).isSome=true
      · simp [h2]
      · simp only [h2]
        simp only [Bool.false_eq_true,if_false]
        cases hid:st.get id with
        |none=>rfl
        |some o=>
          simp only []
          rw [St.get_set,if_neg]
          intro e;subst e;simp [hid] at h2
    · simp only [h1,false_and,if_false,List.mem_cons,or_false]
      cases hid:st.get id with
      |none=>
        simp only []
        rw [if_neg]
        rintro ⟨e,h⟩;subst e;simp [hid] at h
      |some o=>
        simp only []
        rw [St.get_set]
        by_cases e:i=id
        · subst e;simp [hid]
        · simp [e]
theorem St.show1_next:∀(ids:List Nat) (st' st:St),(st'.show1 st ids).next=st'.next
  | [],st',st=>rfl
  |id::r,st',st=>by
    show (St.show1 (match st.get id with|some o=>st'.set id o|none=>st') st r).next=_
    rw [St.show1_next r]
    split<;>rfl
theorem St.show_get(ids:List Nat)(st' st:St)(i:Nat):(st'.show st ids).get i=if i∈ids∧(st.get i).isSome=true then st.get i else st'.get i:=St.show1_get ids st' st i
theorem St.show1_gl:∀(ids:List Nat) (st' st:St),(st'.show1 st ids).gl=st'.gl
  | [],st',st=>rfl
  |id::r,st',st=>by
    show (St.show1 (match st.get id with|some o=>st'.set id o|none=>st') st r).gl=_
    rw [St.show1_gl r]
    split<;>rfl
theorem St.show_gl(ids:List Nat)(st' st:St):(st'.show st ids).gl=st'.gl:=St.show1_gl ids st' st
theorem St.show_next(ids:List Nat)(st' st:St):(st'.show st ids).next=st'.next:=St.show1_next ids st' st

theorem OK.hide{g:G}{st:St}{w:World}(h:OK g st w)(ids:List Nat):OK g (st.hide ids) w:=⟨h.imm,h.obj,h.inj,h.sep,h.n,h.glob⟩

theorem Step.hidden{g g1:G}{st st1:St}{w w1:World}{ids:List Nat}(hok:OK g st w)(h:Step g (st.hide ids) w g1 st1 w1):Step g st w g1 (st1.show st ids) w1:=by
  have hdead:∀id o,id∈ids→st.get id=some o→∀id' o',(st.hide ids).wget id'=some o'→g.blk id'≠g.blk id:=fun id o hm ho id' o' h1 he=>by
    obtain ⟨h2,h3⟩:=St.hide_wget h1
    have:=hok.inj id' o' id o (St.wget_get h2).1 ho he
    subst this
    exact h3 hm
  have hkeep:∀id o,id∈ids→st.get id=some o→w1.heap[g.blk id]? =w.heap[g.blk id]? :=fun id o hm ho=>h.frame _ (hok.lt ho).2 (hdead id o hm ho)
  have get':∀id o,(st1.show st ids).get id=some o→(id∈ids∧st.get id=some o)∨st1.get id=some o:=fun id o ho=>by
    rw [St.show_get] at ho
    split at ho
    · rename_i hc;exact .inl ⟨hc.1,ho⟩
    · exact .inr ho
  have inlock:∀id,id∈ids→id∈(st.hide ids).lock:=fun id hm=>by simp [St.hide,hm]
  have cross:∀id o id' o',id∈ids→st.get id=some o→st1.get id'=some o'→g1.blk id=g1.blk id'→id=id':=fun id o id' o' hm ho h1 he=>by
    rw [h.le.blk id (hok.lt ho).1] at he
    obtain ⟨id0,o0,h0,e0,l0⟩:=h.from_ id' o' h1 (by rw [←he];exact (hok.lt ho).2)
    have:id0=id:=hok.inj id0 o0 id o h0 ho (e0.trans he.symm)
    subst this
    exact (l0 (inlock _ hm)).1
  have dead2:∀b,(∀id o,st.wget id=some o→g.blk id≠b)→∀id o,(st.hide ids).wget id=some o→g.blk id≠b:=fun b hn id o ho=>hn id o (St.hide_wget ho).1
  refine ⟨h.le,⟨h.ok.imm,fun id o ho=> ?_,fun id o id' o' h1 h2 he=> ?_,fun id o ho=> ?_,by rw [St.show_next];exact h.ok.n,by rw [St.show_gl];exact h.ok.glob⟩,h.os,h.tape,h.output,h.size,fun b hb hn=>h.frame b hb (dead2 b hn),fun id o ho hlt=> ?_,
    fun b hb hn=>h.froz b hb (dead2 b hn),rfl,by rw [St.show_gl];exact h.gl⟩
  · rcases get' id o ho with ⟨hm,ho'⟩|ho'
    · refine ⟨?_,(hok.obj id o ho').2.keep h.le (hok.lt ho').1 (hkeep id o hm ho')⟩
      rw [St.show_next,←h.ok.n]
      exact Nat.lt_of_lt_of_le (hok.lt ho').1 h.le.n
    · rw [St.show_next];exact h.ok.obj id o ho'
  · rcases get' id o h1 with ⟨a1,a2⟩|a2<;>rcases get' id' o' h2 with ⟨b1,b2⟩|b2
    · rw [h.le.blk id (hok.lt a2).1,h.le.blk id' (hok.lt b2).1] at he
      exact hok.inj id o id' o' a2 b2 he
    · exact cross id o id' o' a1 a2 b2 he
    · exact (cross id' o' id o b1 b2 a2 he.symm).symm
    · exact h.ok.inj id o id' o' a2 b2 he
  · rcases get' id o ho with ⟨hm,ho'⟩|ho'
    · rw [h.le.blk id (hok.lt ho').1,h.froz _ (hok.lt ho').2 (hdead id o hm ho')]
      exact hok.sep id o ho'
    · exact h.ok.sep id o ho'
  · rcases get' id o ho with ⟨hm,ho'⟩|ho'
    · exact ⟨id,o,ho',(h.le.blk id (hok.lt ho').1).symm,fun _=>⟨rfl,rfl⟩⟩
    · obtain ⟨id0,o0,h0,e0,l0⟩:=h.from_ id o ho' hlt
      exact ⟨id0,o0,h0,e0,fun hl=>l0 (by simp [St.hide,hl])⟩

/-! a load, whatever else may happen -/
theorem load_part'{P:Program}{E:Env}(hE:EOK P E){t:Nat}{cs:List AV}{off:Nat}{av:AV}(h:partA E t cs off=some av){g:G}{us:List Value}(hv:VRs g cs us)(h1:∀u∈us,u.oneCell'=true)
    {b o:Nat}:∃r,VR g av r∧∀w:World,(∀j u,us[j]? =some u→w.cell? ⟨b,o+j,none⟩=some u)→(Instr.loadAt t (.pointer (some ⟨b,o+off,none⟩))).run P w= .ok r w:=by
  unfold partA at h
  cases hi:E.ty t with
  |none=>simp [hi] at h
  |some i=>
    simp only [hi] at h
    have hu:=(hE.ty t i hi).1
    obtain ⟨_,f,hf,hs1,_⟩:=hE.ty t i hi
    split at h
    · rename_i ha
      split at h
      · rename_i hle
        cases h
        have hd:=(hv.drop off).take i.size
        have h1':∀u∈(us.drop off).take i.size,u.oneCell'=true:=fun u hu=>h1 u (List.mem_of_mem_drop (List.mem_of_mem_take hu))
        refine ⟨.agg ((us.drop off).take i.size).toArray,.agg _ _ hd.1 hd.2 h1',fun w hc=>run_loadAt_mid w b (o+off) t _ i.desc (fun j v hj=> ?_) hu ?_ ?_⟩
        · rw [List.getElem?_take] at hj
          split at hj
          · rw [List.getElem?_drop] at hj
            rw [Nat.add_assoc]
            exact hc _ _ hj
          · cases hj
        · unfold isAggD at ha
          split at ha<;>simp_all [TypeDesc.isRow]
        · have:=hv.1
          simp [hf,hs1]
          omega
      · cases h
    · rename_i ha
      obtain ⟨u,hu1,hv1⟩:=hv.get h
      refine ⟨u,hv1,fun w hc=> ?_⟩
      have:(isAgg t).run P w= .ok false w:=by
        unfold isAgg
        rw [Sem.run_bind,run_underlying hu,Result.andThen_ok]
        unfold isAggD at ha
        split<;>simp_all [Sem.run_pure]
      unfold Instr.loadAt Instr.sureAddr loadVar
      rw [Sem.run_bind,Sem.run_pure,Result.andThen_ok,Sem.run_bind,this,Result.andThen_ok]
      simp only [Bool.false_eq_true,if_false,run_load,hc _ _ hu1]

theorem loadA_held{P:Program}{E:Env}(hE:EOK P E){st:St}{t id off:Nat}{av:AV}(h:loadA E st t (.ptr id off)=some av){g:G}{w:World}(hok:OK g st w){u:Value}(hx:VR g (.ptr id off) u):
    ∃r,VR g av r∧∀w':World,w'.heap[g.blk id]? =w.heap[g.blk id]?→(Instr.loadAt t u).run P w'= .ok r w':=by
  simp only [loadA] at h
  split at h
  · rename_i vs ty hg
    obtain ⟨h1,cs,fr,us,h2,h3,h4,h4',h5,_⟩:=hok.obj id _ hg
    rw [hx.ptr_inv.2]
    obtain ⟨r,hr,hrun⟩:=load_part' hE h h4 h4' (b:=g.blk id) (o:=g.base id)
    refine ⟨r,hr,fun w' hw'=>hrun w' fun j u hj=> ?_⟩
    rw [cell_of_obj (hw'.trans h2)]
    have:=pre_get h5 hj
    simpa using this
  · cases h

theorem lookupA_held{P:Program}{E:Env}(hE:EOK P E){st:St}{t:Nat}{m k:AV}{ok:Bool}{av:AV}(h:lookupA E st t m k ok=some av){g:G}{w:World}(hok:OK g st w){u v:Value}(hm:VR g m u)(hk:VR g k v):
    ∃r,VR g av r∧∀w':World,(∀id,m= .mp id→w'.heap[g.blk id]? =w.heap[g.blk id]?)→(Instr.lookup t u v ok).run P w'= .ok r w':=by
  unfold lookupA at h
  split at h
  · rename_i i kv hi
    have hu:=(hE.ty _ _ hi).1
    rw [hk.val_inv]
    split at h
    · rename_i kt et hd
      rw [hd] at hu
      split at h
      · rename_i d ie hpk hie
        obtain ⟨hku,hkd⟩:=plainKey_ok hE hpk
        obtain ⟨_,f,hf,_,_,hfz⟩:=hE.ty _ _ hie
        split at h
        · rename_i z hz
          rw [hz] at hfz
          split at h
          · simp only [Option.some.injEq] at h
            subst h
            cases hm
            refine ⟨_,?_,fun w' _=>run_lookup hu hku hkd hf hfz (.inl ⟨rfl,rfl⟩) (r:=none) rfl⟩
            cases ok
            · exact cv_ok g z
            · exact tup2 (cv_ok g z) (.val _ rfl)
          · rename_i id
            cases hm with
            |mp _ hid=>
            split at h
            · rename_i es bs clock hg
              obtain ⟨es',h1,h2,_,_⟩:=hok.map_at hg
              split at h
              · rename_i hf0
                simp only [Option.some.injEq] at h
                subst h
                obtain ⟨r',k1,k2⟩:=findA_ok hf0 h2
                cases r' with
                |some _=>exact k2.elim
                |none=>
                  refine ⟨_,?_,fun w' hw'=>run_lookup hu hku hkd hf hfz (.inr ⟨_,clock,rfl,(hw' _ rfl).trans h1⟩) k1⟩
                  cases ok
                  · exact cv_ok g z
                  · exact tup2 (cv_ok g z) (.val _ rfl)
              · rename_i p hf0
                simp only [Option.some.injEq] at h
                subst h
                obtain ⟨r',k1,k2⟩:=findA_ok hf0 h2
                cases r' with
                |none=>exact k2.elim
                |some q=>
                  refine ⟨_,?_,fun w' hw'=>run_lookup hu hku hkd hf hfz (.inr ⟨_,clock,rfl,(hw' _ rfl).trans h1⟩) k1⟩
                  cases ok
                  · exact k2.2.1
                  · exact tup2 k2.2.1 (.val _ rfl)
              · cases h
            · cases h
          · cases h
        · cases h
      · cases h
    · cases h
  · cases h

/-- an operation that may be taken first -/
def heldA(E:Env)(st:St)(ids:List Nat)(op:Op)(T:Tm):Option AV:=
  match pureA E st op T with
  |some av=>some av
  |none=>match op with
    | .load t x=>match T.eval x with
      | .ptr id off=>if ids.contains id then loadA E st t (.ptr id off) else none
      |_=>none
    | .lookup t m k ok=>match T.eval m with
      | .mp id=>if ids.contains id then lookupA E st t (.mp id) (T.eval k) ok else none
      | .nilm=>lookupA E st t .nilm (T.eval k) ok
      |_=>none
    |_=>none

/-- one operation, the objects of 'ids' hidden -/
def ADrK(ph:Bool)(st:St)(ids:List Nat)(K:St→Prop):St→Prop:=fun st'=>if ph then K (st'.show st ids) else K st'

def ADr(P:Program)(E:Env)(ops:Array Oper)(ids:List Nat)(Q:Exit→Tm→St→Prop):List Nat→Array Bool→Tm→St→Prop
  | [],listed,T,st=>Region.ready MD ops listed= []∧Q .normal T st
  |i::rest,listed,T,st=>match ops[i]? with
    |none=>False
    |some o=>T.fits o.dst=true∧
      if (!effOp o.op&&Region.free MD ops listed i&&(Region.ready MD ops listed).contains i&&noWait ops listed i&& !waits o i)=true∧(wantedA ops o T=some false∨(wantedA ops o T=some true∧(heldA E st ids o.op T).isSome=true)) then
        match wantedA ops o T,heldA E st ids o.op T with
        |some true,some av=>ADr P E ops ids Q rest (listed.setIfInBounds i true) (T.put o.dst av) st
        |some false,_=>ADr P E ops ids Q rest (listed.setIfInBounds i true) (T.put o.dst (.tup [])) st
        |_,_=>False
      else Region.ready MD ops listed= [i]∧
        match wantedA ops o T with
        |some false=>ADr P E ops ids Q rest (listed.setIfInBounds i true) (T.put o.dst (.tup [])) st
        |some true=>
          let ph:=phase ops (listed.setIfInBounds i true)
          (ph=true→ids.all (fun id=>(st.get id).isSome)=true)∧
          match evOp E o.op T (if ph then st.hide ids else st) with
          |some (.val av st')=>ADrK ph st ids (fun st'=>ADr P E ops ids Q rest (listed.setIfInBounds i true) (T.put o.dst av) st') st'
          |some (.skip st')=>ADrK ph st ids (fun st'=>ADr P E ops ids Q rest (listed.setIfInBounds i true) (T.put o.dst (.tup [])) st') st'
          |some (.call f args)=>ACalls P f args (fun r st'=>ADrK ph st ids (fun st'=>ADr P E ops ids Q rest (listed.setIfInBounds i true) (T.put o.dst r) st') st') (if ph then st.hide ids else st)
          |_=>False
        |none=>False

/-- the blocks of 'ids' are as they were -/
def Kept(g0:G)(w0:World)(ids:List Nat)(w:World):Prop:=∀id∈ids,w.heap[g0.blk id]? =w0.heap[g0.blk id]?

theorem ADr.ok{P:Program}{E:Env}(hE:EOK' P E){ops:Array Oper}(hsel:Region.noSelect ops=true){ids:List Nat}{Q:Exit→Tm→St→Prop}{Q0:Exit→Act→World→Prop}{g0:G}{st0:St}{w0:World}(hids:∀id∈ids,id<g0.n)(hQ0:∀c a w,¬Q0 (.panic c) a w)
    (hN:∀g T st w a,Step g0 st0 w0 g st w→TR g T a→Q .normal T st→Q0 .normal a w):
    ∀(plan:List Nat) (listed:Array Bool) (T:Tm) (st:St),ADr P E ops ids Q plan listed T st→∀{g:G} {w:World} {a:Act},Step g0 st0 w0 g st w→TR g T a→(phase ops listed=true→Kept g0 w0 ids w)→∀fuel,plan.length=fuel→
      wpAnyG P ops Q0 (fun listed w=>phase ops listed=true→Kept g0 w0 ids w) fuel listed a w:=by
  intro plan
  induction plan with
  |nil=>
    intro listed T st h g w a hs hT hS fuel hf
    subst hf
    exact ⟨h.1,hN _ _ _ _ _ hs hT h.2⟩
  |cons i rest ih=>
    intro listed T st h g w a hs hT hS fuel hf
    subst hf
    simp only [ADr] at h
    split at h
    · exact h.elim
    rename_i o hi
    obtain ⟨hfit,h⟩:=h
    split at h
    · rename_i hc
      obtain ⟨hc,hc2⟩:=hc
      simp only [Bool.and_eq_true,Bool.not_eq_true'] at hc
      obtain ⟨⟨⟨⟨he,hfree⟩,hready⟩,hnw⟩,hself⟩:=hc
      have heff:effAt ops i=false:=by simp [effAt,hi,he]
      have take:∀(v:Value) (av:AV) {Si:World→Prop},VR g av v→(∀listed w,NoWait ops listed i→(phase ops listed=true→Kept g0 w0 ids w)→Si w)→YieldsIf P ops Si o v a→ADr P E ops ids Q rest (listed.setIfInBounds i true) (T.put o.dst av) st→
          wpAnyG P ops Q0 (fun listed w=>phase ops listed=true→Kept g0 w0 ids w) (i::rest).length listed a w:=by
        intro v av Si hv hSi hy hA
        refine wpAnyG_first (Si:=Si) hi (Region.noSelect_spec hsel) (fun c a w hh=>absurd hh (hQ0 _ _ _)) hSi (fun listed w=>by rw [phase_set heff]) (waits_false hself) rest.length listed a w (Region.free_spec hi hfree) (by simpa using hready) (noWait_spec hnw) hy hS ?_
        exact ih _ _ _ hA hs (hT.put hfit hv) (by rw [phase_set heff];exact hS) _ rfl
      split at h
      · rename_i av hw hh
        unfold heldA at hh
        split at hh
        · rename_i av' hp
          cases hh
          obtain ⟨u,hu,hv⟩:=pureA_ok hE.toEOK hp hs.ok hT
          exact take u av (Si:=fun _=>True) hv (fun _ _ _ _=>trivial) (.inl ⟨wantedA_ok hw hT,fun w _=>hu w⟩) h
        · split at hh
          · rename_i t x hop
            split at hh
            · rename_i id off hx
              split at hh
              · rename_i hid
                have hvx:=hT.eval x
                rw [hx] at hvx
                obtain ⟨r,hr,hrun⟩:=loadA_held hE.toEOK hh hs.ok hvx
                have hm:id∈ids:=by simpa using hid
                have hb:g.blk id=g0.blk id:=hs.le.blk id (hids id hm)
                have hkw:Kept g0 w0 ids w:=hS (phase_of hi (by rw [hop];rfl) (noWait_spec hnw))
                refine take r av (Si:=Kept g0 w0 ids) hr (fun listed w hno hk=>hk (phase_of hi (by rw [hop];rfl) hno)) (.inl ⟨wantedA_ok hw hT,fun w' hk=> ?_⟩) h
                have:=hrun w' (by rw [hb,hk id hm,hkw id hm])
                have he2:(execOp a.eval o).run P w'=((do pure (.value (←Instr.loadAt t (a.eval x))):Sem Next)).run P w':=by unfold execOp;simp only [hop]
                rw [he2,run_v this]
              · cases hh
            · cases hh
          · rename_i t m k okb hop
            split at hh
            · rename_i id hx
              split at hh
              · rename_i hid
                have hvx:=hT.eval m
                rw [hx] at hvx
                obtain ⟨r,hr,hrun⟩:=lookupA_held hE.toEOK hh hs.ok hvx (hT.eval k)
                have hm:id∈ids:=by simpa using hid
                have hb:g.blk id=g0.blk id:=hs.le.blk id (hids id hm)
                have hkw:Kept g0 w0 ids w:=hS (phase_of hi (by rw [hop];rfl) (noWait_spec hnw))
                refine take r av (Si:=Kept g0 w0 ids) hr (fun listed w hno hk=>hk (phase_of hi (by rw [hop];rfl) hno)) (.inl ⟨wantedA_ok hw hT,fun w' hk=> ?_⟩) h
                have:=hrun w' (fun id' e=>by cases e;rw [hb,hk id hm,hkw id hm])
                have he2:(execOp a.eval o).run P w'=((do pure (.value (←Instr.lookup t (a.eval m) (a.eval k) okb)):Sem Next)).run P w':=by unfold execOp;simp only [hop]
                rw [he2,run_v this]
              · cases hh
            · rename_i hx
              have hvx:=hT.eval m
              rw [hx] at hvx
              obtain ⟨r,hr,hrun⟩:=lookupA_held hE.toEOK hh hs.ok hvx (hT.eval k)
              refine take r av (Si:=fun _=>True) hr (fun _ _ _ _=>trivial) (.inl ⟨wantedA_ok hw hT,fun w' _=> ?_⟩) h
              have:=hrun w' (fun id' e=>by cases e)
              have he2:(execOp a.eval o).run P w'=((do pure (.value (←Instr.lookup t (a.eval m) (a.eval k) okb)):Sem Next)).run P w':=by unfold execOp;simp only [hop]
              rw [he2,run_v this]
            · cases hh
          · cases hh
      · rename_i hw
        exact take undef (.tup []) (Si:=fun _=>True) (VR.tup0 _) (fun _ _ _ _=>trivial) (.inr ⟨wantedA_ok hw hT,rfl⟩) h
      · exact h.elim
    · obtain ⟨hr,h⟩:=h
      refine ⟨fun h0=>(by rw [h0] at hr;cases hr),?_⟩
      rw [hr]
      intro j hj
      simp only [List.mem_singleton] at hj
      subst hj
      unfold wpOp
      simp only [hi]
      split at h
      · rename_i hw
        rw [if_neg (by rw [wantedA_ok hw hT];simp)]
        have hS':phase ops (listed.setIfInBounds j true)=true→Kept g0 w0 ids w:=fun hp=>hS (phase_anti hp)
        exact ⟨hS',ih _ _ _ h hs (hT.put hfit (VR.tup0 _)) hS' _ rfl⟩
      · rename_i hw
        rw [if_pos (wantedA_ok hw hT)]
        refine .inl ?_
        obtain ⟨hlive,h⟩:=h
        -- the step that is carried out
        have fin:∀{g':G} {st':St} {w':World} {av:AV} {v:Value},Step g (if phase ops (listed.setIfInBounds j true) then st.hide ids else st) w g' st' w'→VR g' av v→
            ADrK (phase ops (listed.setIfInBounds j true)) st ids (fun st'=>ADr P E ops ids Q rest (listed.setIfInBounds j true) (T.put o.dst av) st') st'→
            (phase ops (listed.setIfInBounds j true)=true→Kept g0 w0 ids w')∧wpAnyG P ops Q0 (fun listed w=>phase ops listed=true→Kept g0 w0 ids w) rest.length (listed.setIfInBounds j true) (a.put o.dst v) w':=by
          intro g' st' w' av v hst hv hA
          have hk:phase ops (listed.setIfInBounds j true)=true→Kept g0 w0 ids w':=by
            intro hp
            rw [if_pos hp] at hst
            intro id hm
            have hl:=hlive hp
            rw [List.all_eq_true] at hl
            obtain ⟨ob,hob⟩:=Option.isSome_iff_exists.1 (hl id hm)
            have hb:g.blk id=g0.blk id:=hs.le.blk id (hids id hm)
            rw [←hS (phase_anti hp) id hm,←hb]
            refine hst.frame _ (hs.ok.lt hob).2 fun id' o' h1 he=> ?_
            obtain ⟨h2,h3⟩:=St.hide_wget h1
            have:=hs.ok.inj id' o' id ob (St.wget_get h2).1 hob he
            subst this
            exact h3 hm
          refine ⟨hk,?_⟩
          unfold ADrK at hA
          by_cases hp:phase ops (listed.setIfInBounds j true)=true
          · rw [if_pos hp] at hst hA
            have hst':=Step.hidden hs.ok hst
            exact ih _ _ _ hA (hs.trans hst') ((hT.mono hst'.le).put hfit hv) hk _ rfl
          · rw [if_neg hp] at hst hA
            exact ih _ _ _ hA (hs.trans hst) ((hT.mono hst.le).put hfit hv) hk _ rfl
        have hok1:OK g (if phase ops (listed.setIfInBounds j true) then st.hide ids else st) w:=by
          split
          · exact hs.ok.hide ids
          · exact hs.ok
        unfold Oper.wp
        split at h
        · rename_i av st' he
          obtain ⟨u,w',g',h1,h2,h3⟩:=evOp_ok hE he hok1 hT
          rw [h1]
          exact fin h2 h3 h
        · rename_i st' he
          obtain ⟨w',g',h1,h2⟩:=evOp_ok hE he hok1 hT
          rw [h1]
          exact fin h2 (VR.tup0 _) h
        · rename_i f args he
          obtain ⟨us,h1,h2⟩:=evOp_ok hE he hok1 hT
          rw [h1]
          refine (h g w us hok1 h2).mono fun e w' k=> ?_
          obtain ⟨g',st',r,v,rfl,k1,k2,k3⟩:=k
          exact fin k1 k2 k3
        · exact h.elim
      · exact h.elim

theorem AW.drawn{P:Program}{E:Env}(hE:EOK' P E)(hm:P.follows .mixedOrders=true){id:Nat}{ops:Array Oper}{Q:Exit→Tm→St→Prop}{T:Tm}{st:St}(hsel:Region.noSelect ops=true)(ids plan:List Nat)(hids:ids.all (· <st.next)=true)(hp:plan.length=ops.size)
    (h:ADr P E ops ids Q plan (Array.replicate ops.size false) T st):AW P (.region id ops true) Q T st:=by
  intro g w a hok hT
  have hidle:Step g st w g st {w with drawn:=w.drawn+1}:=step_idle hok rfl rfl rfl rfl
  refine wp_mono (wp_region_any (Q:=fun e a w'=>match e with| .panic _=>False|e=>Post g st w Q e a w') hm ?_) ?_
  · refine wpAny_of_G _ _ _ _ (ADr.ok hE hsel (ids:=ids) (Q:=Q) (g0:=g) (st0:=st) (w0:={w with drawn:=w.drawn+1}) (fun id hid=> ?_) (fun c a w hh=>hh) ?_ plan _ T st h (.refl hidle.ok) hT (fun _ id _=>rfl) _ hp)
    · rw [hok.n]
      simpa using List.all_eq_true.1 hids id hid
    · intro g' T' st' w' a' h1 h2 h3
      exact ⟨g',T',st',hidle.trans h1,h2,h3⟩
  · intro e a' w' hh
    cases e<;>first|exact hh|exact hh.elim

/-! the plan of such a region, made and checked beforehand -/
structure DStep where
  i:Nat
  take:Bool
  single:Bool
  ph:Bool
def mayTake(ops:Array Oper)(listed:Array Bool)(i:Nat):Bool:=
  match ops[i]? with
  |some o=> !effOp o.op&&Region.free MD ops listed i&&(Region.ready MD ops listed).contains i&&noWait ops listed i&& !waits o i
  |none=>false
def planGo(ops:Array Oper):Nat→Array Bool→List DStep
  |0,_=> []
  |f+1,listed=>
    let r:=Region.ready MD ops listed
    match r.find? (mayTake ops listed) with
    |some i=>⟨i,true,r== [i],phase ops (listed.setIfInBounds i true)⟩::planGo ops f (listed.setIfInBounds i true)
    |none=>match r with
      |i::_=>⟨i,false,r== [i],phase ops (listed.setIfInBounds i true)⟩::planGo ops f (listed.setIfInBounds i true)
      | []=> []
def planOK(ops:Array Oper):List DStep→Array Bool→Bool
  | [],listed=>Region.ready MD ops listed== []
  |s::rest,listed=>(s.take==mayTake ops listed s.i)&&(!s.single||Region.ready MD ops listed== [s.i])&&(s.ph==phase ops (listed.setIfInBounds s.i true))&&planOK ops rest (listed.setIfInBounds s.i true)
def planOf(ops:Array Oper):Option (List DStep):=
  let l:=planGo ops ops.size (Array.replicate ops.size false)
  if l.length=ops.size∧planOK ops l (Array.replicate ops.size false)=true∧Region.noSelect ops=true then some l else none

/-! ### the evaluator -/
/-- the objects that such a region loads from before anything else -/
def idsOf(E:Env)(ops:Array Oper):List DStep→Tm→St→List Nat
  | [],_,_=> []
  |s::rest,T,st=>if s.take then (match ops[s.i]? with
      |none=> []
      |some o=>match wantedA ops o T with
        |some true=>match pureA E st o.op T with
          |some av=>idsOf E ops rest (T.put o.dst av) st
          |none=>match o.op with
            | .load t x=>match T.eval x with
              | .ptr id off=>match loadA E st t (.ptr id off) with
                |some av=>id::idsOf E ops rest (T.put o.dst av) st
                |none=> []
              |_=> []
            | .lookup t m k ok=>match lookupA E st t (T.eval m) (T.eval k) ok with
              |some av=>match T.eval m with
                | .mp id=>id::idsOf E ops rest (T.put o.dst av) st
                |_=>idsOf E ops rest (T.put o.dst av) st
              |none=> []
            |_=> []
        |some false=>idsOf E ops rest (T.put o.dst (.tup [])) st
        |none=> []) else []

abbrev Ov:=Nat→List AV→St→Option (AV×St)
mutual
def ev(E:Env)(ov:Ov):Nat→Code→Tm→St→Option (Exit×Tm×St)
  |0,_,_,_=>none
  |k+1,c,T,st=>match c with
    | .skip=>some (.normal,T,st)
    | .label _=>some (.normal,T,st)
    | .exit id=>some (.exit id,T,st)
    | .ret=>some (.ret,T,st)
    | .seq a b=>match ev E ov k a T st with
      |some (.normal,T1,st1)=>ev E ov k b T1 st1
      |r=>r
    | .cond c x y=>match T.eval c with
      | .val (.bool b)=>ev E ov k (if b then x else y) T st
      |_=>none
    | .block id c=>match ev E ov k c T st with
      |some (.exit i,T1,st1)=>if i=id then some (.normal,T1,st1) else some (.exit i,T1,st1)
      |r=>r
    | .scope c=>match ev E ov k c T st with
      |some (.goto _,_,_)=>none
      |r=>r
    | .loop c=>match ev E ov k c T st with
      |some (.normal,T1,st1)=>ev E ov k (.loop c) T1 st1
      |r=>r
    | .region _ ops false=>match evOps E ov k ops ops.toList T st with
      |some (T1,st1)=>some (.normal,T1,st1)
      |none=>none
    | .region _ ops true=>match planOf ops with
      |some l=>match evDr E ov k ops ((idsOf E ops l T st).filter (· <st.next)) l T st with
        |some (T1,st1)=>some (.normal,T1,st1)
        |none=>none
      |none=>none
    |_=>none
def evDr(E:Env)(ov:Ov):Nat→Array Oper→List Nat→List DStep→Tm→St→Option (Tm×St)
  |0,_,_,_,_,_=>none
  |k+1,ops,ids,l,T,st=>match l with
    | []=>some (T,st)
    |s::rest=>match ops[s.i]? with
      |none=>none
      |some o=>if T.fits o.dst then (match wantedA ops o T with
        |some false=>if s.take||s.single then evDr E ov k ops ids rest (T.put o.dst (.tup [])) st else none
        |some true=>match (if s.take then heldA E st ids o.op T else none) with
          |some av=>evDr E ov k ops ids rest (T.put o.dst av) st
          |none=>if s.single&&(!s.ph||ids.all (fun id=>(st.get id).isSome)) then (match evOp E o.op T (if s.ph then st.hide ids else st) with
            |some (.val av st')=>evDr E ov k ops ids rest (T.put o.dst av) (if s.ph then st'.show st ids else st')
            |some (.skip st')=>evDr E ov k ops ids rest (T.put o.dst (.tup [])) (if s.ph then st'.show st ids else st')
            |some (.call f args)=>match evCall E ov k f args (if s.ph then st.hide ids else st) with
              |some (r,st')=>evDr E ov k ops ids rest (T.put o.dst r) (if s.ph then st'.show st ids else st')
              |none=>none
            |_=>none) else none
        |none=>none) else none
def evOps(E:Env)(ov:Ov):Nat→Array Oper→List Oper→Tm→St→Option (Tm×St)
  |0,_,_,_,_=>none
  |k+1,ops,l,T,st=>match l with
    | []=>some (T,st)
    |o::rest=>if T.fits o.dst then (match wantedA ops o T with
      |some true=>match evOp E o.op T st with
        |some (.val av st')=>evOps E ov k ops rest (T.put o.dst av) st'
        |some (.skip st')=>evOps E ov k ops rest (T.put o.dst (.tup [])) st'
        |some (.any [q])=>evOps E ov k ops rest (T.put o.dst q.1) q.2
        |some (.any _)=>none
        |some (.call f args)=>match evCall E ov k f args st with
          |some (r,st')=>evOps E ov k ops rest (T.put o.dst r) st'
          |none=>none
        |none=>none
      |some false=>evOps E ov k ops rest (T.put o.dst (.tup [])) st
      |none=>none) else none
def evCall(E:Env)(ov:Ov):Nat→Nat→List AV→St→Option (AV×St)
  |0,_,_,_=>none
  |k+1,f,args,st=>match ov f args st with
    |some r=>some r
    |none=>match E.fn f with
      |some fn=>match fn.body with
        |some c=>match ev E ov k c (enterT fn args st.gl) st with
          |some (.normal,T1,st1)=>(resA E T1 st1 fn.results.toList).map fun vs=>(oneOrTup vs,st1)
          |some (.ret,T1,st1)=>(resA E T1 st1 fn.results.toList).map fun vs=>(oneOrTup vs,st1)
          |_=>none
        |none=>none
      |none=>none
end

structure EvOK (P:Program) (E:Env) (ov:Ov) (k:Nat):Prop where
  code:∀c T st r,ev E ov k c T st=some r→AW P c (fun e T' st'=>(e,T',st')=r) T st
  ops:∀ops l T st r,evOps E ov k ops l T st=some r→AOps P E ops (fun e T' st'=>e= .normal∧(T',st')=r) l T st
  call:∀f args st r,evCall E ov k f args st=some r→ACalls P f args (fun a st'=>(a,st')=r) st
  dr:∀ops ids l T st r,evDr E ov k ops ids l T st=some r→∀listed,planOK ops l listed=true→ADr P E ops ids (fun e T' st'=>e= .normal∧(T',st')=r) (l.map (·.i)) listed T st

theorem ADr.mono{P:Program}{E:Env}{ops:Array Oper}{ids:List Nat}{Q Q':Exit→Tm→St→Prop}(hq:∀e T st,Q e T st→Q' e T st):∀(l:List Nat) {listed:Array Bool} {T:Tm} {st:St},ADr P E ops ids Q l listed T st→ADr P E ops ids Q' l listed T st
  | [],_,_,_,h=>⟨h.1,hq _ _ _ h.2⟩
  |i::rest,listed,T,st,h=>by
    simp only [ADr] at h⊢
    split at h
    · exact h.elim
    · refine ⟨h.1,?_⟩
      have h:=h.2
      split
      · rename_i hc
        rw [if_pos hc] at h
        split at h
        · exact ADr.mono hq rest h
        · exact ADr.mono hq rest h
        · exact h.elim
      · rename_i hc
        rw [if_neg hc] at h
        refine ⟨h.1,?_⟩
        have h:=h.2
        split at h
        · exact ADr.mono hq rest h
        · refine ⟨h.1,?_⟩
          have h:=h.2
          split at h
          · unfold ADrK at h⊢;split<;>rename_i hp
            · rw [if_pos hp] at h;exact ADr.mono hq rest h
            · rw [if_neg hp] at h;exact ADr.mono hq rest h
          · unfold ADrK at h⊢;split<;>rename_i hp
            · rw [if_pos hp] at h;exact ADr.mono hq rest h
            · rw [if_neg hp] at h;exact ADr.mono hq rest h
          · refine h.mono fun r st' h=> ?_
            unfold ADrK at h⊢;split<;>rename_i hp
            · rw [if_pos hp] at h;exact ADr.mono hq rest h
            · rw [if_neg hp] at h;exact ADr.mono hq rest h
          · exact h
        · exact h

theorem AOps.mono{P:Program}{E:Env}{ops:Array Oper}{Q Q':Exit→Tm→St→Prop}(hq:∀e T st,Q e T st→Q' e T st):∀(l:List Oper) {T:Tm} {st:St},AOps P E ops Q l T st→AOps P E ops Q' l T st
  | [],_,_,h=>hq _ _ _ h
  |o::rest,T,st,h=>by
    simp only [AOps] at h⊢
    split at h
    · split at h
      · exact ⟨h.1,AOps.mono hq rest h.2⟩
      · exact ⟨h.1,AOps.mono hq rest h.2⟩
      · exact ⟨h.1,fun q hm=>AOps.mono hq rest (h.2 q hm)⟩
      · exact ⟨h.1,h.2.mono fun _ _ q=>AOps.mono hq rest q⟩
      · exact h
    · exact ⟨h.1,AOps.mono hq rest h.2⟩
    · exact h

theorem ev_ok{P:Program}{E:Env}(hE:EOK' P E){ov:Ov}(hov:∀f args st r,ov f args st=some r→ACalls P f args (fun a st'=>(a,st')=r) st):∀k,EvOK P E ov k:=by
  intro k
  induction k using Nat.strongRecOn with
  |_ k ih=>
  cases k with
  |zero=>exact ⟨fun c T st r h=>by simp [ev] at h,fun ops l T st r h=>by simp [evOps] at h,fun f args st r h=>by simp [evCall] at h,fun ops ids l T st r h=>by simp [evDr] at h⟩
  |succ k=>
  have ih0:=ih k (Nat.lt_succ_self _)
  refine ⟨fun c T st r h=> ?_,fun ops l T st r h=> ?_,fun f args st r h=> ?_,fun ops ids l T st r h listed hl=> ?_⟩
  · simp only [ev] at h
    split at h
    · cases h;exact .skip rfl
    · cases h;exact .label rfl
    · cases h;exact .exit rfl
    · cases h;exact .ret rfl
    · rename_i a b
      refine .seq ?_
      split at h
      · rename_i T1 st1 h1
        refine (ih0.code _ _ _ _ h1).mono fun e T' st' he=> ?_
        cases he
        exact ih0.code _ _ _ _ h
      · rename_i hne
        refine (ih0.code _ _ _ _ h).mono fun e T' st' he=> ?_
        cases e with
        |normal=>
          exfalso
          subst he
          exact hne T' st' h
        |_=>exact he
    · split at h
      · rename_i b hc
        exact .cond hc (ih0.code _ _ _ _ h)
      · cases h
    · rename_i id c
      refine .block ?_
      split at h
      · rename_i i T1 st1 h1
        refine (ih0.code _ _ _ _ h1).mono fun e T' st' he=> ?_
        cases he
        simp only [blockA]
        split at h
        · rename_i hi;rw [if_pos hi];cases h;rfl
        · rename_i hi;rw [if_neg hi];cases h;rfl
      · rename_i hne
        refine (ih0.code _ _ _ _ h).mono fun e T' st' he=> ?_
        cases e with
        |exit i=>
          exfalso
          subst he
          exact hne i T' st' h
        |_=>exact he
    · rename_i c
      refine .scope ?_
      split at h
      · cases h
      · rename_i hne
        refine (ih0.code _ _ _ _ h).mono fun e T' st' he=> ?_
        refine ⟨fun l hl=> ?_,he⟩
        subst hl
        subst he
        exact hne l T' st' h
    · rename_i c
      refine .loop (fun n T st=>n≤k+1∧ev E ov n (.loop c) T st=some r) (k+1) ⟨Nat.le_refl _,by simp only [ev];exact h⟩ fun n T st hI=> ?_
      obtain ⟨hn,hI⟩:=hI
      cases n with
      |zero=>simp [ev] at hI
      |succ n=>
        have ihn:=ih n (by omega)
        simp only [ev] at hI
        split at hI
        · rename_i T1 st1 h1
          refine (ihn.code _ _ _ _ h1).mono fun e T' st' he=> ?_
          cases he
          exact ⟨n,Nat.lt_succ_self _,by omega,hI⟩
        · rename_i hne
          refine (ihn.code _ _ _ _ hI).mono fun e T' st' he=> ?_
          cases e with
          |normal=>
            exfalso
            subst he
            exact hne T' st' hI
          |_=>exact he
    · rename_i id ops
      split at h
      · rename_i T1 st1 h1
        cases h
        exact .region hE (AOps.mono (fun e T' st' ⟨he,hr⟩=>by subst he;cases hr;rfl) _ (ih0.ops _ _ _ _ _ h1))
      · cases h
    · rename_i id ops
      split at h
      · rename_i l hl
        unfold planOf at hl
        simp only [] at hl
        split at hl
        · rename_i hc
          cases hl
          split at h
          · rename_i T1 st1 h1
            cases h
            refine .drawn hE hE.mixed hc.2.2 _ _ ?_ (by rw [List.length_map];exact hc.1) (ADr.mono (fun e T' st' ⟨he,hr⟩=>by subst he;cases hr;rfl) _ (ih0.dr _ _ _ _ _ _ h1 _ hc.2.1))
            simp [List.all_eq_true]
          · cases h
        · cases hl
      · cases h
    · cases h
  · simp only [evOps] at h
    split at h
    · cases h;exact ⟨rfl,rfl⟩
    · rename_i o rest
      split at h
      · rename_i hfit
        simp only [AOps]
        split at h
        · rename_i hw
          split at h
          · rename_i av st' he
            simp only [he]
            exact ⟨hfit,ih0.ops _ _ _ _ _ h⟩
          · rename_i st' he
            simp only [he]
            exact ⟨hfit,ih0.ops _ _ _ _ _ h⟩
          · rename_i q he
            simp only [he]
            refine ⟨hfit,fun q' hq'=> ?_⟩
            obtain rfl:=List.mem_singleton.1 hq'
            exact ih0.ops _ _ _ _ _ h
          · cases h
          · rename_i f args he
            simp only [he]
            split at h
            · rename_i r' st' hc
              refine ⟨hfit,(ih0.call _ _ _ _ hc).mono fun a st'' ha=> ?_⟩
              cases ha
              exact ih0.ops _ _ _ _ _ h
            · cases h
          · cases h
        · rename_i hw
          exact ⟨hfit,ih0.ops _ _ _ _ _ h⟩
        · cases h
      · cases h
  · simp only [evCall] at h
    split at h
    · rename_i r' ho
      cases h
      exact hov _ _ _ _ ho
    · split at h
      · rename_i fn hfn
        split at h
        · rename_i c hc
          refine .body hE (hE.fn _ _ hfn) hc ?_
          split at h
          · rename_i T1 st1 h1
            obtain ⟨vs,hv,rfl⟩:=Option.map_eq_some_iff.1 h
            refine (ih0.code _ _ _ _ h1).mono fun e T' st' he=> ?_
            cases he
            exact ⟨vs,hv,rfl⟩
          · rename_i T1 st1 h1
            obtain ⟨vs,hv,rfl⟩:=Option.map_eq_some_iff.1 h
            refine (ih0.code _ _ _ _ h1).mono fun e T' st' he=> ?_
            cases he
            exact ⟨vs,hv,rfl⟩
          · cases h
        · cases h
      · cases h
  · simp only [evDr] at h
    split at h
    · cases h
      simp only [planOK,beq_iff_eq] at hl
      exact ⟨hl,rfl,rfl⟩
    · rename_i s rest
      simp only [planOK,Bool.and_eq_true,Bool.or_eq_true,Bool.not_eq_true',beq_iff_eq] at hl
      obtain ⟨⟨⟨hl1,hl2⟩,hl3⟩,hl4⟩:=hl
      split at h
      · cases h
      rename_i o ho
      rcases Bool.eq_false_or_eq_true (T.fits o.dst) with hfit|hfit
      rotate_left
      · rw [hfit] at h;simp at h
      rw [if_pos hfit] at h
      simp only [List.map_cons,ADr,ho]
      refine ⟨hfit,?_⟩
      have mt:mayTake ops listed s.i=(!effOp o.op&&Region.free MD ops listed s.i&&(Region.ready MD ops listed).contains s.i&&noWait ops listed s.i&& !waits o s.i):=by simp only [mayTake,ho]
      have sg:s.single=true→Region.ready MD ops listed= [s.i]:=fun hs=>by
        rcases hl2 with h1|h1
        · rw [hs] at h1;cases h1
        · exact h1
      rw [←mt,←hl1]
      split at h
      · rename_i hw
        split at h
        · rename_i hts
          have hA:=ih0.dr _ _ _ _ _ _ h _ hl4
          simp only [hw]
          split
          · exact hA
          · rename_i hc
            refine ⟨sg ?_,hA⟩
            cases hs:s.single with
            |true=>rfl
            |false=>
              rw [hs,Bool.or_false] at hts
              exact absurd ⟨hts,by first|exact .inl trivial|simp⟩ hc
        · cases h
      · rename_i hw
        split at h
        · rename_i av hh
          split at hh
          · rename_i ht
            have hA:=ih0.dr _ _ _ _ _ _ h _ hl4
            rw [if_pos ⟨ht,.inr ⟨hw,by rw [hh];rfl⟩⟩]
            simp only [hw,hh]
            exact hA
          · cases hh
        · rename_i hh
          split at h
          · rename_i hsg
            simp only [Bool.and_eq_true,Bool.or_eq_true,Bool.not_eq_true'] at hsg
            have hcond:¬(s.take=true∧(wantedA ops o T=some false∨(wantedA ops o T=some true∧(heldA E st ids o.op T).isSome=true))):=by
              rintro ⟨h1,h2⟩
              rw [if_pos h1] at hh
              rw [hw,hh] at h2
              simp at h2
            rw [if_neg hcond]
            refine ⟨sg hsg.1,?_⟩
            rw [←hl3]
            refine ⟨fun hp=> ?_,?_⟩
            · rcases hsg.2 with h1|h1
              · rw [hp] at h1;cases h1
              · exact h1
            · have hK:∀{av:AV} {st':St},evDr E ov k ops ids rest (T.put o.dst av) (if s.ph=true then st'.show st ids else st')=some r→ADrK s.ph st ids (fun st'=>ADr P E ops ids (fun e T' st'=>e= .normal∧(T',st')=r) (rest.map (·.i)) (listed.setIfInBounds s.i true) (T.put o.dst av) st') st':=by
                intro av st' h
                unfold ADrK
                split
                · rename_i hp
                  rw [if_pos hp] at h
                  exact ih0.dr _ _ _ _ _ _ h _ hl4
                · rename_i hp
                  rw [if_neg hp] at h
                  exact ih0.dr _ _ _ _ _ _ h _ hl4
              split at h
              · rename_i av st' he
                exact hK h
              · rename_i st' he
                exact hK h
              · rename_i f args he
                split at h
                · rename_i r' st' hc
                  refine (ih0.call _ _ _ _ hc).mono fun a st'' ha=> ?_
                  cases ha
                  exact hK h
                · cases h
              · cases h
          · cases h
      · cases h

/-! ### the tables of a program -/
def eqLit:Lit→Lit→Bool
  | .bool a,.bool b=>a==b
  | .int k n,.int k' n'=>decide (k=k')&&decide (n=n')
  | .float k n,.float k' n'=>decide (k=k')&&decide (n=n')
  | .string a,.string b=>decide (a=b)
  | .nil,.nil=>true
  |_,_=>false
theorem eqLit_iff(a b:Lit):eqLit a b=true↔a=b:=by
  cases a<;>cases b<;>simp [eqLit]
def eqLits:List Lit→List Lit→Bool
  | [],[]=>true
  |a::r,b::s=>eqLit a b&&eqLits r s
  |_,_=>false
theorem eqLits_iff:∀(a b:List Lit),eqLits a b=true↔a=b
  | [],[]=>by simp [eqLits]
  | [],_::_=>by simp [eqLits]
  |_::_,[]=>by simp [eqLits]
  |a::r,b::s=>by simp [eqLits,eqLit_iff,eqLits_iff r s]
def envOf(P:Program):Env:=
  { ty:=fun t=>match P.underlying t,P.info? t with
      |some d,some f=>some {desc:=d,size:=f.size,bytes:=f.bytes,zero:=f.zero}
      |_,_=>none
    fn:=fun f=>match P.funcs[f]? with
      |some x=>if x.body.isSome=true∧x.name≠ "runtime.NumGoroutine" then some x else none
      |none=>none
    eqv:=fun t us vs=>if P.keyTypeAt 20 t=true∧P.eqGuardType P.depth t=false∧(Value.agg us.toArray).formed P t=true∧(Value.agg vs.toArray).formed P t=true then
      (match P.keyLits 20 t us,P.keyLits 20 t vs with
       |some la,some lb=>some (eqLits la lb)
       |_,_=>none) else none}
theorem envOf_ok{P:Program}(hm:P.follows .mixedOrders=true):EOK' P (envOf P):={
  ty t i h:=by
    simp only [envOf] at h
    split at h
    · rename_i d f hd hf
      cases h
      exact ⟨hd,f,hf,rfl,rfl,rfl⟩
    · cases h
  fn f x h:=by
    simp only [envOf] at h
    split at h
    · rename_i y hy
      split at h
      · cases h;exact hy
      · cases h
    · cases h
  mixed:=hm
  eqv t us vs r h:=by
    simp only [envOf] at h
    split at h
    · rename_i hc
      obtain ⟨h1,h2,h3,h4⟩:=hc
      split at h
      · rename_i la lb ha hb
        simp only [Option.some.injEq] at h
        refine ⟨fun w=> ?_,h2⟩
        obtain ⟨r',k1,k2⟩:=run_equalIn_deep 9980 20 t h1 w 20 20 _ _ la lb h3 h4 ha hb
        rw [show 9980+20=10000 from rfl] at k1
        rw [k1]
        congr 1
        subst h
        exact Bool.eq_iff_iff.2 (k2.trans (eqLits_iff la lb).symm)
      · cases h
    · cases h
  body f x h:=by
    simp only [envOf] at h
    split at h
    · split at h
      · rename_i hc;cases h;exact ⟨hc.2,hc.1⟩
      · cases h
    · cases h}

/-- objects are numbered below 'next' -/
def St.wf(st:St):Prop:=∀id o,st.get id=some o→id<st.next
/-- what is not needed any more may be forgotten -/
theorem ACalls.forget{P:Program}{f:Nat}{args:List AV}{Q Q':AV→St→Prop}{st:St}(h:ACalls P f args Q st)
    (hq:∀r st',Q r st'→st'.gl=st.gl→∃st2:St,Q' r st2∧(∀id o,st2.get id=some o→st'.get id=some o)∧st2.next=st'.next∧st2.lock=st'.lock∧st2.gl=st'.gl):ACalls P f args Q' st:=
  fun g w us hok hv=>(h g w us hok hv).mono fun e w' ⟨g',st',r,v,h1,h2,h3,h4⟩=>by
    obtain ⟨st2,k1,k2,k3,k4,k5⟩:=hq r st' h4 h2.gl
    exact ⟨g',st2,r,v,h1,h2.trans (Step.sub h2.ok k2 k3 k4 k5),h3,k1⟩
end Go.Proofs.YtnknfheabnogaaaGreatDoor.E
