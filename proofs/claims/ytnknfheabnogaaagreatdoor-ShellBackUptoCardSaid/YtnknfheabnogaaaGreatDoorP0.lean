/- Part 0 of the proof, over the abstract machine: contracts of the functions that the statement reaches, joined out of several texts. Condition: none beyond those that the lemmas name. -/
import Derived.Test.YtnknfheabnogaaaGreatDoorEm
import Derived.IntWalk
import Derived.RangeFuncLeaves
import Derived.RangeFuncCalls
import Derived.TacticsIn
import Derived.RangeFuncRecord
import Derived.OrdersIn
import Derived.Deep.LoopGhost
import Derived.Deep.Slices
import Derived.OpenShut
namespace Go.Proofs.YtnknfheabnogaaaGreatDoor.E
open Go Go.Proofs
section
set_option maxRecDepth 4000

/-! ### other names for the objects: what was shown at one store holds at each that holds it -/
mutual
def ren(ρ:Nat→Nat):AV→AV
  | .val v=> .val v
  | .nilp=> .nilp
  | .nilm=> .nilm
  | .nilf=> .nilf
  | .nili=> .nili
  | .ptr id off=> .ptr (ρ id) off
  | .iptr cells=> .iptr (renL ρ cells)
  | .nils=> .nils
  | .sl id sz off len full=> .sl (ρ id) sz off len full
  | .imm sz len full cells=> .imm sz len full (renL ρ cells)
  | .mp id=> .mp (ρ id)
  | .fn f first captured=> .fn f (renL ρ first) (renL ρ captured)
  | .agg cells=> .agg (renL ρ cells)
  | .tup vs=> .tup (renL ρ vs)
  | .ifc t v=> .ifc t (ren ρ v)
  | .undef=> .undef
def renL(ρ:Nat→Nat):List AV→List AV
  | []=> []
  |a::r=>ren ρ a::renL ρ r
end
theorem renL_eq(ρ:Nat→Nat):∀l:List AV,renL ρ l=l.map (ren ρ)
  | []=>by simp [renL]
  |a::r=>by simp [renL,renL_eq ρ r]
@[simp] theorem renL_length (ρ:Nat→Nat) (l:List AV):(renL ρ l).length=l.length:=by rw [renL_eq];simp
theorem renL_getD(ρ:Nat→Nat)(l:List AV)(i:Nat):(renL ρ l).getD i .undef=ren ρ (l.getD i .undef):=by
  rw [renL_eq,List.getD_eq_getElem?_getD,List.getD_eq_getElem?_getD,List.getElem?_map]
  cases l[i]? with
  |none=>simp [ren]
  |some a=>simp
structure GE (g0 g:G) (ρ:Nat→Nat):Prop where
  lt:∀i,i<g0.n↔ρ i<g.n
  blk:∀i,i<g0.n→g.blk (ρ i)=g0.blk i
  base:∀i,i<g0.n→g.base (ρ i)=g0.base i
  siz:∀i,i<g0.n→g.siz (ρ i)=g0.siz i
  M:g.M=g0.M
theorem VR.ren{g0 g:G}{ρ:Nat→Nat}(h:GE g0 g ρ){a:AV}{v:Value}(hv:VR g0 a v):VR g (ren ρ a) v:=by
  induction hv with
  |val v hs=>simp only [E.ren];exact .val v hs
  |nilp=>simp only [E.ren];exact .nilp
  |nilm=>simp only [E.ren];exact .nilm
  |nilf=>simp only [E.ren];exact .nilf
  |nili=>simp only [E.ren];exact .nili
  |ptr id off hi=>simp only [E.ren];rw [←h.blk id hi,←h.base id hi];exact .ptr _ off ((h.lt id).1 hi)
  |iptr cells us A hu _ h1 hA ih=>
    simp only [E.ren]
    exact .iptr _ us A (by simpa using hu) (fun i hi=>by rw [renL_getD];exact ih i (by simpa using hi)) h1 (by rw [h.M];exact hA)
  |nils=>simp only [E.ren];exact .nils
  |sl id sz off len cap full hi hc hl hf hm=>
    simp only [E.ren]
    rw [←h.blk id hi,←h.base id hi]
    exact .sl _ sz off len cap full ((h.lt id).1 hi) (by rw [h.siz id hi];exact hc) hl hf hm
  |imm sz len cap full cells us A hn hu _ h1 hA hl hf hm ih=>
    simp only [E.ren]
    exact .imm sz len cap full _ us A (by simpa using hn) (by simpa using hu) (fun i hi=>by rw [renL_getD];exact ih i (by simpa using hi)) h1 (by rw [h.M];exact hA) hl hf hm
  |mp id hi=>simp only [E.ren];rw [←h.blk id hi];exact .mp _ ((h.lt id).1 hi)
  |fn f cs ds us vs hu _ hv _ ih1 ih2=>
    simp only [E.ren]
    exact .fn f _ _ us vs (by simpa using hu) (fun i hi=>by rw [renL_getD];exact ih1 i (by simpa using hi)) (by simpa using hv) (fun i hi=>by rw [renL_getD];exact ih2 i (by simpa using hi))
  |agg cs us hu _ h1 ih=>simp only [E.ren];exact .agg _ us (by simpa using hu) (fun i hi=>by rw [renL_getD];exact ih i (by simpa using hi)) h1
  |tup cs us hu _ ih=>simp only [E.ren];exact .tup _ us (by simpa using hu) (fun i hi=>by rw [renL_getD];exact ih i (by simpa using hi))
  |ifc t a v _ ih=>simp only [E.ren];exact .ifc t _ v ih
  |undef v=>simp only [E.ren];exact .undef v
theorem VR.unren{g0 g:G}{ρ:Nat→Nat}(h:GE g0 g ρ){b:AV}{v:Value}(hv:VR g b v):∀a,b=E.ren ρ a→VR g0 a v:=by
  induction hv with
  |val v hs=>intro a e;cases a<;>simp only [E.ren] at e<;>cases e;exact .val v hs
  |nilp=>intro a e;cases a<;>simp only [E.ren] at e<;>cases e;exact .nilp
  |nilm=>intro a e;cases a<;>simp only [E.ren] at e<;>cases e;exact .nilm
  |nilf=>intro a e;cases a<;>simp only [E.ren] at e<;>cases e;exact .nilf
  |nili=>intro a e;cases a<;>simp only [E.ren] at e<;>cases e;exact .nili
  |ptr id off hi=>
    intro a e;cases a<;>simp only [E.ren] at e<;>cases e
    rename_i i
    have hi':=(h.lt i).2 hi
    rw [h.blk i hi',h.base i hi']
    exact .ptr i off hi'
  |iptr cells us A hu _ h1 hA ih=>
    intro a e;cases a<;>simp only [E.ren] at e<;>cases e
    exact .iptr _ us A (by simpa using hu) (fun i hi=>ih i (by simpa using hi) _ (renL_getD ..)) h1 (by rw [←h.M];exact hA)
  |nils=>intro a e;cases a<;>simp only [E.ren] at e<;>cases e;exact .nils
  |sl id sz off len cap full hi hc hl hf hm=>
    intro a e;cases a<;>simp only [E.ren] at e<;>cases e
    rename_i i
    have hi':=(h.lt i).2 hi
    rw [h.blk i hi',h.base i hi']
    exact .sl i sz off len cap full hi' (by rw [←h.siz i hi'];exact hc) hl hf hm
  |imm sz len cap full cells us A hn hu _ h1 hA hl hf hm ih=>
    intro a e;cases a<;>simp only [E.ren] at e<;>cases e
    exact .imm sz len cap full _ us A (by simpa using hn) (by simpa using hu) (fun i hi=>ih i (by simpa using hi) _ (renL_getD ..)) h1 (by rw [←h.M];exact hA) hl hf hm
  |mp id hi=>
    intro a e;cases a<;>simp only [E.ren] at e<;>cases e
    rename_i i
    have hi':=(h.lt i).2 hi
    rw [h.blk i hi']
    exact .mp i hi'
  |fn f cs ds us vs hu _ hv _ ih1 ih2=>
    intro a e;cases a<;>simp only [E.ren] at e<;>cases e
    exact .fn f _ _ us vs (by simpa using hu) (fun i hi=>ih1 i (by simpa using hi) _ (renL_getD ..)) (by simpa using hv) (fun i hi=>ih2 i (by simpa using hi) _ (renL_getD ..))
  |agg cs us hu _ h1 ih=>
    intro a e;cases a<;>simp only [E.ren] at e<;>cases e
    exact .agg _ us (by simpa using hu) (fun i hi=>ih i (by simpa using hi) _ (renL_getD ..)) h1
  |tup cs us hu _ ih=>
    intro a e;cases a<;>simp only [E.ren] at e<;>cases e
    exact .tup _ us (by simpa using hu) (fun i hi=>ih i (by simpa using hi) _ (renL_getD ..))
  |ifc t b v _ ih=>
    intro a e;cases a<;>simp only [E.ren] at e<;>cases e
    exact .ifc t _ v (ih _ rfl)
  |undef v=>intro a e;cases a<;>simp only [E.ren] at e<;>cases e;exact .undef v
theorem VRs.ren{g0 g:G}{ρ:Nat→Nat}(h:GE g0 g ρ){cs:List AV}{us:List Value}(hv:VRs g0 cs us):VRs g (renL ρ cs) us:=
  ⟨by simpa using hv.1,fun i hi=>by rw [renL_getD];exact (hv.2 i (by simpa using hi)).ren h⟩
theorem VRs.unren{g0 g:G}{ρ:Nat→Nat}(h:GE g0 g ρ){cs:List AV}{us:List Value}(hv:VRs g (renL ρ cs) us):VRs g0 cs us:=
  ⟨by simpa using hv.1,fun i hi=>(hv.2 i (by simpa using hi)).unren h _ (renL_getD ..)⟩
def AObj.ren(ρ:Nat→Nat):AObj→AObj
  | .row vs ty=> .row (renL ρ vs) ty
  | .map es bs clock=> .map (es.map fun p=>(E.ren ρ p.1,E.ren ρ p.2)) bs clock
  | .iter m since seen c0=> .iter (ρ m) since seen c0
  | .siter s pos=> .siter s pos
theorem renL_fst(ρ:Nat→Nat)(es:List (AV×AV)):(es.map fun p=>(E.ren ρ p.1,E.ren ρ p.2)).map (·.1)=renL ρ (es.map (·.1)):=by
  rw [renL_eq];simp
theorem renL_snd(ρ:Nat→Nat)(es:List (AV×AV)):(es.map fun p=>(E.ren ρ p.1,E.ren ρ p.2)).map (·.2)=renL ρ (es.map (·.2)):=by
  rw [renL_eq];simp
theorem ObjR.ren{g0 g:G}{ρ:Nat→Nat}(h:GE g0 g ρ){w:World}{id:Nat}(hid:id<g0.n){o:AObj}(ho:ObjR g0 w id o):ObjR g w (ρ id) (o.ren ρ):=by
  have e1:=h.blk id hid
  have e2:=h.base id hid
  have e3:=h.siz id hid
  cases o with
  |row vs ty=>
    obtain ⟨cs,fr,us,h1,h2,h3,h4,h5,h6⟩:=ho
    exact ⟨cs,fr,us,by rw [e1];exact h1,by rw [e2,e3];exact h2,h3.ren h,h4,by rw [e2];exact h5,h6⟩
  |map es bs clock=>
    obtain ⟨es',h1,h2,h3,h4,h5,h6⟩:=ho
    exact ⟨es',by rw [e1];exact h1,by rw [renL_fst];exact h2.ren h,by rw [renL_snd];exact h3.ren h,h4,h5,h6⟩
  |iter m since seen c0=>
    obtain ⟨h1,h2,h3⟩:=ho
    exact ⟨by rw [e1,h.blk m h2];exact h1,(h.lt m).1 h2,by rw [e2];exact h3⟩
  |siter s pos=>
    obtain ⟨h1,h2⟩:=ho
    exact ⟨by rw [e1];exact h1,by rw [e2];exact h2⟩
theorem ObjR.unren{g0 g:G}{ρ:Nat→Nat}(h:GE g0 g ρ){w:World}{id:Nat}(hid:id<g0.n){o:AObj}(ho:ObjR g w (ρ id) (o.ren ρ)):ObjR g0 w id o:=by
  have e1:=h.blk id hid
  have e2:=h.base id hid
  have e3:=h.siz id hid
  cases o with
  |row vs ty=>
    obtain ⟨cs,fr,us,h1,h2,h3,h4,h5,h6⟩:=ho
    exact ⟨cs,fr,us,by rw [←e1];exact h1,by rw [←e2,←e3];exact h2,h3.unren h,h4,by rw [←e2];exact h5,h6⟩
  |map es bs clock=>
    obtain ⟨es',h1,h2,h3,h4,h5,h6⟩:=ho
    rw [renL_fst] at h2
    rw [renL_snd] at h3
    exact ⟨es',by rw [←e1];exact h1,h2.unren h,h3.unren h,h4,h5,h6⟩
  |iter m since seen c0=>
    obtain ⟨h1,h2,h3⟩:=ho
    have hm:=(h.lt m).2 h2
    exact ⟨by rw [←e1,←h.blk m hm];exact h1,hm,by rw [←e2];exact h3⟩
  |siter s pos=>
    obtain ⟨h1,h2⟩:=ho
    exact ⟨by rw [←e1];exact h1,by rw [←e2];exact h2⟩

/-- a small store that stands in a great one -/
structure Emb (st0 st:St) (ρ:Nat→Nat):Prop where
  new:∀i,st0.next≤i→ρ i=st.next+(i- st0.next)
  lt:∀i,i<st0.next→ρ i<st.next
  inj:∀i j o o',st0.get i=some o→st0.get j=some o'→ρ i=ρ j→i=j
  get:∀id o,st0.get id=some o→st.get (ρ id)=some (o.ren ρ)
  wf:∀id o,st0.get id=some o→id<st0.next
  lock:∀id o,st0.get id=some o→(id∈st0.lock↔ρ id∈st.lock)
  gl:∀p∈st0.gl,p∈st.gl∧(∀a∈p.2,∃v,a= .val v)∧p.2≠ []
/-- new objects, and those that the small store had -/
def St.had(st0:St)(i:Nat):Bool:=decide (st0.next≤i)||(st0.get i).isSome
def hadL(st0 st0':St):List Nat:=(List.range st0'.next).filter st0.had
theorem mem_hadL{st0 st0':St}{i:Nat}:i∈hadL st0 st0'↔i<st0'.next∧st0.had i=true:=by simp [hadL]
theorem Emb.inj'{st0 st:St}{ρ:Nat→Nat}(h:Emb st0 st ρ){i j:Nat}(hi:st0.had i=true)(hj:st0.had j=true)(e:ρ i=ρ j):i=j:=by
  have key:∀i,st0.had i=true→st0.next≤i∨(i<st0.next∧∃o,st0.get i=some o):=fun i hi=>by
    rcases Nat.lt_or_ge i st0.next with h1|h1
    · right
      simp only [St.had,Bool.or_eq_true,decide_eq_true_eq] at hi
      rcases hi with h2|h2
      · omega
      · exact ⟨h1,Option.isSome_iff_exists.1 h2⟩
    · exact .inl h1
  rcases key i hi with h1|⟨h1,o,ho⟩<;>rcases key j hj with h2|⟨h2,o',ho'⟩
  · have:=h.new i h1;have:=h.new j h2;omega
  · have:=h.new i h1;have:=h.lt j h2;omega
  · have:=h.new j h2;have:=h.lt i h1;omega
  · exact h.inj i j o o' ho ho' e
theorem St.had_of{st0:St}{i:Nat}{o:AObj}(h:st0.get i=some o):st0.had i=true:=by simp [St.had,h]
def mergeSt(st0' st st0:St)(ρ:Nat→Nat):St:=
  { next:=st.next+(st0'.next- st0.next),objs:=(hadL st0 st0').foldl (fun t i=>Tr.put (ρ i+1) t (ρ i) ((st0'.get i).map (AObj.ren ρ))) st.objs,lock:=st.lock,gl:=st.gl}
theorem fold_get(ρ:Nat→Nat)(f:Nat→Option AObj):∀(l:List Nat) (t:Tr AObj) (k:Nat),(∀i∈l,∀j∈l,ρ i=ρ j→i=j)→
    ((∀i∈l,ρ i≠k)→(l.foldl (fun t i=>Tr.put (ρ i+1) t (ρ i) (f i)) t).get k=t.get k)∧(∀i∈l,ρ i=k→(l.foldl (fun t i=>Tr.put (ρ i+1) t (ρ i) (f i)) t).get k=f i)
  | [],t,k,_=>⟨fun _=>rfl,fun i hi=>by cases hi⟩
  |a::l,t,k,hinj=>by
    have ih:=fold_get ρ f l (Tr.put (ρ a+1) t (ρ a) (f a)) k (fun i hi j hj=>hinj i (List.mem_cons_of_mem _ hi) j (List.mem_cons_of_mem _ hj))
    simp only [List.foldl_cons]
    refine ⟨fun h=> ?_,fun i hi e=> ?_⟩
    · rw [ih.1 fun i hi=>h i (List.mem_cons_of_mem _ hi),Tr.get_put _ _ _ _ _ (Nat.lt_succ_self _),if_neg (fun e=>h a (List.mem_cons_self ..) e.symm)]
    · by_cases hl:∃j∈l,ρ j=k
      · obtain ⟨j,hj,ej⟩:=hl
        have:i=j:=hinj i hi j (List.mem_cons_of_mem _ hj) (e.trans ej.symm)
        subst this
        exact ih.2 i hj ej
      · have hne:∀j∈l,ρ j≠k:=fun j hj ej=>hl ⟨j,hj,ej⟩
        rw [ih.1 hne,Tr.get_put _ _ _ _ _ (Nat.lt_succ_self _)]
        rcases List.mem_cons.1 hi with rfl|hi
        · rw [if_pos e.symm]
        · exact absurd e (hne i hi)
theorem merge_in{st0 st st0':St}{ρ:Nat→Nat}(h:Emb st0 st ρ){i:Nat}(hi:i<st0'.next)(hh:st0.had i=true):(mergeSt st0' st st0 ρ).get (ρ i)=(st0'.get i).map (AObj.ren ρ):=
  (fold_get ρ _ _ st.objs (ρ i) (fun _ hi _ hj e=>h.inj' (mem_hadL.1 hi).2 (mem_hadL.1 hj).2 e)).2 i (mem_hadL.2 ⟨hi,hh⟩) rfl
theorem merge_out{st0 st st0':St}{ρ:Nat→Nat}(h:Emb st0 st ρ){k:Nat}(hk:∀i,i<st0'.next→st0.had i=true→ρ i≠k):(mergeSt st0' st st0 ρ).get k=st.get k:=
  (fold_get ρ _ _ st.objs k (fun _ hi _ hj e=>h.inj' (mem_hadL.1 hi).2 (mem_hadL.1 hj).2 e)).1 fun i hi=>hk i (mem_hadL.1 hi).1 (mem_hadL.1 hi).2
theorem merge_cases{st0 st st0':St}{ρ:Nat→Nat}(h:Emb st0 st ρ){k:Nat}{o:AObj}(hk:(mergeSt st0' st st0 ρ).get k=some o):
    (∃i o0,i<st0'.next∧ρ i=k∧st0'.get i=some o0∧o=o0.ren ρ)∨(st.get k=some o∧∀i,i<st0'.next→st0.had i=true→ρ i≠k):=by
  by_cases hx:∃i,i<st0'.next∧st0.had i=true∧ρ i=k
  · obtain ⟨i,hi,hh,rfl⟩:=hx
    rw [merge_in h hi hh] at hk
    obtain ⟨o0,h1,h2⟩:=Option.map_eq_some_iff.1 hk
    exact .inl ⟨i,o0,hi,rfl,h1,h2.symm⟩
  · have hne:∀i,i<st0'.next→st0.had i=true→ρ i≠k:=fun i hi hh e=>hx ⟨i,hi,hh,e⟩
    rw [merge_out h hne] at hk
    exact .inr ⟨hk,hne⟩
/-- the small store's ghost -/
def subG(g:G)(n0:Nat)(ρ:Nat→Nat):G:={n:=n0,blk:=fun i=>g.blk (ρ i),base:=fun i=>g.base (ρ i),siz:=fun i=>g.siz (ρ i),M:=g.M}
theorem subG_ge{g:G}{st0 st:St}{ρ:Nat→Nat}(h:Emb st0 st ρ)(hn:g.n=st.next):GE (subG g st0.next ρ) g ρ:={
  lt i:=by
    simp only [subG,hn]
    constructor
    · exact h.lt i
    · intro hi
      rcases Nat.lt_or_ge i st0.next with h1|h1
      · exact h1
      · have:=h.new i h1;omega
  blk _ _:=rfl
  base _ _:=rfl
  siz _ _:=rfl
  M:=rfl}
theorem renL_vals(ρ:Nat→Nat):∀(l:List AV),(∀a∈l,∃v,a= .val v)→renL ρ l=l
  | [],_=>by simp [renL]
  |a::r,h=>by
    obtain ⟨v,rfl⟩:=h a (List.mem_cons_self ..)
    simp only [renL,E.ren]
    rw [renL_vals ρ r fun b hb=>h b (List.mem_cons_of_mem _ hb)]
theorem glob_sub{g0 g:G}{ρ:Nat→Nat}(h:GE g0 g ρ){p:Nat×List AV}(hp:∀a∈p.2,∃v,a= .val v){v:Value}(hv:VR g (.iptr p.2) v):VR g0 (.iptr p.2) v:=by
  refine hv.unren h _ ?_
  simp only [E.ren]
  rw [renL_vals ρ _ hp]
theorem OK.small{g:G}{st0 st:St}{ρ:Nat→Nat}{w:World}(h:OK g st w)(hE:Emb st0 st ρ):OK (subG g st0.next ρ) st0 w:=by
  have hge:=subG_ge hE h.n
  refine ⟨h.imm,fun id o ho=>⟨hE.wf id o ho,?_⟩,fun id o id' o' h1 h2 e=>hE.inj' (St.had_of h1) (St.had_of h2) (h.inj _ _ _ _ (hE.get _ _ h1) (hE.get _ _ h2) e),fun id o ho=>h.sep _ _ (hE.get id o ho),rfl,fun p hp=>⟨glob_sub hge (hE.gl p hp).2.1 (h.glob p (hE.gl p hp).1).1,(h.glob p (hE.gl p hp).1).2.1,fun e=>absurd e (hE.gl p hp).2.2⟩⟩
  exact ObjR.unren hge (hE.wf id o ho) (h.obj _ _ (hE.get id o ho)).2
/-- the great store's ghost behind it -/
def supG(g g0':G)(n0:Nat):G:=
  { n:=g.n+(g0'.n- n0),blk:=fun k=>if k<g.n then g.blk k else g0'.blk (n0+(k- g.n)),base:=fun k=>if k<g.n then g.base k else g0'.base (n0+(k- g.n)),siz:=fun k=>if k<g.n then g.siz k else g0'.siz (n0+(k- g.n)),M:=g0'.M}
theorem supG_ge{g g0':G}{st0 st:St}{ρ:Nat→Nat}(h:Emb st0 st ρ)(hn:g.n=st.next)(hle:(subG g st0.next ρ).le g0'):GE g0' (supG g g0' st0.next) ρ:=by
  have hn0:st0.next≤g0'.n:=hle.n
  have key:∀i,i<g0'.n→(i<st0.next∧ρ i<g.n)∨(st0.next≤i∧¬ρ i<g.n∧st0.next+(ρ i- g.n)=i):=fun i hi=>by
    rcases Nat.lt_or_ge i st0.next with h1|h1
    · exact .inl ⟨h1,by rw [hn];exact h.lt i h1⟩
    · have:=h.new i h1
      exact .inr ⟨h1,by omega,by omega⟩
  refine ⟨fun i=> ?_,fun i hi=> ?_,fun i hi=> ?_,fun i hi=> ?_,rfl⟩
  · simp only [supG]
    constructor
    · intro hi
      rcases key i hi with ⟨h1,h2⟩|⟨h1,h2,h3⟩<;>omega
    · intro hi
      rcases Nat.lt_or_ge i st0.next with h1|h1
      · omega
      · have:=h.new i h1;omega
  · simp only [supG]
    rcases key i hi with ⟨h1,h2⟩|⟨h1,h2,h3⟩
    · rw [if_pos h2];exact (hle.blk i h1).symm
    · rw [if_neg h2,h3]
  · simp only [supG]
    rcases key i hi with ⟨h1,h2⟩|⟨h1,h2,h3⟩
    · rw [if_pos h2];exact (hle.base i h1).symm
    · rw [if_neg h2,h3]
  · simp only [supG]
    rcases key i hi with ⟨h1,h2⟩|⟨h1,h2,h3⟩
    · rw [if_pos h2];exact (hle.siz i h1).symm
    · rw [if_neg h2,h3]
theorem supG_le{g g0':G}{n0:Nat}{ρ:Nat→Nat}(hle:(subG g n0 ρ).le g0'):g.le (supG g g0' n0):=
  ⟨Nat.le_add_right _ _,fun id hi=>by simp only [supG];rw [if_pos hi],fun id hi=>by simp only [supG];rw [if_pos hi],fun id hi=>by simp only [supG];rw [if_pos hi],fun b=>hle.M b⟩
/-- A step of the small store is one of the great one. -/
theorem Step.great{g:G}{st0 st:St}{ρ:Nat→Nat}{w:World}(h:OK g st w)(hE:Emb st0 st ρ){g0':G}{st0':St}{w':World}(k:Step (subG g st0.next ρ) st0 w g0' st0' w'):
    Step g st w (supG g g0' st0.next) (mergeSt st0' st st0 ρ) w':=by
  have hge:=supG_ge hE h.n k.le
  have hle:=supG_le k.le
  have hn':g0'.n=st0'.next:=k.ok.n
  have hn0:st0.next≤st0'.next:=by rw [←hn'];exact k.le.n
  have wg:∀id o,st0.wget id=some o→st.wget (ρ id)=some (o.ren ρ):=fun id o ho=>by
    obtain ⟨h1,h2⟩:=St.wget_get ho
    exact St.wget_of (hE.get id o h1) fun hl=>h2 ((hE.lock id o h1).2 hl)
  have apart:∀{k':Nat} {o:AObj},st.get k'=some o→(∀i,i<st0'.next→st0.had i=true→ρ i≠k')→∀id o',st0.wget id=some o'→(subG g st0.next ρ).blk id≠g.blk k':=fun {k' o} hk hne id o' ho e=>by
    have h1:=(St.wget_get ho).1
    have:=h.inj _ _ _ _ (hE.get id o' h1) hk e
    exact hne id (Nat.lt_of_lt_of_le (hE.wf id o' h1) hn0) (by simp [St.had,h1]) this
  have blkOut:∀{k':Nat} {o:AObj},st.get k'=some o→(supG g g0' st0.next).blk k'=g.blk k':=fun {k' o} hk=>hle.blk k' (h.lt hk).1
  have blkIn:∀{i:Nat},i<st0'.next→(supG g g0' st0.next).blk (ρ i)=g0'.blk i:=fun {i} hi=>hge.blk i (by rw [hn'];exact hi)
  have mixed:∀{i k':Nat} {o o0:AObj},st0'.get i=some o0→st.get k'=some o→(∀i,i<st0'.next→st0.had i=true→ρ i≠k')→g0'.blk i≠g.blk k':=fun {i k' o o0} h1 h2 hne e=>by
    obtain ⟨id0,o1,q1,q2,_⟩:=k.from_ i o0 h1 (by rw [e];exact (h.lt h2).2)
    have:=h.inj _ _ _ _ (hE.get id0 o1 q1) h2 (q2.trans e)
    exact hne id0 (Nat.lt_of_lt_of_le (hE.wf id0 o1 q1) hn0) (by simp [St.had,q1]) this
  refine ⟨hle,⟨k.ok.imm,fun id o ho=> ?_,fun id o id' o' h1 h2 e=> ?_,fun id o ho=> ?_,?_,fun p hp=>(h.glob p hp).mono hle⟩,k.os,k.tape,k.output,k.size,fun b hb hn=> ?_,fun id o ho hlt=> ?_,fun b hb hn=> ?_,rfl,rfl⟩
  · rcases merge_cases hE ho with ⟨i,o0,hi,rfl,h1,rfl⟩|⟨h1,hne⟩
    · refine ⟨?_,ObjR.ren hge (by rw [hn'];exact hi) (k.ok.obj i o0 h1).2⟩
      have:=(hge.lt i).1 (by rw [hn'];exact hi)
      simp only [supG,hn',h.n] at this
      exact this
    · obtain ⟨h2,h3⟩:=h.obj id o h1
      refine ⟨Nat.lt_of_lt_of_le h2 (Nat.le_add_right _ _),h3.keep hle (h.lt h1).1 (k.frame _ (h.lt h1).2 (apart h1 hne))⟩
  · rcases merge_cases hE h1 with ⟨i,o0,hi,rfl,q1,rfl⟩|⟨q1,hne⟩<;>rcases merge_cases hE h2 with ⟨j,o2,hj,rfl,q2,rfl⟩|⟨q2,hne2⟩
    · rw [blkIn hi,blkIn hj] at e
      rw [k.ok.inj _ _ _ _ q1 q2 e]
    · rw [blkIn hi,blkOut q2] at e
      exact absurd e (mixed q1 q2 hne2)
    · rw [blkOut q1,blkIn hj] at e
      exact absurd e.symm (mixed q2 q1 hne)
    · rw [blkOut q1,blkOut q2] at e
      exact h.inj _ _ _ _ q1 q2 e
  · rcases merge_cases hE ho with ⟨i,o0,hi,rfl,h1,rfl⟩|⟨h1,hne⟩
    · rw [blkIn hi];exact k.ok.sep i o0 h1
    · rw [blkOut h1]
      have:=k.froz _ (h.lt h1).2 (apart h1 hne)
      exact this.trans (h.sep id o h1)
  · simp only [supG,mergeSt,h.n,hn']
  · exact k.frame b hb fun id o ho=>hn _ _ (wg id o ho)
  · rcases merge_cases hE ho with ⟨i,o0,hi,rfl,h1,rfl⟩|⟨h1,hne⟩
    · rw [blkIn hi] at hlt⊢
      obtain ⟨id0,o1,q1,q2,q3⟩:=k.from_ i o0 h1 hlt
      refine ⟨ρ id0,o1.ren ρ,hE.get id0 o1 q1,q2,fun hl=> ?_⟩
      obtain ⟨rfl,rfl⟩:=q3 ((hE.lock id0 o1 q1).2 hl)
      exact ⟨rfl,rfl⟩
    · exact ⟨id,o,h1,(blkOut h1).symm,fun _=>⟨rfl,rfl⟩⟩
  · exact k.froz b hb fun id o ho=>hn _ _ (wg id o ho)
section
variable {P:Program}
theorem ACalls.frame{f:Nat}{args0:List AV}{Q0:AV→St→Prop}{st0 st:St}{ρ:Nat→Nat}(h:ACalls P f args0 Q0 st0)(hE:Emb st0 st ρ):
    ACalls P f (renL ρ args0) (fun r st'=>∃r0 st0',Q0 r0 st0'∧r=ren ρ r0∧st'=mergeSt st0' st st0 ρ∧st0.next≤st0'.next∧st0'.wf) st:=by
  intro g w us hok hv
  have hge:=subG_ge hE hok.n
  refine (h _ w us (hok.small hE) (hv.unren hge)).mono fun e w' k=> ?_
  obtain ⟨g0',st0',r,v,h1,k1,k2,k3⟩:=k
  have hst:=k1.great hok hE
  have hge':=supG_ge hE hok.n k1.le
  refine ⟨_,_,ren ρ r,v,h1,hst,k2.ren hge',r,st0',k3,rfl,rfl,?_,fun id o ho=>(k1.ok.obj id o ho).1⟩
  rw [←k1.ok.n];exact k1.le.n
end
end
section
set_option maxRecDepth 4000
/-! ### regions that only compute and read, in whatever order -/
def readA(E:Env)(st:St)(op:Op)(T:Tm):Option AV:=
  match pureA E st op T with
  |some av=>some av
  |none=>match op with
    | .load t x=>match T.eval x with
      | .ptr id off=>loadA E st t (.ptr id off)
      |_=>none
    | .convert s d x=>bytesStrA E st s d (T.eval x)
    |_=>none
theorem bytesStrA_str{E:Env}{st:St}{s d:Nat}{x av:AV}(h:bytesStrA E st s d x=some av):∃b,av= .val (.string b):=by
  unfold bytesStrA at h
  split at h
  · split at h
    · split at h
      · split at h
        · split at h
          · split at h
            · cases h;exact ⟨_,rfl⟩
            · cases h
          · cases h
        · cases h
      · cases h
    · cases h
  · cases h
theorem OK.heap{g:G}{st:St}{w w':World}(h:OK g st w)(e:w'.heap=w.heap):OK g st w':=
  ⟨fun b hb=>by rw [e];exact h.imm b hb,fun id o ho=>⟨(h.obj id o ho).1,(h.obj id o ho).2.keep (.refl g) (h.lt ho).1 (by rw [e])⟩,h.inj,h.sep,h.n,h.glob⟩
theorem readA_ok{P:Program}{E:Env}(hE:EOK' P E){st:St}{T:Tm}{o:Oper}{av:AV}(h:readA E st o.op T=some av){g:G}{w:World}(hok:OK g st w){a:Act}(hT:TR g T a):
    ∃r,VR g av r∧∀w':World,w'.heap=w.heap→(execOp a.eval o).run P w'= .ok (.value r) w':=by
  unfold readA at h
  split at h
  · rename_i av' hp
    cases h
    obtain ⟨u,hu,hv⟩:=pureA_ok hE.toEOK hp hok hT
    exact ⟨u,hv,fun w' _=>hu w'⟩
  · split at h
    · rename_i t x hop
      split at h
      · rename_i id off hx
        have hvx:=hT.eval x
        rw [hx] at hvx
        obtain ⟨r,hr,hrun⟩:=loadA_held hE.toEOK h hok hvx
        refine ⟨r,hr,fun w' he=> ?_⟩
        have:=hrun w' (by rw [he])
        have he2:(execOp a.eval o).run P w'=((do pure (.value (←Instr.loadAt t (a.eval x))):Sem Next)).run P w':=by unfold execOp;simp only [hop]
        rw [he2,run_v this]
      · cases h
    · rename_i s d x hop
      obtain ⟨b,rfl⟩:=bytesStrA_str h
      refine ⟨.string b,.val _ rfl,fun w' he=> ?_⟩
      obtain ⟨r,hr,hv⟩:=bytesStrA_ok hE.toEOK h (hok.heap he) (hT.eval x)
      have e:=hv.val_inv
      subst e
      have he2:(execOp a.eval o).run P w'=((do pure (.value (←convert s d (a.eval x))):Sem Next)).run P w':=by unfold execOp;simp only [hop]
      rw [he2,run_v hr]
    · cases h
def ADp(E:Env)(ops:Array Oper)(Q:Exit→Tm→St→Prop):List Nat→Array Bool→Tm→St→Prop
  | [],listed,T,st=>Region.ready MD ops listed= []∧Q .normal T st
  |i::rest,listed,T,st=>match ops[i]? with
    |none=>False
    |some o=>T.fits o.dst=true∧mayTake ops listed i=true∧
      match wantedA ops o T with
      |some false=>ADp E ops Q rest (listed.setIfInBounds i true) (T.put o.dst (.tup [])) st
      |some true=>match readA E st o.op T with
        |some av=>ADp E ops Q rest (listed.setIfInBounds i true) (T.put o.dst av) st
        |none=>False
      |none=>False
theorem ADp.ok{P:Program}{E:Env}(hE:EOK' P E){ops:Array Oper}(hsel:Region.noSelect ops=true){Q:Exit→Tm→St→Prop}{Q0:Exit→Act→World→Prop}{g:G}{st:St}{w0:World}(hQ0:∀c a w,¬Q0 (.panic c) a w)
    (hok:OK g st w0) (hN:∀T a,TR g T a→Q .normal T st→Q0 .normal a w0):
    ∀(plan:List Nat) (listed:Array Bool) (T:Tm),ADp E ops Q plan listed T st→∀{a:Act},TR g T a→∀fuel,plan.length=fuel→
      wpAnyG P ops Q0 (fun _ w=>w=w0) fuel listed a w0:=by
  intro plan
  induction plan with
  |nil=>
    intro listed T h a hT fuel hf
    subst hf
    exact ⟨h.1,hN _ _ hT h.2⟩
  |cons i rest ih=>
    intro listed T h a hT fuel hf
    subst hf
    simp only [ADp] at h
    split at h
    · exact h.elim
    rename_i o hi
    obtain ⟨hfit,hc,h⟩:=h
    simp only [mayTake,hi,Bool.and_eq_true,Bool.not_eq_true'] at hc
    obtain ⟨⟨⟨⟨he,hfree⟩,hready⟩,hnw⟩,hself⟩:=hc
    have take:∀(v:Value) (av:AV),VR g av v→YieldsIf P ops (fun w=>w=w0) o v a→ADp E ops Q rest (listed.setIfInBounds i true) (T.put o.dst av) st→
        wpAnyG P ops Q0 (fun _ w=>w=w0) (i::rest).length listed a w0:=by
      intro v av hv hy hA
      refine wpAnyG_first (Si:=fun w=>w=w0) hi (Region.noSelect_spec hsel) (fun c a w hh=>absurd hh (hQ0 _ _ _)) (fun _ _ _ h=>h) (fun _ _=>Iff.rfl) (waits_false hself) rest.length listed a w0 (Region.free_spec hi hfree) (by simpa using hready) (noWait_spec hnw) hy rfl ?_
      exact ih _ _ hA (hT.put hfit hv) _ rfl
    split at h
    · rename_i hw
      exact take undef (.tup []) (VR.tup0 _) (.inr ⟨wantedA_ok hw hT,rfl⟩) h
    · rename_i hw
      split at h
      · rename_i av hr
        obtain ⟨r,hv,hrun⟩:=readA_ok hE hr hok hT
        exact take r av hv (.inl ⟨wantedA_ok hw hT,fun w' hk=>by subst hk;exact hrun _ rfl⟩) h
      · exact h.elim
    · exact h.elim
theorem AW.drawnP{P:Program}{E:Env}(hE:EOK' P E)(hm:P.follows .mixedOrders=true){id:Nat}{ops:Array Oper}{Q:Exit→Tm→St→Prop}{T:Tm}{st:St}(hsel:Region.noSelect ops=true)(plan:List Nat)(hp:plan.length=ops.size)
    (h:ADp E ops Q plan (Array.replicate ops.size false) T st):AW P (.region id ops true) Q T st:=by
  intro g w a hok hT
  have hidle:Step g st w g st {w with drawn:=w.drawn+1}:=step_idle hok rfl rfl rfl rfl
  refine wp_mono (wp_region_any (Q:=fun e a w'=>match e with| .panic _=>False|e=>Post g st w Q e a w') hm ?_) ?_
  · refine wpAny_of_G _ _ _ _ (ADp.ok hE hsel (Q:=Q) (g:=g) (st:=st) (w0:={w with drawn:=w.drawn+1}) (fun c a w hh=>hh) hidle.ok ?_ plan _ T h hT _ hp)
    intro T' a' h2 h3
    exact ⟨g,T',st,hidle,h2,h3⟩
  · intro e a' w' hh
    cases e<;>first|exact hh|exact hh.elim
end
section
set_option maxRecDepth 4000

/-! ### the evaluator with given values: at chosen places a value is replaced by one that is given; that both are the same is left to be shown -/
abbrev Ob:=List Prop
/-- what is given: a value, or an operation's whole outcome -/
inductive Or where
  |av (a:AV)
  |eff (a:AV) (f:St→St)
instance:Coe AV Or:=⟨.av⟩
def Ob.ok(o:Ob):Prop:=∀p∈o,p
theorem Ob.ok_nil:Ob.ok []:=fun p h=>by cases h
theorem Ob.ok_append{a b:Ob}:Ob.ok (a++b)↔a.ok∧b.ok:=by
  unfold Ob.ok
  constructor
  · exact fun h=>⟨fun p hp=>h p (List.mem_append_left _ hp),fun p hp=>h p (List.mem_append_right _ hp)⟩
  · rintro ⟨h1,h2⟩ p hp
    rcases List.mem_append.1 hp with h|h
    · exact h1 p h
    · exact h2 p h
theorem Ob.ok_cons{p:Prop}{b:Ob}:Ob.ok (p::b)↔p∧b.ok:=by
  constructor
  · exact fun h=>⟨h p (List.mem_cons_self ..),fun q hq=>h q (List.mem_cons_of_mem _ hq)⟩
  · rintro ⟨h1,h2⟩ q hq
    rcases List.mem_cons.1 hq with rfl|h
    · exact h1
    · exact h2 q h
def tagA(ss:List Nat)(d:Option Nat)(av:AV)(x:List Or):AV×List Or×Ob:=
  match ss with
  | []=>(av,x,[])
  |_=>match d with
    |none=>(av,x,[])
    |some d=>if ss.contains d then (match x with
      | .av a::r=>(a,r,[av=a])
      |_=>(av,x,[])) else (av,x,[])
theorem tagA_ok{ss:List Nat}{d:Option Nat}{av:AV}{x:List Or}(h:(tagA ss d av x).2.2.ok):av=(tagA ss d av x).1:=by
  unfold tagA at h⊢
  split
  · rfl
  · split
    · rfl
    · split
      · rename_i hc
        simp only [hc,if_true] at h
        split
        · exact h _ (List.mem_singleton.2 rfl)
        · rfl
      · rfl
/-- a slice that has its whole row -/
def exP(vs:List AV)(off len sz:Nat):Prop:=off=0∧vs.length=len*sz
theorem exP_cells{vs:List AV}{off len sz:Nat}(h:exP vs off len sz):(vs.drop off).take (len*sz)=vs∧off+len*sz=vs.length∧vs.drop off=vs:=by
  obtain ⟨rfl,h⟩:=h
  exact ⟨by rw [List.drop_zero,←h,List.take_length],by omega,List.drop_zero⟩
/-- a slice's cells, what is asked left to be shown -/
def sliceG(st:St)(x:AV):Option (Nat×List AV×Prop):=
  match x with
  | .nils=>some (0,[],True)
  | .sl id sz off len _=>match st.get id with
    |some (.row vs _)=>some (len,vs,exP vs off len sz)
    |_=>none
  | .imm _ len _ cells=>some (len,cells,True)
  |_=>none
theorem sliceG_ok{st:St}{x:AV}{n:Nat}{c:List AV}{p:Prop}(h:sliceG st x=some (n,c,p))(hp:p):sliceCells st x=some (n,c):=by
  unfold sliceG at h
  split at h
  · cases h;rfl
  · rename_i id sz off len full
    split at h
    · rename_i vs ty hg
      cases h
      obtain ⟨h1,h2,h3⟩:=exP_cells hp
      simp only [sliceCells,hg]
      rw [if_pos (Nat.le_of_eq h2),h1]
    · cases h
  · cases h;rfl
  · cases h
def srcG(E:Env)(st:St)(tx:Nat)(x:AV):Option (Nat×List AV×Prop):=
  match E.ty tx with
  |some i=>match i.desc with
    | .slice _=>sliceG st x
    |_=>none
  |none=>none
theorem srcG_ok{E:Env}{st:St}{tx:Nat}{x:AV}{n:Nat}{c:List AV}{p:Prop}(h:srcG E st tx x=some (n,c,p))(hp:p):srcA E st tx x=some (n,c):=by
  unfold srcG at h
  split at h
  · rename_i i hi
    split at h
    · rename_i e hd
      simp only [srcA,hi,hd]
      exact sliceG_ok h hp
    · cases h
  · cases h
/-- an append of n elements behind len others -/
def growP(n len size bytes:Nat)(c:List AV)(str:Bool):Prop:=(c.length=n*size∧(str=true→size=1))∧n≠0∧((len+n)*bytes≤140737488355328∧len+n≤140737488355328)
def zeroP(n size:Nat)(c:List AV)(str:Bool):Prop:=(c.length=n*size∧(str=true→size=1))∧n=0
def appendG(E:Env)(st:St)(t tx:Nat)(s x:AV)(grow:Bool):Option (AV×St×Prop):=
  match elemA E t,srcG E st tx x with
  |some q,some (n,c,p)=>
    if grow then (match s with
      | .nils=>some (.sl st.next q.2.1.size 0 n false,st.push (.row c q.1),p∧growP n 0 q.2.1.size q.2.1.bytes c (isStrTy E tx))
      | .sl id sz off len full=>match st.get id with
        |some (.row vs ty)=>if sz=q.2.1.size∧ty=q.1 then (if full then some (.sl st.next sz 0 (len+n) false,st.push (.row (vs++c) ty),p∧growP n len q.2.1.size q.2.1.bytes c (isStrTy E tx)∧exP vs off len sz)
          else if st.lock= [] then some (.sl st.next sz 0 (len+n) false,(st.del id).push (.row (vs++c) ty),p∧growP n len q.2.1.size q.2.1.bytes c (isStrTy E tx)∧exP vs off len sz) else none) else none
        |_=>none
      |_=>none)
    else (match s with
      | .nils=>some (.nils,st,p∧zeroP n q.2.1.size c (isStrTy E tx))
      | .sl id sz off len full=>if sz=q.2.1.size then some (.sl id sz off len full,st,p∧zeroP n q.2.1.size c (isStrTy E tx)) else none
      |_=>none)
  |_,_=>none
theorem appendG_ok{E:Env}{st:St}{t tx:Nat}{s x:AV}{grow:Bool}{av:AV}{st':St}{p:Prop}(h:appendG E st t tx s x grow=some (av,st',p))(hp:p):appendA E st t tx s x=some (av,st'):=by
  unfold appendG at h
  split at h
  · rename_i q n c p0 hq hs
    split at h
    · split at h
      · cases h
        obtain ⟨h1,h2,h3,h4⟩:=hp
        simp only [appendA,hq,srcG_ok hs h1]
        rw [if_pos h2,if_neg h3,if_pos ⟨by simpa using h4.1,by simpa using h4.2⟩]
      · rename_i id sz off len full
        split at h
        · rename_i vs ty hg
          split at h
          · rename_i hsz
            split at h
            · rename_i hf
              cases h
              obtain ⟨h1,⟨h2,h3,h5⟩,h6⟩:=hp
              obtain ⟨k1,k2,k3⟩:=exP_cells h6
              simp only [appendA,hq,srcG_ok hs h1]
              rw [if_pos h2,if_neg (fun h=>h hsz.1),if_neg h3,if_pos h5]
              simp only [hg]
              rw [if_pos ⟨hsz.2,Nat.le_of_eq k2⟩,if_pos hf,k1]
            · rename_i hf
              split at h
              · rename_i hlk
                cases h
                obtain ⟨h1,⟨h2,h3,h5⟩,h6⟩:=hp
                obtain ⟨k1,k2,k3⟩:=exP_cells h6
                simp only [appendA,hq,srcG_ok hs h1]
                rw [if_pos h2,if_neg (fun h=>h hsz.1),if_neg h3,if_pos h5]
                simp only [hg]
                rw [if_pos ⟨hsz.2,Nat.le_of_eq k2⟩,if_neg hf,if_pos ⟨k2,by rw [hlk];simp⟩,k3]
              · cases h
          · cases h
        · cases h
      · cases h
    · split at h
      · cases h
        obtain ⟨h1,h2,h3⟩:=hp
        simp only [appendA,hq,srcG_ok hs h1]
        rw [if_pos h2,if_pos h3]
      · split at h
        · rename_i hsz
          cases h
          obtain ⟨h1,h2,h3⟩:=hp
          simp only [appendA,hq,srcG_ok hs h1]
          rw [if_pos h2,if_neg (fun h=>h hsz),if_pos h3]
        · cases h
      · cases h
  · cases h
def intOf:AV→Int| .val (.int .u8 n)=>n|_=>0
def convG(E:Env)(st:St)(s d:Nat)(x:AV):Option (AV×Prop):=
  match E.ty s,E.ty d,sliceG st x with
  |some i,some j,some (n,c,p)=>match i.desc,j.desc with
    | .slice e,.string=>match E.ty e with
      |some k=>match k.desc with
        | .int .u8=>some (.val (.string (strOfNums (c.map intOf))),p∧numsA c=some (c.map intOf)∧(c.map intOf).length=n)
        |_=>none
      |none=>none
    |_,_=>none
  |_,_,_=>none
theorem convG_ok{E:Env}{st:St}{s d:Nat}{x:AV}{av:AV}{p:Prop}(h:convG E st s d x=some (av,p))(hp:p):bytesStrA E st s d x=some av:=by
  unfold convG at h
  split at h
  · rename_i i j n c p0 hi hj hs
    split at h
    · rename_i e h1 h2
      split at h
      · rename_i k hk
        split at h
        · rename_i h3
          cases h
          obtain ⟨q1,q2,q3⟩:=hp
          simp only [bytesStrA,hi,hj,sliceG_ok hs q1,h1,h2,hk,h3,q2]
          rw [if_pos q3]
        · cases h
      · cases h
    · cases h
  · cases h
/-- an operation's outcome that is given as a whole: what it asks -/
def convO(E:Env)(st:St)(s d:Nat)(v:AV):Option (AV×St):=
  match (match E.ty s,E.ty d,v with
    |some _,some i,.val (.int _ n)=>match i.desc with
      | .int k=>some (.val (.int k (k.wrap n)))
      |_=>none
    |some _,some i,.val (.string b)=>match i.desc with
      | .string=>some (.val (.string b))
      |_=>none
    |_,_,_=>none:Option AV) with
  |some a=>some (a,st)
  |none=>convA E st s d v
def effA(E:Env)(op:Op)(T:Tm)(st:St)(a:AV)(st':St):Option Prop:=
  match op with
  | .convert s d y=>some (convO E st s d (T.eval y)=some (a,st'))
  | .lookup t m k ok=>some (lookupA E st t (T.eval m) (T.eval k) ok=some a∧st'=st)
  | .load t y=>some (loadA E st t (T.eval y)=some a∧st'=st)
  | .makeSlice t l c=>some (makeSliceA E st t (T.eval l) (T.eval c)=some (a,st'))
  | .alloc t=>some (allocA E st t=some (a,st'))
  | .box t y=>some (boxA st t (T.eval y)=some (a,st'))
  | .buildSlice t n parts=>some (buildSliceA E st t n (parts.toList.map fun p=>(p.1,T.eval p.2))=some (a,st'))
  | .slice t y lo hi mx=>some (sliceA E st t (T.eval y) (lo.map T.eval) (hi.map T.eval) (mx.map T.eval)=some a∧st'=st)
  | .index t y i=>some (indexA E t (T.eval y) (T.eval i)=some a∧st'=st)
  | .indexAddr t y i=>some (indexAddrA E t (T.eval y) (T.eval i)=some a∧st'=st)
  | .binOp b t y z _=>some (binA E b t (T.eval y) (T.eval z)=some a∧st'=st)
  | .range t y=>some (rangeA E st t (T.eval y)=none∧rangeStrA E st t (T.eval y)=some (a,st'))
  | .next y true=>some (nextStrA st (T.eval y)=some (a,st'))
  | .call ⟨.builtin b,args,ts⟩=>match b,args.toList,ts.toList with
    | .append,[s,y],[t,tx]=>some (appendA E st t tx (T.eval s) (T.eval y)=some (a,st'))
    | .copy,[s,y],[t,tx]=>some (copyA E st t tx (T.eval s) (T.eval y)=some (a,st'))
    | .delete,[m,k],[t,_]=>some (mapDeleteA E st t (T.eval m) (T.eval k)=some st'∧a= .tup [])
    | .len,[m],[t]=>some (lenA E t (T.eval m)=none∧mapLenA E st t (T.eval m)=some a∧st'=st)
    |_,_,_=>none
  |_=>none
theorem effA_ok{E:Env}{op:Op}{T:Tm}{st:St}{a:AV}{st':St}{p:Prop}(h:effA E op T st a st'=some p)(hp:p):evOp E op T st=some (.val a st'):=by
  unfold effA at h
  split at h
  · rename_i s d y
    cases h
    have e:evOp E (.convert s d y) T st=match pureA E st (.convert s d y) T with
      |some av=>some (.val av st)
      |none=>(convA E st s d (T.eval y)).map fun r=> .val r.1 r.2:=rfl
    have e2:convO E st s d (T.eval y)=match pureA E st (.convert s d y) T with
      |some av=>some (av,st)
      |none=>convA E st s d (T.eval y):=rfl
    rw [e2] at hp
    rw [e]
    split at hp
    · cases hp;rfl
    · rw [hp];rfl
  · cases h
    obtain ⟨h1,rfl⟩:=hp
    unfold evOp
    simp only [pureA,h1,Option.map_some]
  · cases h
    obtain ⟨h1,rfl⟩:=hp
    unfold evOp
    simp only [pureA,h1,Option.map_some]
  · cases h
    unfold evOp
    simp only [pureA,hp,Option.map_some]
  · cases h
    unfold evOp
    simp only [pureA,hp,Option.map_some]
  · cases h
    unfold evOp
    simp only [pureA,hp,Option.map_some]
  · cases h
    unfold evOp
    simp only [pureA,hp,Option.map_some]
  · cases h
    obtain ⟨h1,rfl⟩:=hp
    unfold evOp
    simp only [pureA,h1]
  · cases h
    obtain ⟨h1,rfl⟩:=hp
    unfold evOp
    simp only [pureA,h1]
  · cases h
    obtain ⟨h1,rfl⟩:=hp
    unfold evOp
    simp only [pureA,h1]
  · cases h
    obtain ⟨h1,rfl⟩:=hp
    unfold evOp
    simp only [pureA,h1]
  · cases h
    obtain ⟨h0,h1⟩:=hp
    unfold evOp
    simp only [pureA,h0,h1,Option.map_some]
  · cases h
    unfold evOp
    simp only [pureA,hp,Option.map_some]
  · rename_i b args ts
    split at h
    · rename_i s y t tx ha ht
      cases h
      unfold evOp
      simp only [pureA,ha,ht,builtinA,List.map_cons,List.map_nil,hp,Option.map_some]
    · rename_i s y t tx ha ht
      cases h
      unfold evOp
      simp only [pureA,ha,ht,builtinA,List.map_cons,List.map_nil,hp,Option.map_some]
    · rename_i m k t t2 ha ht
      cases h
      obtain ⟨h1,rfl⟩:=hp
      unfold evOp
      simp only [pureA,ha,ht,builtinA,List.map_cons,List.map_nil,h1,Option.map_some]
    · rename_i m t ha ht
      cases h
      obtain ⟨h0,h1,rfl⟩:=hp
      unfold evOp
      simp only [pureA,ha,ht,h0,builtinA,List.map_cons,List.map_nil,h1,Option.map_some]
    · cases h
  · cases h
/-- as the obligations say it -/
def pureS(E:Env)(st:St)(op:Op)(T:Tm):Option AV:=match op with
  | .binOp b t x y _=>binA E b t (T.eval x) (T.eval y)
  |_=>pureA E st op T
theorem pureS_pure{E:Env}{st:St}{op:Op}{T:Tm}{a:AV}(h:pureS E st op T=some a):pureA E st op T=some a:=by
  unfold pureS at h
  split at h
  · simp only [pureA,h]
  · exact h
/-- what only computes, its outcome given -/
def pureG(E:Env)(ss:List Nat)(o:Oper)(T:Tm)(st:St)(x:List Or):Option (AV×List Or×Prop):=
  match o.dst,x with
  |some d,.eff a _::r=>if ss.contains (2000+d) then (match o.op with
      | .slice t y lo hi mx=>some (a,r,sliceA E st t (T.eval y) (lo.map T.eval) (hi.map T.eval) (mx.map T.eval)=some a)
      | .index t y i=>some (a,r,indexA E t (T.eval y) (T.eval i)=some a)
      | .indexAddr t y i=>some (a,r,indexAddrA E t (T.eval y) (T.eval i)=some a)
      | .binOp b t y z _=>some (a,r,binA E b t (T.eval y) (T.eval z)=some a)
      |_=>none) else if ss.contains (7000+d) then some (a,r,pureS E st o.op T=some a) else none
  |_,_=>none
theorem pureG_ok{E:Env}{ss:List Nat}{o:Oper}{T:Tm}{st:St}{x:List Or}{a:AV}{r:List Or}{p:Prop}(h:pureG E ss o T st x=some (a,r,p))(hp:p):pureA E st o.op T=some a:=by
  unfold pureG at h
  split at h
  · split at h
    · split at h
      · rename_i ho;cases h;rw [ho];first|exact hp|simp only [pureA,show binA _ _ _ _ _=some a from hp]
      · rename_i ho;cases h;rw [ho];first|exact hp|simp only [pureA,show binA _ _ _ _ _=some a from hp]
      · rename_i ho;cases h;rw [ho];first|exact hp|simp only [pureA,show binA _ _ _ _ _=some a from hp]
      · rename_i ho;cases h;rw [ho];first|exact hp|simp only [pureA,show binA _ _ _ _ _=some a from hp]
      · cases h
    · split at h
      · cases h;exact pureS_pure hp
      · cases h
  · cases h
/-- places 2000 + d: an operation whose outcome is given -/
def giveA(E:Env)(ss:List Nat)(op:Op)(d:Option Nat)(T:Tm)(st:St)(x:List Or):Option (AV×St×List Or×Prop):=
  match ss with
  | []=>none
  |_=>match d with
    |none=>if ss.contains 5000 then (match op,x with
      | .call ⟨.builtin b,args,ts⟩,.eff a f::r=>(effA E (.call ⟨.builtin b,args,ts⟩) T st a (f st)).map fun p=>(a,f st,r,p)
      |_,_=>none) else none
    |some d=>if ss.contains (2000+d) then (match op,x with
      | .slice t y none (some hi) (some mx),.av (.sl n _ _ _ _)::r=>match E.ty t,T.eval y,T.eval hi,T.eval mx with
        |some i,.sl id sz off len _,.val (.int _ a),.val (.int _ b)=>match i.desc with
          | .slice e=>if tySize E e=some sz then some (.sl id sz off n true,st,r,a=(n:Int)∧b=(n:Int)∧0<n∧n≤len) else none
          |_=>none
        |_,_,_,_=>none
      | .indexAddr t y ix,_=>match E.ty t,T.eval y,T.eval ix with
        |some i,.imm sz len _ cells,.val (.int _ a)=>match i.desc with
          | .slice e=>if tySize E e=some sz∧sz≠0 then some (.iptr (cells.drop (a.toNat*sz)),st,x,0≤a∧a<(len:Int)) else none
          |_=>none
        |some i,.sl id sz off len _,.val (.int _ a)=>match i.desc with
          | .slice e=>if tySize E e=some sz then some (.ptr id (off+a.toNat*sz),st,x,0≤a∧a<(len:Int)) else none
          |_=>none
        |_,_,_=>none
      | .load t y,.av b::r=>match T.eval y with
        | .iptr cs=>some (b,st,r,partA E t cs 0=some b)
        | .ptr id off=>match st.get id with
          |some (.row vs _)=>some (b,st,r,partA E t vs off=some b)
          |_=>none
        |_=>none
      | .convert s d y,.eff a f::r=>(effA E (.convert s d y) T st a (f st)).map fun p=>(a,f st,r,p)
      | .convert s d y,_=>match T.eval y with
        | .val _=>none
        |y=>match convG E st s d y with
          |some (av,p)=>some (av,st,x,p)
          |none=>none
      | .call ⟨.builtin .append,args,ts⟩,.av (.val (.bool grow))::r=>match args.toList,ts.toList with
        | [s,y],[t,tx]=>match appendG E st t tx (T.eval s) (T.eval y) grow with
          |some (av,st',p)=>some (av,st',r,p)
          |none=>none
        |_,_=>none
      |op,.eff a f::r=>(effA E op T st a (f st)).map fun p=>(a,f st,r,p)
      |_,_=>none) else if ss.contains (7000+d) then (match x with
      | .av a::r=>some (a,st,r,pureS E st op T=some a)
      |_=>none) else none
theorem giveA_ok{E:Env}{ss:List Nat}{op:Op}{d:Option Nat}{T:Tm}{st:St}{x:List Or}{av:AV}{st':St}{x':List Or}{p:Prop}(h:giveA E ss op d T st x=some (av,st',x',p))(hp:p):evOp E op T st=some (.val av st'):=by
  unfold giveA at h
  split at h
  · cases h
  split at h
  · split at h
    · split at h
      · obtain ⟨q,hq,he⟩:=Option.map_eq_some_iff.1 h
        simp only [Prod.mk.injEq] at he
        obtain ⟨rfl,rfl,rfl,rfl⟩:=he
        exact effA_ok hq hp
      · cases h
    · cases h
  split at h
  · split at h
    · rename_i t y hi mx n _ _ _ _ r
      split at h
      · rename_i i id sz off len full k a k' b h1 h2 h3 h4
        split at h
        · rename_i e hd
          split at h
          · rename_i hs
            simp only [Option.some.injEq,Prod.mk.injEq] at h
            obtain ⟨rfl,rfl,rfl,rfl⟩:=h
            obtain ⟨rfl,rfl,h5,h6⟩:=hp
            have e1:natLe (.val (.int k' n)) len=some n:=by
              show (if 0≤(n:Int)∧(n:Int)≤len then some (n:Int).toNat else none)=some n
              rw [if_pos ⟨by omega,by omega⟩];rfl
            have e2:natLe (.val (.int k n)) n=some n:=by
              show (if 0≤(n:Int)∧(n:Int)≤n then some (n:Int).toNat else none)=some n
              rw [if_pos ⟨by omega,by omega⟩];rfl
            have hb:boundsA len len none (some (.val (.int k n))) (some (.val (.int k' n)))=some (0,n,n):=by
              delta boundsA
              simp only [e1,e2]
            have:sliceA E st t (.sl id sz off len full) none (some (.val (.int k n))) (some (.val (.int k' n)))=some (.sl id sz off n true):=by
              simp only [sliceA,h1,hd,hs,if_true,hb]
              rw [if_neg (by omega)]
              simp [fullOf]
            unfold evOp
            simp only [pureA,Option.map_none,Option.map_some,h2,h3,h4,this]
          · cases h
        · cases h
      · cases h
    · rename_i _ t y ix
      split at h
      · rename_i i sz len full cells k a h1 h2 h3
        split at h
        · rename_i e hd
          split at h
          · rename_i hs
            simp only [Option.some.injEq,Prod.mk.injEq] at h
            obtain ⟨rfl,rfl,rfl,rfl⟩:=h
            have:indexAddrA E t (.imm sz len full cells) (.val (.int k a))=some (.iptr (cells.drop (a.toNat*sz))):=by
              simp only [indexAddrA,h1,hd]
              rw [if_pos ⟨hs.1,hp.1,hp.2,hs.2⟩]
            unfold evOp
            simp only [pureA,h2,h3,this]
          · cases h
        · cases h
      · rename_i i id sz off len full k a h1 h2 h3
        split at h
        · rename_i e hd
          split at h
          · rename_i hs
            simp only [Option.some.injEq,Prod.mk.injEq] at h
            obtain ⟨rfl,rfl,rfl,rfl⟩:=h
            have:indexAddrA E t (.sl id sz off len full) (.val (.int k a))=some (.ptr id (off+a.toNat*sz)):=by
              simp only [indexAddrA,h1,hd]
              rw [if_pos ⟨hs,hp.1,hp.2⟩]
            unfold evOp
            simp only [pureA,h2,h3,this]
          · cases h
        · cases h
      · cases h
    · rename_i t y b r
      split at h
      · rename_i cs h1
        simp only [Option.some.injEq,Prod.mk.injEq] at h
        obtain ⟨rfl,rfl,rfl,rfl⟩:=h
        unfold evOp
        simp only [pureA,h1,loadA,hp,Option.map_some]
      · rename_i id off h1
        split at h
        · rename_i vs ty hg
          simp only [Option.some.injEq,Prod.mk.injEq] at h
          obtain ⟨rfl,rfl,rfl,rfl⟩:=h
          unfold evOp
          simp only [pureA,h1,loadA,hg,hp,Option.map_some]
        · cases h
      · cases h
    · obtain ⟨q,hq,he⟩:=Option.map_eq_some_iff.1 h
      simp only [Prod.mk.injEq] at he
      obtain ⟨rfl,rfl,rfl,rfl⟩:=he
      exact effA_ok hq hp
    · rename_i s d y _
      split at h
      · cases h
      · rename_i hnv
        split at h
        · rename_i av' p' hc
          simp only [Option.some.injEq,Prod.mk.injEq] at h
          obtain ⟨rfl,rfl,rfl,rfl⟩:=h
          have hb:=convG_ok hc hp
          have hpu:pureA E st (.convert s d y) T=none:=by
            simp only [pureA]
            split
            · rename_i h3;exact absurd h3 (hnv _)
            · rename_i h3;exact absurd h3 (hnv _)
            · rfl
          unfold evOp
          simp only [hpu,convA,hb,Option.map_some]
        · cases h
    · rename_i args ts grow r
      split at h
      · rename_i s y t tx ha ht
        split at h
        · rename_i av' st2 p' hc
          simp only [Option.some.injEq,Prod.mk.injEq] at h
          obtain ⟨rfl,rfl,rfl,rfl⟩:=h
          have hb:=appendG_ok hc hp
          unfold evOp
          simp only [pureA,ha,ht,builtinA,List.map_cons,List.map_nil,hb,Option.map_some]
        · cases h
      · cases h
    · rename_i a f r _ _ _ _
      obtain ⟨q,hq,he⟩:=Option.map_eq_some_iff.1 h
      simp only [Prod.mk.injEq] at he
      obtain ⟨rfl,rfl,rfl,rfl⟩:=he
      exact effA_ok hq hp
    · cases h
  · split at h
    · split at h
      · simp only [Option.some.injEq,Prod.mk.injEq] at h
        obtain ⟨rfl,rfl,rfl,rfl⟩:=h
        unfold evOp
        rw [pureS_pure hp]
      · cases h
    · cases h
/-- place 5000: stores whose outcome is given -/
def skipG(E:Env)(ss:List Nat)(op:Op)(T:Tm)(st:St)(x:List Or):Option (St×List Or×Prop):=
  match ss with
  | []=>none
  |_=>if ss.contains 5000 then (match op,x with
    | .store t y v,.eff _ f::r=>some (f st,r,storeA E st t (T.eval y) (T.eval v)=some (f st))
    | .mapUpdate t m k v,.eff _ f::r=>some (f st,r,mapUpdateA E st t (T.eval m) (T.eval k) (T.eval v)=some (f st))
    |_,_=>none) else none
theorem skipG_ok{E:Env}{ss:List Nat}{op:Op}{T:Tm}{st:St}{x:List Or}{st':St}{x':List Or}{p:Prop}(h:skipG E ss op T st x=some (st',x',p))(hp:p):evOp E op T st=some (.skip st'):=by
  unfold skipG at h
  split at h
  · cases h
  split at h
  · split at h
    · cases h
      unfold evOp
      simp only [pureA,hp,Option.map_some]
    · cases h
      unfold evOp
      simp only [pureA,hp,Option.map_some]
    · cases h
  · cases h
/-- places 6000 + f: calls of f whose outcome is given -/
def callG(ss:List Nat)(fn:Nat)(x:List Or):Option (AV×(St→St)×List Or):=
  match ss with
  | []=>none
  |_=>match x with
    | .eff a f::r=>if ss.contains (6000+fn) then some (a,f,r) else none
    |_=>none
/-- places 1000 + d: a condition whose answer is given -/
def condA(ss:List Nat)(c:Operand)(x:List Or):Option (Bool×List Or):=
  match ss with
  | []=>none
  |_=>match c with
    | .tmp d=>if ss.contains (1000+d) then (match x with
      | .av (.val (.bool b))::r=>some (b,r)
      |_=>none) else none
    |_=>none
/-- the objects that such a region loads from before anything else, the given values being put in -/
def idsOfS(E:Env)(ss:List Nat)(ops:Array Oper):List DStep→Tm→St→List Or→List Nat
  | [],_,_,_=> []
  |s::rest,T,st,x=>if s.take then (match ops[s.i]? with
      |none=> []
      |some o=>match wantedA ops o T with
        |some true=>match pureA E st o.op T with
          |some av=>idsOfS E ss ops rest (T.put o.dst (tagA ss o.dst av x).1) st (tagA ss o.dst av x).2.1
          |none=>match o.op with
            | .load t y=>match T.eval y with
              | .ptr id off=>match loadA E st t (.ptr id off) with
                |some av=>id::idsOfS E ss ops rest (T.put o.dst (tagA ss o.dst av x).1) st (tagA ss o.dst av x).2.1
                |none=> []
              |_=> []
            | .lookup t m k ok=>match lookupA E st t (T.eval m) (T.eval k) ok with
              |some av=>match T.eval m with
                | .mp id=>id::idsOfS E ss ops rest (T.put o.dst (tagA ss o.dst av x).1) st (tagA ss o.dst av x).2.1
                |_=>idsOfS E ss ops rest (T.put o.dst (tagA ss o.dst av x).1) st (tagA ss o.dst av x).2.1
              |none=> []
            |_=> []
        |some false=>idsOfS E ss ops rest (T.put o.dst (.tup [])) st x
        |none=> []) else []
/-- place 8000: regions whose order the tape picks, with given loads and outcomes -/
def idsG(E:Env)(ss:List Nat)(ops:Array Oper):List DStep→Tm→St→List Or→List Nat
  | [],_,_,_=> []
  |s::rest,T,st,x=>if s.take then (match ops[s.i]? with
      |none=> []
      |some o=>match wantedA ops o T with
        |some true=>match pureG E ss o T st x with
         |some (a,r,_)=>idsG E ss ops rest (T.put o.dst a) st r
         |none=>match pureA E st o.op T with
          |some av=>idsG E ss ops rest (T.put o.dst av) st x
          |none=>match o.op,x with
            | .load _ y,.eff a _::r=>match T.eval y with
              | .ptr id _=>id::idsG E ss ops rest (T.put o.dst a) st r
              |_=> []
            | .lookup _ m _ _,.eff a _::r=>match T.eval m with
              | .mp id=>id::idsG E ss ops rest (T.put o.dst a) st r
              |_=> []
            |_,_=> []
        |some false=>idsG E ss ops rest (T.put o.dst (.tup [])) st x
        |none=> []) else []
def heldG(E:Env)(ss:List Nat)(st:St)(ids:List Nat)(o:Oper)(T:Tm)(x:List Or):Option (AV×List Or×Prop):=
  match ss with
  | []=>none
  |_=>if ss.contains 8000 then (match pureG E ss o T st x with
   |some q=>some q
   |none=>match o.op,x with
    | .load t y,.eff a _::r=>match T.eval y with
      | .ptr id off=>some (a,r,ids.contains id=true∧loadA E st t (.ptr id off)=some a)
      |_=>none
    | .lookup t m k ok,.eff a _::r=>match T.eval m with
      | .mp id=>some (a,r,ids.contains id=true∧lookupA E st t (.mp id) (T.eval k) ok=some a)
      |_=>none
    |_,_=>none) else none
theorem heldG_ok{E:Env}{ss:List Nat}{st:St}{ids:List Nat}{o:Oper}{T:Tm}{x:List Or}{a:AV}{r:List Or}{p:Prop}(h:heldG E ss st ids o T x=some (a,r,p))(hp:p):heldA E st ids o.op T=some a:=by
  unfold heldG at h
  split at h
  · cases h
  split at h
  · split at h
    · rename_i hq
      cases h
      unfold heldA
      rw [pureG_ok hq hp]
    split at h
    · rename_i ho _
      split at h
      · rename_i hy
        cases h
        unfold heldA
        simp only [ho,pureA,hy,hp.1,if_true,hp.2]
      · cases h
    · rename_i ho _
      split at h
      · rename_i hy
        cases h
        unfold heldA
        simp only [ho,pureA,hy,hp.1,if_true,hp.2]
      · cases h
    · cases h
  · cases h
def drG(P:Program)(E:Env)(ss:List Nat)(op:Op)(T:Tm)(st:St)(x:List Or):Option (AV×St×List Or×Prop):=
  match ss with
  | []=>none
  |_=>if ss.contains 8000 then (match x with
    | .eff a f::r=>match op with
      | .store t y v=>some (.tup [],f st,r,storeA E st t (T.eval y) (T.eval v)=some (f st))
      | .mapUpdate t m k v=>some (.tup [],f st,r,mapUpdateA E st t (T.eval m) (T.eval k) (T.eval v)=some (f st))
      |op=>match effA E op T st a (f st) with
        |some p=>some (a,f st,r,p)
        |none=>match evOp E op T st with
          |some (.call k args)=>if ss.contains (6000+k) then some (a,f st,r,ACalls P k args (fun q s=>q=a∧s=f st) st) else none
          |_=>none
    |_=>none) else none
theorem drG_ok{P:Program}{E:Env}{ss:List Nat}{op:Op}{T:Tm}{st:St}{x:List Or}{a:AV}{st':St}{r:List Or}{p:Prop}(h:drG P E ss op T st x=some (a,st',r,p))(hp:p):
    evOp E op T st=some (.val a st')∨(evOp E op T st=some (.skip st')∧a= .tup [])∨∃f args,evOp E op T st=some (.call f args)∧ACalls P f args (fun q s=>q=a∧s=st') st:=by
  unfold drG at h
  split at h
  · cases h
  split at h
  · split at h
    · split at h
      · cases h
        refine .inr (.inl ⟨?_,rfl⟩)
        unfold evOp
        simp only [pureA,hp,Option.map_some]
      · cases h
        refine .inr (.inl ⟨?_,rfl⟩)
        unfold evOp
        simp only [pureA,hp,Option.map_some]
      · split at h
        · rename_i he
          cases h
          exact .inl (effA_ok he hp)
        · split at h
          · rename_i he
            split at h
            · cases h
              exact .inr (.inr ⟨_,_,he,hp⟩)
            · cases h
          · cases h
    · cases h
  · cases h
/-- place 9000 + d: a load that may be taken, of an object that is not held, is done alone -/
def sgl(ss:List Nat)(o:Oper):Bool:=match ss with
  | []=>false
  |_=>match o.dst with
    |some d=>ss.contains (9000+d)
    |none=>false
def heldN(ids:List Nat)(op:Op)(T:Tm):Option Prop:=match op with
  | .load _ x=>match T.eval x with
    | .ptr id _=>some (ids.contains id=false)
    |_=>none
  |_=>none
theorem heldN_ok{E:Env}{st:St}{ids:List Nat}{op:Op}{T:Tm}{p:Prop}(h:heldN ids op T=some p)(hp:p):heldA E st ids op T=none:=by
  unfold heldN at h
  split at h
  · split at h
    · rename_i hy
      cases h
      unfold heldA
      simp only [pureA,hy,hp,Bool.false_eq_true,if_false]
    · cases h
  · cases h
def snG(P:Program)(E:Env)(ss:List Nat)(ids:List Nat)(o:Oper)(T:Tm)(st:St)(x:List Or):Option (AV×St×List Or×Prop):=
  match sgl ss o with
  |false=>none
  |true=>match heldN ids o.op T with
    |some q=>match drG P E ss o.op T st x with
      |some (a,st',r,p)=>some (a,st',r,q∧p)
      |none=>none
    |none=>none
theorem snG_ok{P:Program}{E:Env}{ss:List Nat}{ids:List Nat}{o:Oper}{T:Tm}{st:St}{x:List Or}{a:AV}{st':St}{r:List Or}{p:Prop}(h:snG P E ss ids o T st x=some (a,st',r,p))(hp:p):
    (∀st2,heldA E st2 ids o.op T=none)∧∃p',drG P E ss o.op T st x=some (a,st',r,p')∧p':=by
  unfold snG at h
  split at h
  · cases h
  · split at h
    · rename_i hq
      split at h
      · rename_i hd
        cases h
        exact ⟨fun st2=>heldN_ok hq hp.1,_,hd,hp.2⟩
      · cases h
    · cases h
/-- place 8500 + region: a region that only computes and reads -/
def readG(E:Env)(ss:List Nat)(st:St)(o:Oper)(T:Tm)(x:List Or):Option (AV×List Or×Prop):=
  match o.dst,x with
  |some d,.eff a _::r=>match ss.contains (2000+d) with
    |true=>match o.op with
      | .load t y=>match T.eval y with
        | .ptr id off=>some (a,r,loadA E st t (.ptr id off)=some a)
        |_=>none
      | .convert s d y=>some (a,r,bytesStrA E st s d (T.eval y)=some a)
      |_=>none
    |false=>none
  |_,_=>none
theorem bytesStr_pure{E:Env}{st:St}{s d:Nat}{y:Operand}{T:Tm}{a:AV}(h:bytesStrA E st s d (T.eval y)=some a):pureA E st (.convert s d y) T=none:=by
  have hv:∀v,T.eval y= .val v→False:=fun v hv=>by
    rw [hv] at h
    unfold bytesStrA at h
    split at h
    · rename_i hr
      simp [sliceCells] at hr
    · cases h
  simp only [pureA]
  split
  · rename_i hx;exact (hv _ hx).elim
  · rename_i hx;exact (hv _ hx).elim
  · rfl
theorem readG_ok{E:Env}{ss:List Nat}{st:St}{o:Oper}{T:Tm}{x:List Or}{a:AV}{r:List Or}{p:Prop}(h:readG E ss st o T x=some (a,r,p))(hp:p):readA E st o.op T=some a:=by
  unfold readG at h
  split at h
  · split at h
    · split at h
      · rename_i hop
        split at h
        · rename_i hx
          cases h
          unfold readA
          simp only [hop,pureA,hx,hp]
        · cases h
      · rename_i hop
        cases h
        unfold readA
        rw [hop]
        simp only [bytesStr_pure hp,hp]
      · cases h
    · cases h
  · cases h
def evPrS(E:Env)(ss:List Nat)(ops:Array Oper):List DStep→Tm→St→List Or→Option (Tm×List Or×Ob)
  | [],T,_,x=>some (T,x,[])
  |s::rest,T,st,x=>match ops[s.i]? with
    |none=>none
    |some o=>if T.fits o.dst then (if s.take then (match wantedA ops o T with
      |some false=>evPrS E ss ops rest (T.put o.dst (.tup [])) st x
      |some true=>match pureG E ss o T st x with
        |some (a,r,p)=>match evPrS E ss ops rest (T.put o.dst a) st r with
          |some (T2,x2,o2)=>some (T2,x2,p::o2)
          |none=>none
        |none=>match readG E ss st o T x with
          |some (a,r,p)=>match evPrS E ss ops rest (T.put o.dst a) st r with
            |some (T2,x2,o2)=>some (T2,x2,p::o2)
            |none=>none
          |none=>match pureA E st o.op T with
            |some av=>match evPrS E ss ops rest (T.put o.dst (tagA ss o.dst av x).1) st (tagA ss o.dst av x).2.1 with
              |some (T2,x2,o2)=>some (T2,x2,(tagA ss o.dst av x).2.2++o2)
              |none=>none
            |none=>none
      |none=>none) else none) else none
theorem evPrS_ok{E:Env}{ss:List Nat}{ops:Array Oper}:∀(l:List DStep) (T:Tm) (st:St) (x:List Or) (T1:Tm) (x1:List Or) (ob:Ob) (listed:Array Bool),evPrS E ss ops l T st x=some (T1,x1,ob)→ob.ok→planOK ops l listed=true→
    ADp E ops (fun e T' st'=>e= .normal∧T'=T1∧st'=st) (l.map (·.i)) listed T st
  | [],T,st,x,T1,x1,ob,listed,h,hob,hl=>by
    simp only [evPrS,Option.some.injEq,Prod.mk.injEq] at h
    obtain ⟨rfl,_,_⟩:=h
    simp only [planOK,beq_iff_eq] at hl
    exact ⟨hl,rfl,rfl,rfl⟩
  |s::rest,T,st,x,T1,x1,ob,listed,h,hob,hl=>by
    simp only [evPrS] at h
    simp only [planOK,Bool.and_eq_true,Bool.or_eq_true,Bool.not_eq_true',beq_iff_eq] at hl
    obtain ⟨⟨⟨hl1,_⟩,_⟩,hl4⟩:=hl
    split at h
    · cases h
    rename_i o ho
    split at h
    · rename_i hfit
      split at h
      · rename_i ht
        simp only [List.map_cons,ADp,ho]
        refine ⟨hfit,by rw [←hl1];exact ht,?_⟩
        split at h
        · rename_i hw
          try simp only [hw]
          exact evPrS_ok rest _ _ _ _ _ _ _ h hob hl4
        · rename_i hw
          try simp only [hw]
          split at h
          · rename_i a r p hg
            split at h
            · rename_i h3
              cases h
              obtain ⟨ob1,ob2⟩:=Ob.ok_cons.1 hob
              have hr:readA E st o.op T=some a:=by unfold readA;rw [pureG_ok hg ob1]
              simp only [hr]
              exact evPrS_ok rest _ _ _ _ _ _ _ h3 ob2 hl4
            · cases h
          · split at h
            · rename_i a r p hg
              split at h
              · rename_i h3
                cases h
                obtain ⟨ob1,ob2⟩:=Ob.ok_cons.1 hob
                simp only [readG_ok hg ob1]
                exact evPrS_ok rest _ _ _ _ _ _ _ h3 ob2 hl4
              · cases h
            · split at h
              · rename_i av hp
                split at h
                · rename_i h3
                  cases h
                  obtain ⟨ob1,ob2⟩:=Ob.ok_append.1 hob
                  have hr:readA E st o.op T=some av:=by unfold readA;rw [hp]
                  have:=evPrS_ok rest _ _ _ _ _ _ _ h3 ob2 hl4
                  rw [←tagA_ok ob1] at this
                  simp only [hr]
                  exact this
                · cases h
              · cases h
        · cases h
      · cases h
    · cases h
theorem ADp.mono{E:Env}{ops:Array Oper}{Q Q':Exit→Tm→St→Prop}(h:∀e T st,Q e T st→Q' e T st):∀(l:List Nat) {listed:Array Bool} {T:Tm} {st:St},ADp E ops Q l listed T st→ADp E ops Q' l listed T st
  | [],_,_,_,k=>⟨k.1,h _ _ _ k.2⟩
  |i::r,listed,T,st,k=>by
    simp only [ADp] at k⊢
    split at k
    · exact k.elim
    · refine ⟨k.1,k.2.1,?_⟩
      have k:=k.2.2
      split at k
      · exact ADp.mono h r k
      · split at k
        · exact ADp.mono h r k
        · exact k.elim
      · exact k.elim
abbrev OvP:=Nat→List AV→St→Option (AV×St×Prop)
mutual
def evS(P:Program)(E:Env)(ov:OvP)(sites:Nat→List Nat):Nat→List Nat→Code→Tm→St→List Or→Option (Exit×Tm×St×List Or×Ob)
  |0,_,_,_,_,_=>none
  |k+1,ss,c,T,st,x=>match c with
    | .skip=>some (.normal,T,st,x,[])
    | .label _=>some (.normal,T,st,x,[])
    | .exit id=>some (.exit id,T,st,x,[])
    | .ret=>some (.ret,T,st,x,[])
    | .seq a b=>match evS P E ov sites k ss a T st x with
      |some (.normal,T1,st1,x1,o1)=>match evS P E ov sites k ss b T1 st1 x1 with
        |some (e2,T2,st2,x2,o2)=>some (e2,T2,st2,x2,o1++o2)
        |none=>none
      |r=>r
    | .cond c y z=>match condA ss c x with
      |some (b,x1)=>match evS P E ov sites k ss (if b then y else z) T st x1 with
        |some (e2,T2,st2,x2,o2)=>some (e2,T2,st2,x2,(T.eval c= .val (.bool b))::o2)
        |none=>none
      |none=>match T.eval c with
        | .val (.bool b)=>evS P E ov sites k ss (if b then y else z) T st x
        |_=>none
    | .block id c=>match evS P E ov sites k ss c T st x with
      |some (.exit i,T1,st1,x1,o1)=>if i=id then some (.normal,T1,st1,x1,o1) else some (.exit i,T1,st1,x1,o1)
      |r=>r
    | .scope c=>match evS P E ov sites k ss c T st x with
      |some (.goto _,_,_,_,_)=>none
      |r=>r
    | .loop c=>match evS P E ov sites k ss c T st x with
      |some (.normal,T1,st1,x1,o1)=>match evS P E ov sites k ss (.loop c) T1 st1 x1 with
        |some (e2,T2,st2,x2,o2)=>some (e2,T2,st2,x2,o1++o2)
        |none=>none
      |r=>r
    | .region _ ops false=>match evOpsS P E ov sites k ss ops ops.toList T st x with
      |some (T1,st1,x1,o1)=>some (.normal,T1,st1,x1,o1)
      |none=>none
    | .region id ops true=>match planOf ops with
      |some l=>match (match ss with| []=>false|_=>ss.contains (8500+id)) with
       |true=>match evPrS E ss ops l T st x with
        |some (T1,x1,o1)=>some (.normal,T1,st,x1,o1)
        |none=>none
       |false=>match (match ss with| []=>false|_=>ss.contains 8000) with
       |true=>match evDrS P E ov sites k ss ops (idsG E ss ops l T st x) l T st x with
        |some (T1,st1,x1,o1)=>some (.normal,T1,st1,x1,(∀i∈idsG E ss ops l T st x,i<st.next)::o1)
        |none=>none
       |false=>match evDrS P E ov sites k ss ops ((idsOfS E ss ops l T st x).filter (· <st.next)) l T st x with
        |some (T1,st1,x1,o1)=>some (.normal,T1,st1,x1,o1)
        |none=>none
      |none=>none
    |_=>none
def evDrS(P:Program)(E:Env)(ov:OvP)(sites:Nat→List Nat):Nat→List Nat→Array Oper→List Nat→List DStep→Tm→St→List Or→Option (Tm×St×List Or×Ob)
  |0,_,_,_,_,_,_,_=>none
  |k+1,ss,ops,ids,l,T,st,x=>match l with
    | []=>some (T,st,x,[])
    |s::rest=>match ops[s.i]? with
      |none=>none
      |some o=>if T.fits o.dst then (match wantedA ops o T with
        |some false=>if s.take||s.single then evDrS P E ov sites k ss ops ids rest (T.put o.dst (.tup [])) st x else none
        |some true=>match (if s.single then snG P E ss ids o T (if s.ph then st.hide ids else st) x else none) with
         |some (a,st',x1,p)=>match evDrS P E ov sites k ss ops ids rest (T.put o.dst a) (if s.ph then st'.show st ids else st') x1 with
            |some (T2,st2,x2,o2)=>some (T2,st2,x2,(s.ph=true→ids.all (fun id=>(st.get id).isSome)=true)::p::o2)
            |none=>none
         |none=>match (if s.take then heldG E ss st ids o T x else none) with
         |some (a,r,p)=>match evDrS P E ov sites k ss ops ids rest (T.put o.dst a) st r with
            |some (T2,st2,x2,o2)=>some (T2,st2,x2,p::o2)
            |none=>none
         |none=>match (if s.take then heldA E st ids o.op T else none) with
          |some av=>match evDrS P E ov sites k ss ops ids rest (T.put o.dst (tagA ss o.dst av x).1) st (tagA ss o.dst av x).2.1 with
            |some (T2,st2,x2,o2)=>some (T2,st2,x2,(tagA ss o.dst av x).2.2++o2)
            |none=>none
          |none=>match (if s.single then drG P E ss o.op T (if s.ph then st.hide ids else st) x else none) with
           |some (a,st',x1,p)=>match evDrS P E ov sites k ss ops ids rest (T.put o.dst a) (if s.ph then st'.show st ids else st') x1 with
            |some (T2,st2,x2,o2)=>some (T2,st2,x2,(s.ph=true→ids.all (fun id=>(st.get id).isSome)=true)::p::o2)
            |none=>none
           |none=>if s.single&&(!s.ph||ids.all (fun id=>(st.get id).isSome)) then (match evOp E o.op T (if s.ph then st.hide ids else st) with
            |some (.val av st')=>match evDrS P E ov sites k ss ops ids rest (T.put o.dst (tagA ss o.dst av x).1) (if s.ph then st'.show st ids else st') (tagA ss o.dst av x).2.1 with
              |some (T2,st2,x2,o2)=>some (T2,st2,x2,(tagA ss o.dst av x).2.2++o2)
              |none=>none
            |some (.skip st')=>evDrS P E ov sites k ss ops ids rest (T.put o.dst (.tup [])) (if s.ph then st'.show st ids else st') x
            |some (.call f args)=>match evCallS P E ov sites k f args (if s.ph then st.hide ids else st) x with
              |some (r,st',x1,o1)=>match evDrS P E ov sites k ss ops ids rest (T.put o.dst r) (if s.ph then st'.show st ids else st') x1 with
                |some (T2,st2,x2,o2)=>some (T2,st2,x2,o1++o2)
                |none=>none
              |none=>none
            |_=>none) else none
        |none=>none) else none
def evOpsS(P:Program)(E:Env)(ov:OvP)(sites:Nat→List Nat):Nat→List Nat→Array Oper→List Oper→Tm→St→List Or→Option (Tm×St×List Or×Ob)
  |0,_,_,_,_,_,_=>none
  |k+1,ss,ops,l,T,st,x=>match l with
    | []=>some (T,st,x,[])
    |o::rest=>if T.fits o.dst then (match wantedA ops o T with
      |some true=>match skipG E ss o.op T st x with
       |some (st1,x1,p)=>match evOpsS P E ov sites k ss ops rest (T.put o.dst (.tup [])) st1 x1 with
         |some (T2,st2,x2,o2)=>some (T2,st2,x2,p::o2)
         |none=>none
       |none=>match giveA E ss o.op o.dst T st x with
       |some (av,st1,x1,p)=>match evOpsS P E ov sites k ss ops rest (T.put o.dst av) st1 x1 with
         |some (T2,st2,x2,o2)=>some (T2,st2,x2,p::o2)
         |none=>none
       |none=>match evOp E o.op T st with
        |some (.val av st')=>match evOpsS P E ov sites k ss ops rest (T.put o.dst (tagA ss o.dst av x).1) st' (tagA ss o.dst av x).2.1 with
          |some (T2,st2,x2,o2)=>some (T2,st2,x2,(tagA ss o.dst av x).2.2++o2)
          |none=>none
        |some (.skip st')=>evOpsS P E ov sites k ss ops rest (T.put o.dst (.tup [])) st' x
        |some (.any [q])=>evOpsS P E ov sites k ss ops rest (T.put o.dst q.1) q.2 x
        |some (.any _)=>none
        |some (.call f args)=>match callG ss f x with
         |some (a,h,x1)=>match evOpsS P E ov sites k ss ops rest (T.put o.dst a) (h st) x1 with
            |some (T2,st2,x2,o2)=>some (T2,st2,x2,ACalls P f args (fun r s=>r=a∧s=h st) st::o2)
            |none=>none
         |none=>match evCallS P E ov sites k f args st x with
          |some (r,st',x1,o1)=>match evOpsS P E ov sites k ss ops rest (T.put o.dst (tagA ss o.dst r x1).1) st' (tagA ss o.dst r x1).2.1 with
            |some (T2,st2,x2,o2)=>some (T2,st2,x2,o1++((tagA ss o.dst r x1).2.2++o2))
            |none=>none
          |none=>none
        |none=>none
      |some false=>evOpsS P E ov sites k ss ops rest (T.put o.dst (.tup [])) st x
      |none=>none) else none
def evCallS(P:Program)(E:Env)(ov:OvP)(sites:Nat→List Nat):Nat→Nat→List AV→St→List Or→Option (AV×St×List Or×Ob)
  |0,_,_,_,_=>none
  |k+1,f,args,st,x=>match ov f args st with
    |some (r,st',p)=>some (r,st',x,[p])
    |none=>match E.fn f with
      |some fn=>match fn.body with
        |some c=>match evS P E ov sites k (sites f) c (enterT fn args st.gl) st x with
          |some (.normal,T1,st1,x1,o1)=>(resA E T1 st1 fn.results.toList).map fun vs=>(oneOrTup vs,st1,x1,o1)
          |some (.ret,T1,st1,x1,o1)=>(resA E T1 st1 fn.results.toList).map fun vs=>(oneOrTup vs,st1,x1,o1)
          |_=>none
        |none=>none
      |none=>none
end

structure EvSOK (P:Program) (E:Env) (ov:OvP) (sites:Nat→List Nat) (k:Nat):Prop where
  code:∀ss c T st x e1 T1 st1 x1 ob,evS P E ov sites k ss c T st x=some (e1,T1,st1,x1,ob)→ob.ok→AW P c (fun e T' st'=>e=e1∧T'=T1∧st'=st1) T st
  ops:∀ss ops l T st x T1 st1 x1 ob,evOpsS P E ov sites k ss ops l T st x=some (T1,st1,x1,ob)→ob.ok→AOps P E ops (fun e T' st'=>e= .normal∧T'=T1∧st'=st1) l T st
  call:∀f args st x a1 st1 x1 ob,evCallS P E ov sites k f args st x=some (a1,st1,x1,ob)→ob.ok→ACalls P f args (fun a st'=>a=a1∧st'=st1) st
  dr:∀ss ops ids l T st x T1 st1 x1 ob,evDrS P E ov sites k ss ops ids l T st x=some (T1,st1,x1,ob)→ob.ok→∀listed,planOK ops l listed=true→ADr P E ops ids (fun e T' st'=>e= .normal∧T'=T1∧st'=st1) (l.map (·.i)) listed T st

theorem evS_ok{P:Program}{E:Env}(hE:EOK' P E){ov:OvP}{sites:Nat→List Nat}(hov:∀f args st r st' p,ov f args st=some (r,st',p)→p→ACalls P f args (fun a s=>a=r∧s=st') st):∀k,EvSOK P E ov sites k:=by
  intro k
  induction k using Nat.strongRecOn with
  |_ k ih=>
  cases k with
  |zero=>exact ⟨fun ss c T st x e1 T1 st1 x1 ob h=>by simp [evS] at h,fun ss ops l T st x T1 st1 x1 ob h=>by simp [evOpsS] at h,fun f args st x a1 st1 x1 ob h=>by simp [evCallS] at h,fun ss ops ids l T st x T1 st1 x1 ob h=>by simp [evDrS] at h⟩
  |succ k=>
  have ih0:=ih k (Nat.lt_succ_self _)
  refine ⟨fun ss c T st x e1 T1 st1 x1 ob h hob=> ?_,fun ss ops l T st x T1 st1 x1 ob h hob=> ?_,fun f args st x a1 st1 x1 ob h hob=> ?_,fun ss ops ids l T st x T1 st1 x1 ob h hob listed hl=> ?_⟩
  · simp only [evS] at h
    split at h
    · cases h;exact .skip ⟨rfl,rfl,rfl⟩
    · cases h;exact .label ⟨rfl,rfl,rfl⟩
    · cases h;exact .exit ⟨rfl,rfl,rfl⟩
    · cases h;exact .ret ⟨rfl,rfl,rfl⟩
    · rename_i a b
      refine .seq ?_
      split at h
      · rename_i T2 st2 x2 o1 h1
        split at h
        · rename_i e3 T3 st3 x3 o3 h3
          cases h
          obtain ⟨ob1,ob2⟩:=Ob.ok_append.1 hob
          refine (ih0.code _ _ _ _ _ _ _ _ _ _ h1 ob1).mono fun e T' st' he=> ?_
          obtain ⟨rfl,rfl,rfl⟩:=he
          exact ih0.code _ _ _ _ _ _ _ _ _ _ h3 ob2
        · cases h
      · rename_i hne
        refine (ih0.code _ _ _ _ _ _ _ _ _ _ h hob).mono fun e T' st' he=> ?_
        obtain ⟨rfl,rfl,rfl⟩:=he
        cases e with
        |normal=>exact absurd h (hne _ _ _ _)
        |_=>exact ⟨rfl,rfl,rfl⟩
    · split at h
      · rename_i b x2 hc
        split at h
        · rename_i e3 T3 st3 x3 o3 h3
          cases h
          obtain ⟨ob1,ob2⟩:=Ob.ok_cons.1 hob
          exact .cond ob1 (ih0.code _ _ _ _ _ _ _ _ _ _ h3 ob2)
        · cases h
      · split at h
        · rename_i b hc
          exact .cond hc (ih0.code _ _ _ _ _ _ _ _ _ _ h hob)
        · cases h
    · rename_i id c
      refine .block ?_
      split at h
      · rename_i i T2 st2 x2 o2 h1
        split at h
        · rename_i hi
          cases h
          refine (ih0.code _ _ _ _ _ _ _ _ _ _ h1 hob).mono fun e T' st' he=> ?_
          obtain ⟨rfl,rfl,rfl⟩:=he
          simp [blockA,hi]
        · rename_i hi
          cases h
          refine (ih0.code _ _ _ _ _ _ _ _ _ _ h1 hob).mono fun e T' st' he=> ?_
          obtain ⟨rfl,rfl,rfl⟩:=he
          simp [blockA,hi]
      · rename_i hne
        refine (ih0.code _ _ _ _ _ _ _ _ _ _ h hob).mono fun e T' st' he=> ?_
        obtain ⟨rfl,rfl,rfl⟩:=he
        cases e with
        |exit i=>exact absurd h (hne _ _ _ _ _)
        |_=>exact ⟨rfl,rfl,rfl⟩
    · rename_i c
      refine .scope ?_
      split at h
      · cases h
      · rename_i hne
        refine (ih0.code _ _ _ _ _ _ _ _ _ _ h hob).mono fun e T' st' he=> ?_
        obtain ⟨rfl,rfl,rfl⟩:=he
        refine ⟨fun l hl=> ?_,rfl,rfl,rfl⟩
        subst hl
        exact hne _ _ _ _ _ h
    · rename_i c
      refine .loop (fun n T st=>n≤k+1∧∃x ob,evS P E ov sites n ss (.loop c) T st x=some (e1,T1,st1,x1,ob)∧ob.ok) (k+1) ⟨Nat.le_refl _,x,ob,by simp only [evS];exact h,hob⟩ fun n T st hI=> ?_
      obtain ⟨hn,x',ob',hI,hob'⟩:=hI
      cases n with
      |zero=>simp [evS] at hI
      |succ n=>
        have ihn:=ih n (by omega)
        simp only [evS] at hI
        split at hI
        · rename_i T2 st2 x2 o2 h1
          split at hI
          · rename_i e3 T3 st3 x3 o3 h3
            cases hI
            obtain ⟨ob1,ob2⟩:=Ob.ok_append.1 hob'
            refine (ihn.code _ _ _ _ _ _ _ _ _ _ h1 ob1).mono fun e T' st' he=> ?_
            obtain ⟨rfl,rfl,rfl⟩:=he
            exact ⟨n,Nat.lt_succ_self _,by omega,_,_,h3,ob2⟩
          · cases hI
        · rename_i hne
          refine (ihn.code _ _ _ _ _ _ _ _ _ _ hI hob').mono fun e T' st' he=> ?_
          obtain ⟨rfl,rfl,rfl⟩:=he
          cases e with
          |normal=>exact absurd hI (hne _ _ _ _)
          |_=>exact ⟨rfl,rfl,rfl⟩
    · rename_i id ops
      split at h
      · rename_i T2 st2 x2 o2 h1
        cases h
        exact .region hE (AOps.mono (fun e T' st' ⟨he,hr⟩=>by subst he;exact ⟨rfl,hr⟩) _ (ih0.ops _ _ _ _ _ _ _ _ _ _ h1 hob))
      · cases h
    · rename_i id ops
      split at h
      · rename_i l hl
        unfold planOf at hl
        simp only [] at hl
        split at hl
        · rename_i hc
          cases hl
          split at h
          · split at h
            · rename_i T2 x2 o2 h1
              cases h
              exact .drawnP hE hE.mixed hc.2.2 _ (by rw [List.length_map];exact hc.1) (ADp.mono (fun e T' st' ⟨he,hr⟩=>by subst he;exact ⟨rfl,hr⟩) _ (evPrS_ok _ _ _ _ _ _ _ _ h1 hob hc.2.1))
            · cases h
          split at h
          · split at h
            · rename_i T2 st2 x2 o2 h1
              cases h
              obtain ⟨ob1,ob2⟩:=Ob.ok_cons.1 hob
              refine .drawn hE hE.mixed hc.2.2 _ _ ?_ (by rw [List.length_map];exact hc.1) (ADr.mono (fun e T' st' ⟨he,hr⟩=>by subst he;exact ⟨rfl,hr⟩) _ (ih0.dr _ _ _ _ _ _ _ _ _ _ _ h1 ob2 _ hc.2.1))
              rw [List.all_eq_true]
              exact fun i hi=>decide_eq_true (ob1 i hi)
            · cases h
          · split at h
            · rename_i T2 st2 x2 o2 h1
              cases h
              refine .drawn hE hE.mixed hc.2.2 _ _ ?_ (by rw [List.length_map];exact hc.1) (ADr.mono (fun e T' st' ⟨he,hr⟩=>by subst he;exact ⟨rfl,hr⟩) _ (ih0.dr _ _ _ _ _ _ _ _ _ _ _ h1 hob _ hc.2.1))
              simp [List.all_eq_true]
            · cases h
        · cases hl
      · cases h
    · cases h
  · simp only [evOpsS] at h
    split at h
    · cases h;exact ⟨rfl,rfl,rfl⟩
    · rename_i o rest
      split at h
      · rename_i hfit
        simp only [AOps]
        split at h
        · rename_i hw
          try simp only [hw]
          split at h
          · rename_i st5 x3 p hskip
            split at h
            · rename_i T3 st3 x3 o3 h3
              cases h
              obtain ⟨ob1,ob2⟩:=Ob.ok_cons.1 hob
              simp only [skipG_ok hskip ob1]
              exact ⟨hfit,ih0.ops _ _ _ _ _ _ _ _ _ _ h3 ob2⟩
            · cases h
          split at h
          · rename_i av st5 x3 p hgive
            split at h
            · rename_i T3 st3 x3 o3 h3
              cases h
              obtain ⟨ob1,ob2⟩:=Ob.ok_cons.1 hob
              simp only [giveA_ok hgive ob1]
              exact ⟨hfit,ih0.ops _ _ _ _ _ _ _ _ _ _ h3 ob2⟩
            · cases h
          split at h
          · rename_i av st' he
            simp only [he]
            split at h
            · rename_i T3 st3 x3 o3 h3
              cases h
              obtain ⟨ob1,ob2⟩:=Ob.ok_append.1 hob
              have:=ih0.ops _ _ _ _ _ _ _ _ _ _ h3 ob2
              rw [←tagA_ok ob1] at this
              exact ⟨hfit,this⟩
            · cases h
          · rename_i st' he
            simp only [he]
            exact ⟨hfit,ih0.ops _ _ _ _ _ _ _ _ _ _ h hob⟩
          · rename_i q he
            simp only [he]
            refine ⟨hfit,fun q' hq'=> ?_⟩
            obtain rfl:=List.mem_singleton.1 hq'
            exact ih0.ops _ _ _ _ _ _ _ _ _ _ h hob
          · cases h
          · rename_i f args he
            simp only [he]
            split at h
            · rename_i a hh x2 hc
              split at h
              · rename_i T3 st3 x3 o3 h3
                cases h
                obtain ⟨ob1,ob2⟩:=Ob.ok_cons.1 hob
                refine ⟨hfit,ob1.mono fun a st'' ha=> ?_⟩
                obtain ⟨rfl,rfl⟩:=ha
                exact ih0.ops _ _ _ _ _ _ _ _ _ _ h3 ob2
              · cases h
            split at h
            · rename_i r' st' x2 o2 hc
              split at h
              · rename_i T3 st3 x3 o3 h3
                cases h
                obtain ⟨ob1,ob2⟩:=Ob.ok_append.1 hob
                obtain ⟨ob2,ob3⟩:=Ob.ok_append.1 ob2
                refine ⟨hfit,(ih0.call _ _ _ _ _ _ _ _ hc ob1).mono fun a st'' ha=> ?_⟩
                obtain ⟨rfl,rfl⟩:=ha
                have:=ih0.ops _ _ _ _ _ _ _ _ _ _ h3 ob3
                rw [←tagA_ok ob2] at this
                exact this
              · cases h
            · cases h
          · cases h
        · rename_i hw
          try simp only [hw]
          exact ⟨hfit,ih0.ops _ _ _ _ _ _ _ _ _ _ h hob⟩
        · cases h
      · cases h
  · simp only [evCallS] at h
    split at h
    · rename_i r' st' p ho
      cases h
      exact hov _ _ _ _ _ _ ho (Ob.ok_cons.1 hob).1
    · split at h
      · rename_i fn hfn
        split at h
        · rename_i c hc
          refine .body hE (hE.fn _ _ hfn) hc ?_
          split at h
          · rename_i T2 st2 x2 o2 h1
            obtain ⟨vs,hv,hq⟩:=Option.map_eq_some_iff.1 h
            cases hq
            refine (ih0.code _ _ _ _ _ _ _ _ _ _ h1 hob).mono fun e T' st' he=> ?_
            obtain ⟨rfl,rfl,rfl⟩:=he
            exact ⟨vs,hv,rfl,rfl⟩
          · rename_i T2 st2 x2 o2 h1
            obtain ⟨vs,hv,hq⟩:=Option.map_eq_some_iff.1 h
            cases hq
            refine (ih0.code _ _ _ _ _ _ _ _ _ _ h1 hob).mono fun e T' st' he=> ?_
            obtain ⟨rfl,rfl,rfl⟩:=he
            exact ⟨vs,hv,rfl,rfl⟩
          · cases h
        · cases h
      · cases h
  · simp only [evDrS] at h
    split at h
    · cases h
      simp only [planOK,beq_iff_eq] at hl
      exact ⟨hl,rfl,rfl,rfl⟩
    · rename_i s rest
      simp only [planOK,Bool.and_eq_true,Bool.or_eq_true,Bool.not_eq_true',beq_iff_eq] at hl
      obtain ⟨⟨⟨hl1,hl2⟩,hl3⟩,hl4⟩:=hl
      split at h
      · cases h
      rename_i o ho
      rcases Bool.eq_false_or_eq_true (T.fits o.dst) with hfit|hfit
      rotate_left
      · rw [hfit] at h;simp at h
      rw [if_pos hfit] at h
      simp only [List.map_cons,ADr,ho]
      refine ⟨hfit,?_⟩
      have mt:mayTake ops listed s.i=(!effOp o.op&&Region.free MD ops listed s.i&&(Region.ready MD ops listed).contains s.i&&noWait ops listed s.i&& !waits o s.i):=by simp only [mayTake,ho]
      have sg:s.single=true→Region.ready MD ops listed= [s.i]:=fun hs=>by
        rcases hl2 with h1|h1
        · rw [hs] at h1;cases h1
        · exact h1
      rw [←mt,←hl1]
      split at h
      · rename_i hw
        split at h
        · rename_i hts
          have hA:=ih0.dr _ _ _ _ _ _ _ _ _ _ _ h hob _ hl4
          try simp only [hw]
          split
          · exact hA
          · rename_i hc
            refine ⟨sg ?_,hA⟩
            cases hs:s.single with
            |true=>rfl
            |false=>
              rw [hs,Bool.or_false] at hts
              exact absurd ⟨hts,by first|exact .inl trivial|simp⟩ hc
        · cases h
      · rename_i hw
        split at h
        · rename_i a' st'' x3 p' hd
          split at hd
          · rename_i hs1
            split at h
            · rename_i T3 st3 x4 o3 h3
              cases h
              obtain ⟨ob1,ob2⟩:=Ob.ok_cons.1 hob
              obtain ⟨ob2,ob3⟩:=Ob.ok_cons.1 ob2
              obtain ⟨hn,p2,hd,ob2⟩:=snG_ok hd ob2
              have hcond:¬(s.take=true∧(wantedA ops o T=some false∨(wantedA ops o T=some true∧(heldA E st ids o.op T).isSome=true))):=by
                rintro ⟨h1,h2⟩
                rw [hw,hn st] at h2
                simp at h2
              rw [if_neg hcond]
              refine ⟨sg hs1,?_⟩
              rw [←hl3]
              try simp only [hw]
              refine ⟨ob1,?_⟩
              have hK:ADrK s.ph st ids (fun st'=>ADr P E ops ids (fun e T' st'=>e= .normal∧T'=T1∧st'=st1) (rest.map (·.i)) (listed.setIfInBounds s.i true) (T.put o.dst a') st') st'':=by
                unfold ADrK
                split
                · rename_i hp
                  rw [if_pos hp] at h3
                  exact ih0.dr _ _ _ _ _ _ _ _ _ _ _ h3 ob3 _ hl4
                · rename_i hp
                  rw [if_neg hp] at h3
                  exact ih0.dr _ _ _ _ _ _ _ _ _ _ _ h3 ob3 _ hl4
              rcases drG_ok hd ob2 with he|⟨he,rfl⟩|⟨f,args,he,hc⟩
              · simp only [he];exact hK
              · simp only [he];exact hK
              · simp only [he]
                refine hc.mono fun a st5 ha=> ?_
                obtain ⟨rfl,rfl⟩:=ha
                exact hK
            · cases h
          · cases hd
        split at h
        · rename_i a' r' p' hh
          split at hh
          · rename_i ht
            split at h
            · rename_i T3 st3 x3 o3 h3
              cases h
              obtain ⟨ob1,ob2⟩:=Ob.ok_cons.1 hob
              have hh':=heldG_ok hh ob1
              have hA:=ih0.dr _ _ _ _ _ _ _ _ _ _ _ h3 ob2 _ hl4
              rw [if_pos ⟨ht,.inr ⟨hw,by rw [hh'];rfl⟩⟩]
              simp only [hw,hh']
              exact hA
            · cases h
          · cases hh
        split at h
        · rename_i av hh
          split at hh
          · rename_i ht
            split at h
            · rename_i T3 st3 x3 o3 h3
              cases h
              obtain ⟨ob1,ob2⟩:=Ob.ok_append.1 hob
              have hA:=ih0.dr _ _ _ _ _ _ _ _ _ _ _ h3 ob2 _ hl4
              rw [←tagA_ok ob1] at hA
              rw [if_pos ⟨ht,.inr ⟨hw,by rw [hh];rfl⟩⟩]
              simp only [hw,hh]
              exact hA
            · cases h
          · cases hh
        · rename_i hh
          split at h
          · rename_i a' st'' x3 p' hd
            split at hd
            · rename_i hs1
              split at h
              · rename_i T3 st3 x4 o3 h3
                cases h
                obtain ⟨ob1,ob2⟩:=Ob.ok_cons.1 hob
                obtain ⟨ob2,ob3⟩:=Ob.ok_cons.1 ob2
                have hcond:¬(s.take=true∧(wantedA ops o T=some false∨(wantedA ops o T=some true∧(heldA E st ids o.op T).isSome=true))):=by
                  rintro ⟨h1,h2⟩
                  rw [if_pos h1] at hh
                  rw [hw,hh] at h2
                  simp at h2
                rw [if_neg hcond]
                refine ⟨sg hs1,?_⟩
                rw [←hl3]
                try simp only [hw]
                refine ⟨ob1,?_⟩
                have hK:ADrK s.ph st ids (fun st'=>ADr P E ops ids (fun e T' st'=>e= .normal∧T'=T1∧st'=st1) (rest.map (·.i)) (listed.setIfInBounds s.i true) (T.put o.dst a') st') st'':=by
                  unfold ADrK
                  split
                  · rename_i hp
                    rw [if_pos hp] at h3
                    exact ih0.dr _ _ _ _ _ _ _ _ _ _ _ h3 ob3 _ hl4
                  · rename_i hp
                    rw [if_neg hp] at h3
                    exact ih0.dr _ _ _ _ _ _ _ _ _ _ _ h3 ob3 _ hl4
                rcases drG_ok hd ob2 with he|⟨he,rfl⟩|⟨f,args,he,hc⟩
                · simp only [he];exact hK
                · simp only [he];exact hK
                · simp only [he]
                  refine hc.mono fun a st5 ha=> ?_
                  obtain ⟨rfl,rfl⟩:=ha
                  exact hK
              · cases h
            · cases hd
          split at h
          · rename_i hsg
            simp only [Bool.and_eq_true,Bool.or_eq_true,Bool.not_eq_true'] at hsg
            have hcond:¬(s.take=true∧(wantedA ops o T=some false∨(wantedA ops o T=some true∧(heldA E st ids o.op T).isSome=true))):=by
              rintro ⟨h1,h2⟩
              rw [if_pos h1] at hh
              rw [hw,hh] at h2
              simp at h2
            rw [if_neg hcond]
            refine ⟨sg hsg.1,?_⟩
            rw [←hl3]
            try simp only [hw]
            refine ⟨fun hp=> ?_,?_⟩
            · rcases hsg.2 with h1|h1
              · rw [hp] at h1;cases h1
              · exact h1
            · have hK:∀{av:AV} {st':St} {x:List Or} {ob:Ob},evDrS P E ov sites k ss ops ids rest (T.put o.dst av) (if s.ph=true then st'.show st ids else st') x=some (T1,st1,x1,ob)→ob.ok→ADrK s.ph st ids (fun st'=>ADr P E ops ids (fun e T' st'=>e= .normal∧T'=T1∧st'=st1) (rest.map (·.i)) (listed.setIfInBounds s.i true) (T.put o.dst av) st') st':=by
                intro av st' x ob h hob
                unfold ADrK
                split
                · rename_i hp
                  rw [if_pos hp] at h
                  exact ih0.dr _ _ _ _ _ _ _ _ _ _ _ h hob _ hl4
                · rename_i hp
                  rw [if_neg hp] at h
                  exact ih0.dr _ _ _ _ _ _ _ _ _ _ _ h hob _ hl4
              split at h
              · rename_i av st' he
                simp only [he]
                split at h
                · rename_i T3 st3 x3 o3 h3
                  cases h
                  obtain ⟨ob1,ob2⟩:=Ob.ok_append.1 hob
                  have:=hK h3 ob2
                  rw [←tagA_ok ob1] at this
                  exact this
                · cases h
              · rename_i st' he
                simp only [he]
                exact hK h hob
              · rename_i f args he
                simp only [he]
                split at h
                · rename_i r' st' x2 o2 hc
                  split at h
                  · rename_i T3 st3 x3 o3 h3
                    cases h
                    obtain ⟨ob1,ob2⟩:=Ob.ok_append.1 hob
                    refine (ih0.call _ _ _ _ _ _ _ _ hc ob1).mono fun a st'' ha=> ?_
                    obtain ⟨rfl,rfl⟩:=ha
                    exact hK h3 ob2
                  · cases h
                · cases h
              · cases h
          · cases h
      · cases h
end
section
set_option maxRecDepth 4000
/-! ### runs at any store -/
theorem TR.temps{g:G}{T T0:Tm}{a:Act}(h:TR g T a)(hn:T.n=T0.n)(hT:∀t,T0.get t= .undef∨T.get t=T0.get t)(hgl:T0.gl= []):TR g T0 a:=
  ⟨h.size.trans hn,fun t=>by
    rcases hT t with e|e
    · rw [e];exact .undef _
    · rw [←e];exact h.get t,h.defers,fun p hp=>by rw [hgl] at hp;cases hp⟩
theorem AW.temps{P:Program}{c:Code}{Q:Exit→Tm→St→Prop}{T0 T:Tm}{st:St}(h:AW P c Q T0 st)(hn:T.n=T0.n)(hT:∀t,T0.get t= .undef∨T.get t=T0.get t)(hgl:T0.gl= []):AW P c Q T st:=
  fun g w a hok hTR=>h g w a hok (hTR.temps hn hT hgl)
theorem look_or(T:Tm):∀(l:List (Nat×AV)),(∀p∈l,T.get p.1=p.2)→∀t,look l t= .undef∨T.get t=look l t
  | [],_,t=> .inl rfl
  |(u,v)::r,h,t=>by
    simp only [look]
    by_cases hu:u=t
    · subst hu;rw [if_pos rfl];exact .inr (h (u,v) (List.mem_cons_self ..))
    · rw [if_neg hu];exact look_or T r (fun q hq=>h q (List.mem_cons_of_mem _ hq)) t
/-- a piece of code, run from a few temporaries -/
theorem AW.run{P:Program}{E:Env}(hE:EOK' P E){ov:OvP}{sites:Nat→List Nat}(hov:∀f args st r st' p,ov f args st=some (r,st',p)→p→ACalls P f args (fun a s=>a=r∧s=st') st){k:Nat}{ss:List Nat}{c:Code}{n:Nat}{l:List (Nat×AV)}{T T1:Tm}{st st1:St}{x x1:List Or}{e1:Exit}{ob:Ob}
    (h:evS P E ov sites k ss c ⟨n,l,[]⟩ st x=some (e1,T1,st1,x1,ob)) (hob:ob.ok) (hn:T.n=n) (hT:∀p∈l,T.get p.1=p.2):
    AW P c (fun e' T' st'=>e'=e1∧T'=T1∧st'=st1) T st:=
  ((evS_ok hE hov k).code _ _ _ _ _ _ _ _ _ _ h hob).temps hn (look_or T l hT) rfl
theorem ACalls.run{P:Program}{E:Env}(hE:EOK' P E){ov:OvP}{sites:Nat→List Nat}(hov:∀f args st r st' p,ov f args st=some (r,st',p)→p→ACalls P f args (fun a s=>a=r∧s=st') st){k f:Nat}{args:List AV}{st st1:St}{x x1:List Or}{a1:AV}{ob:Ob}
    (h:evCallS P E ov sites k f args st x=some (a1,st1,x1,ob)) (hob:ob.ok):ACalls P f args (fun a st'=>a=a1∧st'=st1) st:=
  (evS_ok hE hov k).call _ _ _ _ _ _ _ _ h hob
theorem noOv_ok{P:Program}:∀f args st r st' p,(fun (_:Nat) (_:List AV) (_:St)=>(none:Option (AV×St×Prop))) f args st=some (r,st',p)→p→ACalls P f args (fun a s=>a=r∧s=st') st:=fun f args st r st' p h=>by cases h
end
section
set_option maxRecDepth 4000
/-! ### runs of pieces -/
theorem gen_run{P:Program}{E:Env}(hE:EOK' P E){c:Code}{ss:List Nat}{sites:Nat→List Nat}{n0:Nat}{l:List (Nat×AV)}{st st1:St}{x:List Or}{e:Exit}{n:Nat}{F:List AV}{ob:Ob}{G:Tm→List AV}(h:((evS P E (fun _ _ _=>none) sites 100000 ss c ⟨n0,l,[]⟩ st x).map fun q=>(q.1,q.2.1.n,G q.2.1,q.2.2.1,q.2.2.2.2))=some (e,n,F,st1,ob))(hob:ob.ok){T:Tm}(hn:T.n=n0)(hT:∀p∈l,T.get p.1=p.2):
    AW P c (fun e' T' st'=>e'=e∧T'.n=n∧G T'=F∧st'=st1) T st:=by
  obtain ⟨⟨e1,T1,s1,x1,o1⟩,h1,h2⟩:=Option.map_eq_some_iff.1 h
  simp only [Prod.mk.injEq] at h2
  obtain ⟨rfl,h3,h4,rfl,rfl⟩:=h2
  exact (AW.run hE noOv_ok h1 hob hn hT).mono fun e T' st' ⟨q1,q2,q3⟩=>⟨q1,by rw [q2,h3],by rw [q2,h4],q3⟩
end
section
set_option maxRecDepth 4000
/-! ### laws of the operations -/
section
variable {E:Env} {t:Nat} {k:IntKind} {a b:Int}
theorem lssA:binA E .lss t (.val (.int k a)) (.val (.int k b))=some (.val (.bool (decide (a<b)))):=by cases k<;>rfl
theorem gtrA:binA E .gtr t (.val (.int k a)) (.val (.int k b))=some (.val (.bool (decide (b<a)))):=by cases k<;>rfl
theorem geqA:binA E .geq t (.val (.int k a)) (.val (.int k b))=some (.val (.bool (decide (b≤a)))):=by cases k<;>rfl
theorem eqlA:binA E .eql t (.val (.int k a)) (.val (.int k b))=some (.val (.bool (a==b))):=by cases k<;>rfl
theorem neqA:binA E .neq t (.val (.int k a)) (.val (.int k b))=some (.val (.bool (!(a==b)))):=by cases k<;>rfl
theorem lssT(h:a<b):binA E .lss t (.val (.int k a)) (.val (.int k b))=some (.val (.bool true)):=by
  rw [lssA];rw [decide_eq_true h]
theorem lssF(h:¬a<b):binA E .lss t (.val (.int k a)) (.val (.int k b))=some (.val (.bool false)):=by
  rw [lssA];rw [decide_eq_false h]
theorem gtrT(h:b<a):binA E .gtr t (.val (.int k a)) (.val (.int k b))=some (.val (.bool true)):=by
  rw [gtrA];rw [decide_eq_true h]
theorem gtrF(h:¬b<a):binA E .gtr t (.val (.int k a)) (.val (.int k b))=some (.val (.bool false)):=by
  rw [gtrA];rw [decide_eq_false h]
theorem geqT(h:b≤a):binA E .geq t (.val (.int k a)) (.val (.int k b))=some (.val (.bool true)):=by
  rw [geqA];rw [decide_eq_true h]
theorem geqF(h:¬b≤a):binA E .geq t (.val (.int k a)) (.val (.int k b))=some (.val (.bool false)):=by
  rw [geqA];rw [decide_eq_false h]
theorem eqlT(h:a=b):binA E .eql t (.val (.int k a)) (.val (.int k b))=some (.val (.bool true)):=by
  rw [eqlA];rw [beq_iff_eq.2 h]
theorem eqlF(h:a≠b):binA E .eql t (.val (.int k a)) (.val (.int k b))=some (.val (.bool false)):=by
  rw [eqlA];rw [beq_eq_false_iff_ne.2 h]
theorem neqT(h:a≠b):binA E .neq t (.val (.int k a)) (.val (.int k b))=some (.val (.bool true)):=by
  rw [neqA];rw [beq_eq_false_iff_ne.2 h];rfl
theorem neqF(h:a=b):binA E .neq t (.val (.int k a)) (.val (.int k b))=some (.val (.bool false)):=by
  rw [neqA];rw [beq_iff_eq.2 h];rfl
theorem addI:binA E .add t (.val (.int k a)) (.val (.int k b))=some (.val (.int k (k.wrap (a+b)))):=by cases k<;>rfl
theorem subI:binA E .sub t (.val (.int k a)) (.val (.int k b))=some (.val (.int k (k.wrap (a- b)))):=by cases k<;>rfl
theorem add64(h: -9223372036854775808≤a+b∧a+b≤9223372036854775807):binA E .add t (.val (.int .i64 a)) (.val (.int .i64 b))=some (.val (.int .i64 (a+b))):=by
  rw [addI,IntWalk.i64_in _ (by omega)]
theorem sub64(h: -9223372036854775808≤a- b∧a- b≤9223372036854775807):binA E .sub t (.val (.int .i64 a)) (.val (.int .i64 b))=some (.val (.int .i64 (a- b))):=by
  rw [subI,IntWalk.i64_in _ (by omega)]
variable {x y:ByteArray}
theorem eqSA:binA E .eql t (.val (.string x)) (.val (.string y))=some (.val (.bool (x.toList==y.toList))):=rfl
theorem eqST(h:x=y):binA E .eql t (.val (.string x)) (.val (.string y))=some (.val (.bool true)):=by rw [eqSA,h,beq_self_eq_true]
theorem eqSF(h:x≠y):binA E .eql t (.val (.string x)) (.val (.string y))=some (.val (.bool false)):=by
  rw [eqSA,beq_eq_false_iff_ne.2 fun e=>h (by rw [ByteArray.toList_eq,ByteArray.toList_eq] at e;cases x with|mk p=>cases y with|mk q=>rw [show p=q from Array.toList_inj.1 e])]
theorem neSA:binA E .neq t (.val (.string x)) (.val (.string y))=some (.val (.bool (!(x.toList==y.toList)))):=rfl
theorem neSF(h:x=y):binA E .neq t (.val (.string x)) (.val (.string y))=some (.val (.bool false)):=by rw [neSA,h,beq_self_eq_true];rfl
theorem neST(h:x≠y):binA E .neq t (.val (.string x)) (.val (.string y))=some (.val (.bool true)):=by
  rw [neSA,beq_eq_false_iff_ne.2 fun e=>h (by rw [ByteArray.toList_eq,ByteArray.toList_eq] at e;cases x with|mk p=>cases y with|mk q=>rw [show p=q from Array.toList_inj.1 e])];rfl
end
/-! ### pieces, one behind the other -/
theorem AW.andThen{P:Program}{a b:Code}{Q:Exit→Tm→St→Prop}{L:Tm→Prop}{T:Tm}{st s:St}(h:AW P a (fun ex T' st'=>ex= .normal∧L T'∧st'=s) T st)(k:∀T',L T'→AW P b Q T' s):AW P (.seq a b) Q T st:=
  .seq (h.mono fun ex T' st' ⟨h1,h2,h3⟩=>by
    subst h1;subst h3
    exact k T' h2)
theorem AW.atRet{P:Program}{a:Code}{Q:Exit→Tm→St→Prop}{L:Tm→Prop}{T:Tm}{st s:St}(h:AW P a (fun ex T' st'=>ex= .ret∧L T'∧st'=s) T st)(k:∀T',L T'→Q .ret T' s):AW P a Q T st:=
  h.mono fun ex T' st' ⟨h1,h2,h3⟩=>by
    subst h1;subst h3
    exact k T' h2
theorem AW.retThen{P:Program}{a b:Code}{Q:Exit→Tm→St→Prop}{L:Tm→Prop}{T:Tm}{st s:St}(h:AW P a (fun ex T' st'=>ex= .ret∧L T'∧st'=s) T st)(k:∀T',L T'→Q .ret T' s):AW P (.seq a b) Q T st:=
  .seq (h.mono fun ex T' st' ⟨h1,h2,h3⟩=>by
    subst h1;subst h3
    exact k T' h2)
end
section
set_option maxRecDepth 4000
/-! ### code in rounds of a range over a function, and with deferred calls pending -/
abbrev FR(ro:Option Nat):Fence:={Fence.wide with round:=ro}
abbrev noD(a:Act):Act:={a with defers:= []}
def PostD(g:G)(st:St)(w:World)(ds:List Deferred)(Q:Exit→Tm→St→Prop):Exit→Act→World→Prop:=fun e a' w'=>a'.defers=ds∧Post g st w Q e (noD a') w'
def AWG(ro:Option Nat)(P:Program)(c:Code)(Q:Exit→Tm→St→Prop)(T:Tm)(st:St):Prop:=
  ∀g w a,OK g st w→TR g T (noD a)→c.wpIn (FR ro) 0 P (PostD g st w a.defers Q) a w
theorem callsFR{ro:Option Nat}{n:Nat}{P:Program}{f:Nat}{us:Array Value}{w:World}{R:Ending→World→Prop}(h:Calls P f us w R):CallsIn (FR ro) n P f us w R:=by
  cases ro with
  |none=>exact callsIn_wide.2 h
  |some l=>exact CallsIn.inRound l (callsIn_wide.2 h)
theorem evOp_nd{E:Env}{op:Op}{T:Tm}{st:St}{r:EV}(h:evOp E op T st=some r):∀c,op≠ .defer c:=fun c e=>by
  subst e
  simp [evOp,pureA] at h
theorem put_defers(a:Act)(d:Option Nat)(u:Value):(a.put d u).defers=a.defers:=by cases d<;>rfl
theorem noD_put(a:Act)(d:Option Nat)(u:Value):noD (a.put d u)=(noD a).put d u:=by cases d<;>rfl
theorem PostD.trans{g g1:G}{st st1:St}{w w1:World}{ds:List Deferred}{Q:Exit→Tm→St→Prop}(h:Step g st w g1 st1 w1){e:Exit}{a':Act}{w':World}(k:PostD g1 st1 w1 ds Q e a' w'):PostD g st w ds Q e a' w':=⟨k.1,k.2.trans h⟩
section
variable {P:Program} {Q:Exit→Tm→St→Prop} {T:Tm} {st:St} {ro:Option Nat}
theorem AOps.okIn{E:Env}(hE:EOK' P E){ops:Array Oper}{ds:List Deferred}:∀(l:List Oper) {T:Tm} {st:St},AOps P E ops Q l T st→∀{g0 g:G} {st0:St} {w0 w:World} {a:Act},Step g0 st0 w0 g st w→TR g T (noD a)→a.defers=ds→wpListIn (FR ro) 0 P ops (PostD g0 st0 w0 ds Q) l a w
  | [],T,st,h,g0,g,st0,w0,w,a,hs,hT,hd=>wpListIn_nil ⟨hd,g,T,st,hs,hT,h⟩
  |o::rest,T,st,h,g0,g,st0,w0,w,a,hs,hT,hd=>by
    simp only [AOps] at h
    unfold wpListIn
    split at h
    · rename_i hw
      rw [if_pos (wantedA_ok hw hT)]
      refine ⟨fun _ _=>trivial,?_⟩
      split at h
      · rename_i av st' he
        rw [Oper.semAt_eq _ _ _ (evOp_nd he)]
        obtain ⟨u,w',g',h1,h2,h3⟩:=evOp_ok hE he hs.ok hT
        have h1:(execOp a.eval o).run P w=_:=h1
        rw [h1]
        exact AOps.okIn hE rest h.2 (hs.trans h2) (by rw [noD_put];exact (hT.mono h2.le).put h.1 h3) (by rw [put_defers];exact hd)
      · rename_i st' he
        rw [Oper.semAt_eq _ _ _ (evOp_nd he)]
        obtain ⟨w',g',h1,h2⟩:=evOp_ok hE he hs.ok hT
        have h1:(execOp a.eval o).run P w=_:=h1
        rw [h1]
        exact AOps.okIn hE rest h.2 (hs.trans h2) (by rw [noD_put];exact (hT.mono h2.le).put h.1 (VR.tup0 _)) (by rw [put_defers];exact hd)
      · rename_i l he
        rw [Oper.semAt_eq _ _ _ (evOp_nd he)]
        obtain ⟨q,hq,u,w',g',h1,h2,h3⟩:=evOp_ok hE he hs.ok hT
        have h1:(execOp a.eval o).run P w=_:=h1
        rw [h1]
        exact AOps.okIn hE rest (h.2 q hq) (hs.trans h2) (by rw [noD_put];exact (hT.mono h2.le).put h.1 h3) (by rw [put_defers];exact hd)
      · rename_i f args he
        rw [Oper.semAt_eq _ _ _ (evOp_nd he)]
        obtain ⟨us,h1,h2⟩:=evOp_ok hE he hs.ok hT
        have h1:(execOp a.eval o).run P w=_:=h1
        rw [h1]
        refine ⟨fun hh=>(by cases hh),callsFR ((h.2 g w us hs.ok h2).mono fun e w' k=> ?_)⟩
        obtain ⟨g',st',r,v,rfl,k1,k2,k3⟩:=k
        exact AOps.okIn hE rest k3 (hs.trans k1) (by rw [noD_put];exact (hT.mono k1.le).put h.1 k2) (by rw [put_defers];exact hd)
      · exact h.elim
    · rename_i hw
      rw [if_neg (by rw [wantedA_ok hw hT];simp)]
      exact ⟨fun _ _=>trivial,AOps.okIn hE rest h.2 hs (by rw [noD_put];exact hT.put h.1 (VR.tup0 _)) (by rw [put_defers];exact hd)⟩
    · exact h.elim
theorem AWG.region{E:Env}(hE:EOK' P E){id:Nat}{ops:Array Oper}(h:AOps P E ops Q ops.toList T st):AWG ro P (.region id ops false) Q T st:=
  fun _ _ _ hok hT=>wpIn_region_list (AOps.okIn hE ops.toList h (.refl hok) hT rfl)
theorem AWG.mono{c:Code}{Q':Exit→Tm→St→Prop}(h:AWG ro P c Q T st)(hq:∀e T st,Q e T st→Q' e T st):AWG ro P c Q' T st:=
  fun g w a hok hT=>wpIn_mono (h g w a hok hT) fun _ _ _ k=>⟨k.1,k.2.mono hq⟩
theorem PostD.now{g:G}{w:World}{a:Act}(hok:OK g st w)(hT:TR g T (noD a)){e:Exit}(h:Q e T st):PostD g st w a.defers Q e a w:=⟨rfl,g,T,st,.refl hok,hT,h⟩
theorem AWG.skip(h:Q .normal T st):AWG ro P .skip Q T st:=fun _ _ _ hok hT=>wpIn_skip (.now hok hT h)
theorem AWG.ret(h:Q .ret T st):AWG ro P .ret Q T st:=fun _ _ _ hok hT=>wpIn_ret (.now hok hT h)
theorem AWG.exit{id:Nat}(h:Q (.exit id) T st):AWG ro P (.exit id) Q T st:=fun _ _ _ hok hT=>wpIn_exit (.now hok hT h)
theorem AWG.seq{x y:Code}(h:AWG ro P x (thenA (AWG ro P y Q) Q) T st):AWG ro P (.seq x y) Q T st:=by
  intro g w a hok hT
  refine wpIn_seq (wpIn_mono (h g w a hok hT) fun e a' w' k=> ?_)
  obtain ⟨kd,g',T',st',k1,k2,k3⟩:=k
  cases e with
  |normal=>exact wpIn_mono (k3 g' w' a' k1.ok k2) fun _ _ _ q=>(by rw [kd] at q;exact .trans k1 q)
  |_=>exact ⟨kd,g',T',st',k1,k2,k3⟩
theorem AWG.cond{c:Operand}{x y:Code}{b:Bool}(hc:T.eval c= .val (.bool b))(h:AWG ro P (if b then x else y) Q T st):AWG ro P (.cond c x y) Q T st:=by
  intro g w a hok hT
  have hv:=hT.eval c
  rw [hc] at hv
  exact wpIn_cond hv.val_inv (h g w a hok hT)
theorem AWG.block{id:Nat}{c:Code}(h:AWG ro P c (blockA id Q) T st):AWG ro P (.block id c) Q T st:=by
  intro g w a hok hT
  refine wpIn_block (wpIn_mono (h g w a hok hT) fun e a' w' k=> ?_)
  obtain ⟨kd,g',T',st',k1,k2,k3⟩:=k
  cases e with
  |exit id'=>
    simp only [Exit.inBlock,blockA] at k3⊢
    split
    · rename_i e;rw [if_pos e] at k3;exact ⟨kd,g',T',st',k1,k2,k3⟩
    · rename_i e;rw [if_neg e] at k3;exact ⟨kd,g',T',st',k1,k2,k3⟩
  |_=>exact ⟨kd,g',T',st',k1,k2,k3⟩
end
end
section
set_option maxRecDepth 4000
theorem heapA(w:World)(o:Obj)(k:Nat)(h:k<w.heap.size):(w.alloc o).heap[k]? =w.heap[k]? :=by
  show (w.heap.push o)[k]? =_
  rw [Array.getElem?_push,if_neg (by omega)]
/-! ### a range over a function -/
def farB:Obj→Bool
  | .loop _=>true
  | .deferred _=>true
  |_=>false
theorem OK.far{g:G}{st:St}{w:World}{l:Nat}{o0:Obj}(h:OK g st w)(hl:w.heap[l]? =some o0)(hf:farB o0=true):(∀id o,st.get id=some o→g.blk id≠l)∧g.M l= []:=by
  refine ⟨fun id o ho e=> ?_,?_⟩
  · have h2:=(h.obj id o ho).2
    subst e
    cases o with
    |row vs ty=>obtain ⟨cs,fr,us,h3,_⟩:=h2;rw [hl] at h3;cases h3;cases hf
    |map es bs c=>obtain ⟨es',h3,_⟩:=h2;rw [hl] at h3;cases h3;cases hf
    |iter m a b c=>obtain ⟨h3,_⟩:=h2;rw [hl] at h3;cases h3;cases hf
    |siter s p=>obtain ⟨h3,_⟩:=h2;rw [hl] at h3;cases h3;cases hf
  · by_cases e:g.M l= []
    · exact e
    · obtain ⟨cs,T,fr,h3,_⟩:=h.imm l e
      rw [hl] at h3;cases h3;cases hf
theorem far_step{g g':G}{st st':St}{w w':World}{l:Nat}{o0:Obj}(h:OK g st w)(hs:Step g st w g' st' w')(hl:w.heap[l]? =some o0)(hf:farB o0=true):w'.heap[l]? =some o0:=by
  rw [hs.frame l (Array.getElem?_eq_some_iff.1 hl).1 fun id o ho=>(h.far hl hf).1 id o (St.wget_get ho).1]
  exact hl
theorem OK.put{g:G}{st:St}{w:World}{l:Nat}{o0:Obj}(h:OK g st w)(hl:w.heap[l]? =some o0)(hf:farB o0=true)(o1:Obj):OK g st (w.putObj l o1):=by
  obtain ⟨h1,h2⟩:=h.far hl hf
  exact ⟨fun b hb=>by rw [World.putObj_heap_other (fun e=>hb (by rw [e];exact h2))];exact h.imm b hb,fun id o ho=>⟨(h.obj id o ho).1,(h.obj id o ho).2.keep (.refl g) (h.lt ho).1 (World.putObj_heap_other (h1 id o ho))⟩,h.inj,h.sep,h.n,h.glob⟩
theorem Step.putFar{g0 g:G}{st0 st:St}{w0 w:World}{l:Nat}{o0:Obj}(hs:Step g0 st0 w0 g st w)(hb:w0.heap.size≤l)(hl:w.heap[l]? =some o0)(hf:farB o0=true)(o1:Obj):Step g0 st0 w0 g st (w.putObj l o1):=
  ⟨hs.le,hs.ok.put hl hf o1,hs.os,hs.tape,hs.output,by rw [World.putObj_size];exact hs.size,fun b hb2 hn=>by rw [World.putObj_heap_other (by omega)];exact hs.frame b hb2 hn,hs.from_,hs.froz,hs.lock,hs.gl⟩
theorem OK.allocFar{g:G}{st:St}{w:World}(h:OK g st w)(o:Obj):OK g st (w.alloc o):=
  ⟨fun b hb=>by
    obtain ⟨cs,T,fr,h1,h2⟩:=h.imm b hb
    exact ⟨cs,T,fr,by rw [heapA _ _ _ (Array.getElem?_eq_some_iff.1 h1).1];exact h1,h2⟩,fun id o' ho=>⟨(h.obj id o' ho).1,(h.obj id o' ho).2.keep (.refl g) (h.lt ho).1 (heapA _ _ _ (h.lt ho).2)⟩,h.inj,h.sep,h.n,h.glob⟩
theorem Step.allocFar{g0 g:G}{st0 st:St}{w0 w:World}(hs:Step g0 st0 w0 g st w)(o:Obj):Step g0 st0 w0 g st (w.alloc o):=
  ⟨hs.le,hs.ok.allocFar o,hs.os,hs.tape,hs.output,by have:=hs.size;simp only [World.size_alloc];omega,fun b hb hn=>by rw [heapA _ _ _ (Nat.lt_of_lt_of_le hb hs.size)];exact hs.frame b hb hn,hs.from_,hs.froz,hs.lock,hs.gl⟩
/-- the loop's record and the block for the rounds' deferred calls -/
structure RR (l D:Nat) (r:Loop) (w:World):Prop where
  l:w.heap[l]? =some (.loop r)
  d:w.heap[D]? =some (.deferred (some []))
theorem RR.step{g g':G}{st st':St}{w w':World}{l D:Nat}{r:Loop}(h:RR l D r w)(hok:OK g st w)(hs:Step g st w g' st' w'):RR l D r w':=
  ⟨far_step hok hs h.l rfl,far_step hok hs h.d rfl⟩
theorem RR.ne{l D:Nat}{r:Loop}{w:World}(h:RR l D r w):D≠l:=fun e=>by
  have h1:=h.l;rw [←e,h.d] at h1;cases h1
theorem RR.put{l D:Nat}{r:Loop}{w:World}(h:RR l D r w)(r':Loop):RR l D r' (w.putObj l (.loop r')):=
  ⟨World.putObj_heap_same (Array.getElem?_eq_some_iff.1 h.l).1,by rw [World.putObj_heap_other h.ne];exact h.d⟩
def recOf(fn:FuncId)(tmps:Array Value)(p:Nat)(assign body:Code)(D:Nat)(b:Option Code):Loop:=
  { state:=if b.isNone then .ready else .done,pending:=b,fn,tmps,params:= #[p],assign,body,defers:=D}
/-! ### code in a round: nothing is deferred there -/
def AWR(ro:Option Nat)(P:Program)(c:Code)(Q:Exit→Tm→St→Prop)(T:Tm)(st:St):Prop:=
  ∀g w a,OK g st w→TR g T a→c.wpIn (FR ro) 0 P (Post g st w Q) a w
theorem AWG.toR{ro:Option Nat}{P:Program}{c:Code}{Q:Exit→Tm→St→Prop}{T:Tm}{st:St}(h:AWG ro P c Q T st):AWR ro P c Q T st:=by
  intro g w a hok hT
  have e:noD a=a:=by have:=hT.defers;cases a;simp only at this;subst this;rfl
  refine wpIn_mono (h g w a hok (by rw [e];exact hT)) fun x a' w' k=> ?_
  have e2:noD a'=a':=by have:=k.1.trans hT.defers;cases a';simp only at this;subst this;rfl
  have:=k.2
  rw [e2] at this
  exact this
section
variable {P:Program} {Q:Exit→Tm→St→Prop} {T:Tm} {st:St} {ro:Option Nat}
theorem AWR.mono{c:Code}{Q':Exit→Tm→St→Prop}(h:AWR ro P c Q T st)(hq:∀e T st,Q e T st→Q' e T st):AWR ro P c Q' T st:=
  fun g w a hok hT=>wpIn_mono (h g w a hok hT) fun _ _ _ k=>k.mono hq
theorem AWR.region{E:Env}(hE:EOK' P E){id:Nat}{ops:Array Oper}(h:AOps P E ops Q ops.toList T st):AWR ro P (.region id ops false) Q T st:=(AWG.region hE h).toR
theorem AWR.skip(h:Q .normal T st):AWR ro P .skip Q T st:=(AWG.skip h).toR
theorem AWR.ret(h:Q .ret T st):AWR ro P .ret Q T st:=(AWG.ret h).toR
theorem AWR.exit{id:Nat}(h:Q (.exit id) T st):AWR ro P (.exit id) Q T st:=(AWG.exit h).toR
theorem AWR.seq{x y:Code}(h:AWR ro P x (thenA (AWR ro P y Q) Q) T st):AWR ro P (.seq x y) Q T st:=by
  intro g w a hok hT
  refine wpIn_seq (wpIn_mono (h g w a hok hT) fun e a' w' k=> ?_)
  obtain ⟨g',T',st',k1,k2,k3⟩:=k
  cases e with
  |normal=>exact wpIn_mono (k3 g' w' a' k1.ok k2) fun _ _ _ q=> .trans k1 q
  |_=>exact ⟨g',T',st',k1,k2,k3⟩
theorem AWR.cond{c:Operand}{x y:Code}{b:Bool}(hc:T.eval c= .val (.bool b))(h:AWR ro P (if b then x else y) Q T st):AWR ro P (.cond c x y) Q T st:=by
  intro g w a hok hT
  have hv:=hT.eval c
  rw [hc] at hv
  exact wpIn_cond hv.val_inv (h g w a hok hT)
theorem AWR.block{id:Nat}{c:Code}(h:AWR ro P c (blockA id Q) T st):AWR ro P (.block id c) Q T st:=by
  intro g w a hok hT
  refine wpIn_block (wpIn_mono (h g w a hok hT) fun e a' w' k=> ?_)
  obtain ⟨g',T',st',k1,k2,k3⟩:=k
  cases e with
  |exit id'=>
    simp only [Exit.inBlock,blockA] at k3⊢
    split
    · rename_i e;rw [if_pos e] at k3;exact ⟨g',T',st',k1,k2,k3⟩
    · rename_i e;rw [if_neg e] at k3;exact ⟨g',T',st',k1,k2,k3⟩
  |_=>exact ⟨g',T',st',k1,k2,k3⟩
/-! a region whose order is drawn -/
theorem rowsFR{n:Nat}{row:String}{us:Array Value}{w:World}{R:Value→World→Prop}(h:Rows P row us w R):RowsIn (FR ro) n P row us w R:=fun c cs _=>by
  obtain ⟨v,w',r,s⟩:=h c cs
  refine ⟨v,w',r,?_⟩
  cases ro<;>exact stepsIn_wide.2 s
theorem wpOp_FR{ops:Array Oper}{Q Q':Exit→Act→World→Prop}{i:Nat}{K K':Act→World→Prop}{a:Act}{w:World}(hnd:∀o,ops[i]? =some o→∀c,o.op≠ .defer c)(hlo:¬LetsOut Q)(hp:∀c a w,Q (.panic c) a w→Q' (.panic c) a w)(hK:∀a w,K a w→K' a w)(h:wpOp P ops Q i K a w):wpOpIn (FR ro) 0 P ops Q' i K' a w:=by
  unfold wpOp at h
  unfold wpOpIn
  cases ho:ops[i]? with
  |none=>simp only [ho] at h⊢;exact hK _ _ h
  |some o=>
    simp only [ho] at h⊢
    by_cases hw:Region.wanted o (yielded ops a.tmps)=true
    · rw [if_pos hw] at h⊢
      have h:=h.resolve_right (fun x=>hlo x.2)
      refine ⟨(fun f hf=>by cases ro<;>trivial),?_⟩
      rw [Oper.semAt_eq _ _ _ (hnd o ho)]
      unfold Oper.wp at h
      generalize (execOp a.eval o).run P w=r at*
      cases r with
      |ok x w'=>
        cases x with
        |value v=>exact hK _ _ h
        |skip=>exact hK _ _ h
        |defer d=>exact hK _ _ h
        |enter f args=>
          refine ⟨(fun hh=>by cases ro<;>cases hh),callsFR (Calls.mono h fun e w'' k=> ?_)⟩
          cases e with
          |returned v=>exact hK _ _ k
          |panicked c=>exact hp _ _ _ k
          |outgrown=>exact absurd k hlo
        |row r args=>exact ⟨(fun hh=>by cases ro<;>cases hh),rowsFR (Rows.mono h fun v w'' k=>hK _ _ k)⟩
        |_=>exact h.elim
      |halt x w'=>
        cases x with
        |panic v=>exact hp _ _ _ h
        |_=>exact h.elim
    · rw [if_neg hw] at h⊢
      exact ⟨(fun f hf=>by cases ro<;>trivial),hK _ _ h⟩
theorem wpAny_FR{ops:Array Oper}{Q Q':Exit→Act→World→Prop}(hnd:∀(i:Nat) (o:Oper),ops[i]? =some o→∀c,o.op≠ .defer c)(hlo:¬LetsOut Q)(hp:∀c a w,Q (.panic c) a w→Q' (.panic c) a w)(hn:∀a w,Q .normal a w→Q' .normal a w):∀(fuel:Nat) (listed:Array Bool) (a:Act) (w:World),wpAny P .any ops Q fuel listed a w→wpAnyIn (FR ro) 0 P .any ops Q' fuel listed a w
  |0,_,_,_,h=>⟨h.1,hn _ _ h.2⟩
  |fuel+1,_,_,_,h=>⟨fun e=>hn _ _ (h.1 e),fun i hi=>wpOp_FR (hnd i) hlo hp (fun a w k=>wpAny_FR hnd hlo hp hn fuel _ a w k) (h.2 i hi)⟩
theorem AWR.drawn{E:Env}(hE:EOK' P E)(hm:P.follows .mixedOrders=true){id:Nat}{ops:Array Oper}(hsel:Region.noSelect ops=true)(hnd:∀o∈ops.toList,∀c,o.op≠ .defer c)(ids plan:List Nat)(hids:ids.all (· <st.next)=true)(hp:plan.length=ops.size)
    (h:ADr P E ops ids Q plan (Array.replicate ops.size false) T st):AWR ro P (.region id ops true) Q T st:=by
  intro g w a hok hT
  have hidle:Step g st w g st {w with drawn:=w.drawn+1}:=step_idle hok rfl rfl rfl rfl
  refine wpIn_region_any hm ?_
  refine wpAny_FR (Q:=fun e a w'=>match e with| .normal=>Post g st w Q .normal a w'|_=>False) (fun i o ho=>hnd o (by rw [Array.mem_toList_iff];exact Array.mem_of_getElem? ho)) (fun x=>x.elim fun _ y=>y.elim fun _ z=>z) (fun _ _ _ x=>x.elim) (fun _ _ x=>x) _ _ _ _ ?_
  refine wpAny_of_G _ _ _ _ (ADr.ok hE hsel (ids:=ids) (Q:=Q) (g0:=g) (st0:=st) (w0:={w with drawn:=w.drawn+1}) (fun id hid=> ?_) (fun c a w hh=>hh) ?_ plan _ T st h (.refl hidle.ok) hT (fun _ id _=>rfl) _ hp)
  · rw [hok.n]
    simpa using List.all_eq_true.1 hids id hid
  · intro g' T' st' w' a' h1 h2 h3
    exact ⟨g',T',st',hidle.trans h1,h2,h3⟩
end
/-- one round, told by its code: how it may be left -/
def RoundA(P:Program)(p:Nat)(assign body:Code)(T0:Tm)(x:AV)(st:St)(K:Option Code→St→Prop):Prop:=
  T0.fits (some p)=true∧∀l,AWR (some l) P assign (fun e T1 st1=>e= .normal∧AWR (some l) P body (fun e2 _ st2=>match e2 with
    | .normal=>K none st2
    | .ret=>K (some .ret) st2
    | .exit id=>K (some (.exit id)) st2
    |_=>False) T1 st1) (T0.put (some p) x) st
theorem roundA_ok{P:Program}{p:Nat}{assign body:Code}{T0:Tm}{x:AV}{st:St}{K:Option Code→St→Prop}(h:RoundA P p assign body T0 x st K){g0 g gE:G}{st0:St}{w0 w:World}{l D fn:Nat}{tmps:Array Value}{v:Value}
    (hs:Step g0 st0 w0 g st w) (hb:w0.heap.size≤l) (hr:RR l D (recOf fn tmps p assign body D none) w) (hT:TR gE T0 ⟨tmps,[]⟩) (hg:gE.le g) (hv:VR g x v):
    RoundIn Fence.wide 0 P l fn (((#[p]:Array Nat).zip #[v]).foldl (fun t (p,v)=>t.setIfInBounds p v) tmps) assign body w fun e W'=>∃(b:Option Code) (g':G) (st':St),e= .returned (.bool b.isNone)∧Step g0 st0 w0 g' st' W'∧g.le g'∧RR l D (recOf fn tmps p assign body D b) W'∧K b st':=by
  obtain ⟨hp,h⟩:=h
  have hT1:TR g (T0.put (some p) x) ⟨tmps.setIfInBounds p v,[]⟩:=(hT.mono hg).put hp hv
  have e0:((#[p]:Array Nat).zip #[v]).foldl (fun t (x:Nat×Value)=>t.setIfInBounds x.1 x.2) tmps=tmps.setIfInBounds p v:=by rw [←Array.foldl_toList,Array.toList_zip];rfl
  refine roundIn_of_wpIn trivial ?_
  rw [e0]
  have h1:=h l g w ⟨tmps.setIfInBounds p v,[]⟩ hs.ok hT1
  refine wpIn_mono (F:=Fence.wide.inRound l) h1 fun e a1 w1 k=> ?_
  obtain ⟨g1,T1,st1,k1,k2,rfl,k3⟩:=k
  have r1:=hr.step hs.ok k1
  have s1:=hs.trans k1
  refine ⟨_,run_beginRound r1.l rfl,?_⟩
  have s2:=s1.putFar hb r1.l rfl (.loop {recOf fn tmps p assign body D none with state:= .busy})
  have r2:=r1.put {recOf fn tmps p assign body D none with state:= .busy}
  refine wpIn_mono (k3 g1 _ a1 s2.ok k2) fun e2 a2 w2 q=> ?_
  obtain ⟨g2,T2,st2,q1,q2,q3⟩:=q
  have r3:=r2.step s2.ok q1
  have s3:=s2.trans q1
  have fin:∀b:Option Code,K b st2→∃v w',(Instr.endRound l b).run P w2= .ok v w'∧∃(b:Option Code) (g':G) (st':St),Ending.returned v= .returned (.bool b.isNone)∧Step g0 st0 w0 g' st' w'∧g.le g'∧RR l D (recOf fn tmps p assign body D b) w'∧K b st':=fun b hk=>
    ⟨_,_,run_endRound b r3.l,b,g2,st2,rfl,s3.putFar hb r3.l rfl _,k1.le.trans q1.le,r3.put (recOf fn tmps p assign body D b),hk⟩
  cases e2 with
  |normal=>exact fin none q3
  |ret=>exact fin (some .ret) q3
  |exit id=>exact fin (some (.exit id)) q3
  |_=>exact q3.elim
end
section
set_option maxRecDepth 4000
/-! ### the iterator's code, and the range over it -/
structure YK where
  l:Nat
  D:Nat
  fn:Nat
  tmps:Array Value
  p:Nat
  assign:Code
  body:Code
  gE:G
def YK.recd(y:YK)(b:Option Code):Loop:=recOf y.fn y.tmps y.p y.assign y.body y.D b
def PostY(y:YK)(g0:G)(st0:St)(w0:World)(gs:G)(Q:Option Code→Exit→Tm→St→Prop):Exit→Act→World→Prop:=
  fun e a' w'=>∃b g' T' st',Step g0 st0 w0 g' st' w'∧gs.le g'∧RR y.l y.D (y.recd b) w'∧TR g' T' a'∧Q b e T' st'
def AWY(y:YK)(P:Program)(b:Option Code)(c:Code)(Q:Option Code→Exit→Tm→St→Prop)(T:Tm)(st:St):Prop:=
  ∀g0 st0 w0 g w a,Step g0 st0 w0 g st w→w0.heap.size≤y.l→y.gE.le g→RR y.l y.D (y.recd b) w→TR g T a→c.wp P (PostY y g0 st0 w0 g Q) a w
theorem PostY.le{y:YK}{g0:G}{st0:St}{w0:World}{g1 g2:G}(h:g1.le g2){Q:Option Code→Exit→Tm→St→Prop}{e:Exit}{a:Act}{w:World}(k:PostY y g0 st0 w0 g2 Q e a w):PostY y g0 st0 w0 g1 Q e a w:=by
  obtain ⟨b,g',T',st',k1,k2,k3,k4,k5⟩:=k
  exact ⟨b,g',T',st',k1,h.trans k2,k3,k4,k5⟩
section
variable {y:YK} {P:Program} {b:Option Code} {Q:Option Code→Exit→Tm→St→Prop} {T:Tm} {st:St}
theorem AWY.of{c:Code}(h:AW P c (Q b) T st):AWY y P b c Q T st:=
  fun g0 st0 w0 g w a hs hl hg hr hT=>wp_mono (h g w a hs.ok hT) fun e a' w' ⟨g',T',st',k1,k2,k3⟩=>⟨b,g',T',st',hs.trans k1,k1.le,hr.step hs.ok k1,k2,k3⟩
theorem AWY.mono{c:Code}{Q':Option Code→Exit→Tm→St→Prop}(h:AWY y P b c Q T st)(hq:∀b e T st,Q b e T st→Q' b e T st):AWY y P b c Q' T st:=
  fun g0 st0 w0 g w a hs hl hg hr hT=>wp_mono (h g0 st0 w0 g w a hs hl hg hr hT) fun e a' w' ⟨b,g',T',st',k1,k2,k3,k4,k5⟩=>⟨b,g',T',st',k1,k2,k3,k4,hq _ _ _ _ k5⟩
theorem AWY.seq{x z:Code}(h:AWY y P b x (fun b'=>thenA (fun T st=>AWY y P b' z Q T st) (Q b')) T st):AWY y P b (.seq x z) Q T st:=by
  intro g0 st0 w0 g w a hs hl hg hr hT
  refine wp_seq (wp_mono (h g0 st0 w0 g w a hs hl hg hr hT) fun e a' w' k=> ?_)
  obtain ⟨b',g',T',st',k1,k2,k3,k4,k5⟩:=k
  cases e with
  |normal=>exact wp_mono (k5 g0 st0 w0 g' w' a' k1 hl (hg.trans k2) k3 k4) fun _ _ _ q=>q.le k2
  |_=>exact ⟨b',g',T',st',k1,k2,k3,k4,k5⟩
theorem AWY.block{id:Nat}{c:Code}(h:AWY y P b c (fun b'=>blockA id (Q b')) T st):AWY y P b (.block id c) Q T st:=by
  intro g0 st0 w0 g w a hs hl hg hr hT
  refine wp_block (wp_mono (h g0 st0 w0 g w a hs hl hg hr hT) fun e a' w' k=> ?_)
  obtain ⟨b',g',T',st',k1,k2,k3,k4,k5⟩:=k
  cases e with
  |exit id'=>
    simp only [Exit.inBlock,blockA] at k5⊢
    split
    · rename_i e;rw [if_pos e] at k5;exact ⟨b',g',T',st',k1,k2,k3,k4,k5⟩
    · rename_i e;rw [if_neg e] at k5;exact ⟨b',g',T',st',k1,k2,k3,k4,k5⟩
  |_=>exact ⟨b',g',T',st',k1,k2,k3,k4,k5⟩
theorem AWY.loop{c:Code}(I:Nat→Option Code→Tm→St→Prop)(n:Nat)(h:I n b T st)(round:∀n b T st,I n b T st→AWY y P b c (fun b'=>thenA (fun T' st'=>∃m,m<n∧I m b' T' st') (Q b')) T st):AWY y P b (.loop c) Q T st:=by
  intro g0 st0 w0 g w a hs hl hg hr hT
  refine wp_loop_ghost (fun n a' w'=>∃b' g' T' st',Step g0 st0 w0 g' st' w'∧g.le g'∧RR y.l y.D (y.recd b') w'∧TR g' T' a'∧I n b' T' st') n ⟨b,g,T,st,hs,.refl g,hr,hT,h⟩ fun n a' w' k=> ?_
  obtain ⟨b',g',T',st',k1,k2,k3,k4,k5⟩:=k
  refine wp_mono (round n b' T' st' k5 g0 st0 w0 g' w' a' k1 hl (hg.trans k2) k3 k4) fun e a2 w2 q=> ?_
  obtain ⟨b2,g2,T2,st2,q1,q2,q3,q4,q5⟩:=q
  cases e with
  |normal=>
    obtain ⟨m,hm,hI⟩:=q5
    exact ⟨m,hm,b2,g2,T2,st2,q1,k2.trans q2,q3,q4,hI⟩
  |_=>exact ⟨b2,g2,T2,st2,q1,k2.trans q2,q3,q4,q5⟩
end
/-! the call of yield -/
theorem AOps.okK{P:Program}{E:Env}(hE:EOK' P E){ops:Array Oper}{R:Exit→Act→World→Prop}{Q:Exit→Tm→St→Prop}{tail:List Oper}:∀(l:List Oper) {T:Tm} {st:St},AOps P E ops Q l T st→∀{g0 g:G} {st0:St} {w0 w:World} {a:Act},Step g0 st0 w0 g st w→TR g T a→
    (∀g' T' st' w' a',Step g0 st0 w0 g' st' w'→TR g' T' a'→Q .normal T' st'→wpListIn (FR none) 0 P ops R tail a' w')→wpListIn (FR none) 0 P ops R (l++tail) a w
  | [],T,st,h,g0,g,st0,w0,w,a,hs,hT,K=>K g T st w a hs hT h
  |o::rest,T,st,h,g0,g,st0,w0,w,a,hs,hT,K=>by
    simp only [AOps] at h
    rw [List.cons_append]
    unfold wpListIn
    split at h
    · rename_i hw
      rw [if_pos (wantedA_ok hw hT)]
      refine ⟨fun _ _=>trivial,?_⟩
      split at h
      · rename_i av st' he
        rw [Oper.semAt_eq _ _ _ (evOp_nd he)]
        obtain ⟨u,w',g',h1,h2,h3⟩:=evOp_ok hE he hs.ok hT
        rw [h1]
        exact AOps.okK hE rest h.2 (hs.trans h2) ((hT.mono h2.le).put h.1 h3) K
      · rename_i st' he
        rw [Oper.semAt_eq _ _ _ (evOp_nd he)]
        obtain ⟨w',g',h1,h2⟩:=evOp_ok hE he hs.ok hT
        rw [h1]
        exact AOps.okK hE rest h.2 (hs.trans h2) ((hT.mono h2.le).put h.1 (VR.tup0 _)) K
      · rename_i l he
        rw [Oper.semAt_eq _ _ _ (evOp_nd he)]
        obtain ⟨q,hq,u,w',g',h1,h2,h3⟩:=evOp_ok hE he hs.ok hT
        rw [h1]
        exact AOps.okK hE rest (h.2 q hq) (hs.trans h2) ((hT.mono h2.le).put h.1 h3) K
      · rename_i f args he
        rw [Oper.semAt_eq _ _ _ (evOp_nd he)]
        obtain ⟨us,h1,h2⟩:=evOp_ok hE he hs.ok hT
        rw [h1]
        refine ⟨fun hh=>(by cases hh),callsFR ((h.2 g w us hs.ok h2).mono fun e w' k=> ?_)⟩
        obtain ⟨g',st',r,v,rfl,k1,k2,k3⟩:=k
        exact AOps.okK hE rest k3 (hs.trans k1) ((hT.mono k1.le).put h.1 k2) K
      · exact h.elim
    · rename_i hw
      rw [if_neg (by rw [wantedA_ok hw hT];simp)]
      exact ⟨fun _ _=>trivial,AOps.okK hE rest h.2 hs (hT.put h.1 (VR.tup0 _)) K⟩
    · exact h.elim
theorem run_callYield{P:Program}{ρ:Operand→Value}{o:Oper}{f x:Operand}{ts:Array TypeId}{l:Nat}{r:Loop}{w:World}(ho:o.op= .call ⟨.value f, #[x],ts⟩)(hf:ρ f= .func (.yield l) #[] #[])(hl:w.heap[l]? =some (.loop r))(hp:r.params.size=1):
    (execOp ρ o).run P w= .ok (.round l r.fn ((r.params.zip #[ρ x]).foldl (fun tmps (t,a)=>tmps.setIfInBounds t a) r.tmps) r.assign r.body) w:=by
  unfold execOp
  simp only [ho,resolve,hf,Deferred.ofValue,Sem.run_bind,Sem.run_pure,Result.andThen_ok,invoke]
  have:=run_yield (P:=P) (args:= #[ρ x]) hl (by rw [hp];rfl)
  simpa using this
theorem AWY.yield{y:YK}{P:Program}{E:Env}(hE:EOK' P E){id:Nat}{ops:Array Oper}{pre post:List Oper}{o:Oper}{f x:Operand}{ts:Array TypeId}{Q:Option Code→Exit→Tm→St→Prop}{T T0:Tm}{st:St}(hops:ops.toList=pre++o::post)(ho:o.op= .call ⟨.value f, #[x],ts⟩)(hgd:o.guard=none)
    (hT0:TR y.gE T0 ⟨y.tmps,[]⟩)
    (h:AOps P E ops (fun e T' st'=>T'.eval f= .fn (.yield y.l) [] []∧T'.fits o.dst=true∧∃K:Option Code→St→Prop,RoundA P y.p y.assign y.body T0 (T'.eval x) st' K∧∀b st2,K b st2→AOps P E ops (Q b) post (T'.put o.dst (.val (.bool b.isNone))) st2) pre T st):AWY y P none (.region id ops false) Q T st:=by
  intro g0 st0 w0 g w a hs hl hg hr hT
  refine (wpIn_wide (n:=0)).1 (wpIn_region_list (F:=FR none) ?_)
  rw [hops]
  refine AOps.okK hE pre h (.refl hs.ok) hT fun g1 T1 st1 w1 a1 k1 k2 k3=> ?_
  obtain ⟨hf,hd,K,hR,hK⟩:=k3
  have s1:=hs.trans k1
  have r1:=hr.step hs.ok k1
  unfold wpListIn
  have hw:Region.wanted o (yielded ops a1.tmps)=true:=by simp [Region.wanted,hgd]
  rw [if_pos hw]
  refine ⟨fun _ _=>trivial,?_⟩
  rw [Oper.semAt_eq _ _ _ (fun c e=>by rw [ho] at e;cases e)]
  have hfv:=k2.eval f
  rw [hf] at hfv
  obtain ⟨us,vs,hfe,h1,h2⟩:=hfv.fn_inv
  have hfe':a1.eval f= .func (.yield y.l) #[] #[]:=by
    rw [hfe]
    have e1:us= []:=List.length_eq_zero_iff.1 h1.1
    have e2:vs= []:=List.length_eq_zero_iff.1 h2.1
    rw [e1,e2]
  rw [run_callYield ho hfe' r1.l rfl]
  refine ⟨fun hh=>(by cases hh),RoundIn.mono (roundA_ok hR s1 hl r1 hT0 (hg.trans k1.le) (k2.eval x)) fun e w2 q=> ?_⟩
  obtain ⟨b,g2,st2,rfl,q1,q2,q3,q4⟩:=q
  have hT2:=(k2.mono q2).put hd (VR.val (g:=g2) (.bool b.isNone) rfl)
  have:=AOps.okK hE (R:=PostY y g0 st0 w0 g Q) (tail:= []) post (hK b st2 q4) (.refl q1.ok) hT2 fun g3 T3 st3 w3 a3 p1 p2 p3=>⟨b,g3,T3,st3,q1.trans p1,(k1.le.trans q2).trans p1.le,q3.step q1.ok p1,p2,p3⟩
  rw [List.append_nil] at this
  exact this
end
section
set_option maxRecDepth 4000
/-! ### a function that ranges over a function -/
def PostC(g0:G)(st0:St)(w0:World)(R:AV→St→Prop):Ending→World→Prop:=fun e w'=>∃g' st' r v,e= .returned v∧Step g0 st0 w0 g' st' w'∧VR g' r v∧R r st'
def AWZ(P:Program)(fn:Func)(R:AV→St→Prop)(c:Code)(T:Tm)(st:St):Prop:=
  ∀g0 st0 w0 g w a,Step g0 st0 w0 g st w→TR g T a→c.wp P (bodyPostM Fence.wide 0 P fn (PostC g0 st0 w0 R)) a w
section
variable {P:Program} {E:Env} {fn:Func} {R:AV→St→Prop} {T:Tm} {st:St}
theorem AWZ.body{f:Nat}{c:Code}{args:List AV}(hf:P.funcs[f]? =some fn)(hb:fn.body=some c)(h:AWZ P fn R c (enterT fn args st.gl) st):ACalls P f args R st:=
  fun g w us hok hv=>callsIn_wide.1 (callsIn_of_wp_marks (F:=Fence.wide) (n:=0) hf hb trivial (wpIn_wide.2 (h g st w g w _ (.refl hok) (enterT_ok hv fun p hp=>(hok.glob p hp).1))))
/-- the end of the body -/
theorem leaveZ(hE:EOK' P E){g0 g:G}{st0:St}{w0 w:World}{a:Act}(hs:Step g0 st0 w0 g st w)(hT:TR g T a){e:Exit}(he:endA E fn R e T st):bodyPostM Fence.wide 0 P fn (PostC g0 st0 w0 R) e a w:=by
  cases e<;>try exact he.elim
  all_goals
    obtain ⟨vs,h1,h2⟩:=he
    obtain ⟨u,h3,h4⟩:=results_ok hE.toEOK hs.ok hT h1
    show LeavesInM Fence.wide 0 P fn a.tmps _ a.defers .returning w
    rw [hT.defers]
    exact ⟨u,h3,g,st,_,u,rfl,hs,h4,h2⟩
theorem leaveM(hE:EOK' P E){g0 g:G}{st0:St}{w0 w:World}{a:Act}{D:Nat}(hs:Step g0 st0 w0 g st w)(hT:TR g T (noD a))(hd:a.defers= [{target:= .collected D,args:= #[]}])(hD:w0.heap.size≤D)(ho:w.heap[D]? =some (.deferred (some []))){e:Exit}(he:endA E fn R e T st):
    bodyPostM Fence.wide 0 P fn (PostC g0 st0 w0 R) e a w:=by
  cases e<;>try exact he.elim
  all_goals
    obtain ⟨vs,h1,h2⟩:=he
    have s2:=hs.putFar hD ho rfl (.deferred none)
    obtain ⟨u,h3,h4⟩:=results_ok hE.toEOK s2.ok hT h1
    show LeavesInM Fence.wide 0 P fn a.tmps _ a.defers .returning w
    rw [hd]
    exact ⟨by simp,.inl ⟨D,_,rfl,run_takeDeferred ho,u,h3,g,st,_,u,rfl,s2,h4,h2⟩⟩
theorem AWZ.seq(hE:EOK' P E){x y:Code}(h:AW P x (thenA (fun T st=>AWZ P fn R y T st) (endA E fn R)) T st):AWZ P fn R (.seq x y) T st:=by
  intro g0 st0 w0 g w a hs hT
  refine wp_seq (wp_mono (h g w a hs.ok hT) fun e a' w' k=> ?_)
  obtain ⟨g',T',st',k1,k2,k3⟩:=k
  cases e with
  |normal=>exact k3 g0 st0 w0 g' w' a' (hs.trans k1) k2
  |ret=>exact leaveZ hE (hs.trans k1) k2 (show endA E fn R .ret T' st' from k3)
  |_=>exact (show False from k3).elim
/-- what a round's end leads to behind the range -/
def AfterA(P:Program)(E:Env)(fn:Func)(R:AV→St→Prop)(id:Nat)(C:Code)(T:Tm):Option Code→St→Prop
  |none,st=>AWG none P C (endA E fn R) T st
  |some .ret,st=>endA E fn R .ret T st
  |some (.exit i),st=>i=id∧AWG none P C (endA E fn R) T st
  |_,_=>False
theorem rangeB(hE:EOK' P E){id:Nat}{gop:Operand}{p:Nat}{assign body C:Code}{gf:Nat}{pa:List AV}{fnY:Func}{cY:Code}(hg:T.eval gop= .fn (.func gf) [] pa)(hgf:E.fn gf=some fnY)(hbY:fnY.body=some cY)(hrY:fnY.results= #[])
    (hY:∀y:YK,y.p=p→y.assign=assign→y.body=body→TR y.gE T ⟨y.tmps,[]⟩→AWY y P none cY (fun b e _ st'=>(e= .normal∨e= .ret)∧AfterA P E fn R id C T b st') (enterT fnY (.fn (.yield y.l) [] []::pa) st.gl) st):
    ∀g0 st0 w0 g w a,Step g0 st0 w0 g st w→TR g T a→(Code.block id (.rangeFunc gop #[p] assign body)).wp P (Exit.then (C.wp P (bodyPostM Fence.wide 0 P fn (PostC g0 st0 w0 R))) (bodyPostM Fence.wide 0 P fn (PostC g0 st0 w0 R))) a w:=by
  intro g0 st0 w0 g w a hs hT
  have hgv:=hT.eval gop
  rw [hg] at hgv
  obtain ⟨us,vs,hfe,h1,h2⟩:=hgv.fn_inv
  have e1:us= []:=List.length_eq_zero_iff.1 h1.1
  subst e1
  have s1:=(hs.allocFar (.deferred (some []))).allocFar (.loop (recOf 0 a.tmps p assign body w.heap.size none))
  have hfnY:=hE.fn gf fnY hgf
  obtain ⟨hn,hb⟩:=hE.body gf fnY hgf
  have hcf:∀xs w,(callFunc gf xs).run P w= .ok (.enter gf xs) w:=by
    intro xs w
    unfold callFunc
    rw [Sem.run_bind]
    have:(program).run P w= .ok P w:=rfl
    rw [this,Result.andThen_ok]
    simp only [hfnY]
    rw [if_neg (by simpa using hn),if_neg (by cases hb':fnY.body<;>simp [hb'] at hb⊢)]
    rfl
  let Q1:Exit→Act→World→Prop:=fun e a' w'=>∃g' st',Step g0 st0 w0 g' st' w'∧TR g' T (noD a')∧a'.defers= [{target:= .collected w.heap.size,args:= #[]}]∧w'.heap[w.heap.size]? =some (.deferred (some []))∧
    ((e= .normal∧AWG none P C (endA E fn R) T st')∨(e= .ret∧endA E fn R .ret T st')∨(e= .exit id∧AWG none P C (endA E fn R) T st'))
  have fin:∀{g':G} {st':St} {w':World} {a':Act},Step g0 st0 w0 g' st' w'→TR g' T (noD a')→a'.defers= [{target:= .collected w.heap.size,args:= #[]}]→w'.heap[w.heap.size]? =some (.deferred (some []))→AWG none P C (endA E fn R) T st'→C.wp P (bodyPostM Fence.wide 0 P fn (PostC g0 st0 w0 R)) a' w':=by
    intro g' st' w' a' k1 k2 k3 k4 k5
    refine wp_mono ((wpIn_wide (n:=0)).1 (k5 g' w' a' k1.ok k2)) fun e a2 w2 q=> ?_
    obtain ⟨qd,g2,T2,st2,q1,q2,q3⟩:=q
    exact leaveM hE (k1.trans q1) q2 (qd.trans k3) hs.size (far_step k1.ok q1 k4 rfl) q3
  have key:(Code.rangeFunc gop #[p] assign body).wpIn Fence.wide 0 P Q1 a w:=by
    refine wpIn_rangeFunc fun fnid _=> ?_
    let y:YK:={l:=w.heap.size+1,D:=w.heap.size,fn:=fnid,tmps:=a.tmps,p,assign,body,gE:=g}
    have s1:Step g0 st0 w0 g st ((w.alloc (.deferred (some []))).alloc (.loop (y.recd none))):=(hs.allocFar _).allocFar _
    have hlt:((w.alloc (.deferred (some []))).alloc (.loop (y.recd none))).heap[w.heap.size+1]? =some (.loop (y.recd none)):=by
      have:=World.alloc_heap_new (w.alloc (.deferred (some []))) (.loop (y.recd none))
      rwa [World.size_alloc] at this
    have hDt:((w.alloc (.deferred (some []))).alloc (.loop (y.recd none))).heap[w.heap.size]? =some (.deferred (some [])):=by
      rw [heapA _ _ _ (by rw [World.size_alloc];omega)]
      exact World.alloc_heap_new w _
    have hTa:TR g T ⟨a.tmps,[]⟩:=by have:=hT.defers;cases a;simp only at this;subst this;exact hT
    refine ⟨w.heap.size+1,[{target:= .collected w.heap.size,args:= #[]}],(w.alloc (.deferred (some []))).alloc (.loop (y.recd none)),{target:= .fn (.func gf) vs.toArray,args:= #[.func (.yield (w.heap.size+1)) #[] #[]]},(w.alloc (.deferred (some []))).alloc (.loop (y.recd none)),gf,((.func (.yield (w.heap.size+1)) #[] #[])::vs:List Value).toArray,(w.alloc (.deferred (some []))).alloc (.loop (y.recd none)),run_enterLoop_outer _ _ _ _ _,?_,fun _ _=>trivial,?_,(fun hh=>by cases hh),callsIn_wide.2 ?_⟩
    · simp only [resolve,rangeCall,hfe,Deferred.ofValue]
      simp [Operand.const,Act.eval,Sem.run_pure]
    · simp only [invoke]
      rw [hcf]
      congr 2
      simp
    · have hargs:VRs g (.fn (.yield y.l) [] []::pa) (.func (.yield (w.heap.size+1)) #[] #[]::vs):=by
        refine ⟨by simp [h2.1],fun i hi=> ?_⟩
        cases i with
        |zero=>exact VR.fn (.yield y.l) [] [] [] [] rfl (fun i hi=>absurd hi (by simp)) rfl (fun i hi=>absurd hi (by simp))
        |succ i=>exact h2.2 i (by simpa using hi)
      refine calls_of_wp hfnY hbY (wp_mono (hY y rfl rfl rfl hTa g0 st0 w0 g _ _ s1 (by have:=hs.size;show _≤w.heap.size+1;omega) (.refl g) ⟨hlt,hDt⟩ (enterT_ok hargs fun p hp=>(s1.ok.glob p hp).1)) fun e a' w' k=> ?_)
      obtain ⟨b,g',T',st',k1,k2,k3,k4,k5,k6⟩:=k
      obtain ⟨u,hres,_⟩:=results_ok hE.toEOK k1.ok k4 (fn:=fnY) (vs:= []) (by rw [hrY];rfl)
      have hend:=run_endLoop (P:=P) k3.l (by cases b<;>simp [YK.recd,recOf])
      have s2:=k1.putFar (by have:=hs.size;show _≤w.heap.size+1;omega) k3.l rfl (.loop {y.recd b with state:= .exhausted})
      have r2:=k3.put {y.recd b with state:= .exhausted}
      have hT2:TR g' T (noD {a with defers:= [{target:= .collected w.heap.size,args:= #[]}]++a.defers}):=hTa.mono k2
      have hd2:({a with defers:= [{target:= .collected w.heap.size,args:= #[]}]++a.defers}:Act).defers= [{target:= .collected w.heap.size,args:= #[]}]:=by
        show _++a.defers=_;rw [hT.defers];rfl
      have main:rangePost Fence.wide 0 P (w.heap.size+1) Q1 {a with defers:= [{target:= .collected w.heap.size,args:= #[]}]++a.defers} (.returned u) w':=by
        refine ⟨_,_,hend,?_⟩
        cases b with
        |none=>exact ⟨g',st',s2,hT2,hd2,r2.d,.inl ⟨rfl,k6⟩⟩
        |some c=>
          cases c<;>try exact k6.elim
          · exact wpIn_exit ⟨g',st',s2,hT2,hd2,r2.d,.inr (.inr ⟨by rw [k6.1],k6.2⟩)⟩
          · exact wpIn_ret ⟨g',st',s2,hT2,hd2,r2.d,.inr (.inl ⟨rfl,k6⟩)⟩
      rcases k5 with rfl|rfl
      · exact ⟨k4.defers,_,hres,main⟩
      · exact ⟨k4.defers,_,hres,main⟩
  refine wp_block (wp_mono ((wpIn_wide (n:=0)).1 key) fun e a' w' k=> ?_)
  obtain ⟨g',st',k1,k2,k3,k4,(⟨rfl,k5⟩|⟨rfl,k5⟩|⟨rfl,k5⟩)⟩:=k
  · exact fin k1 k2 k3 k4 k5
  · exact leaveM hE k1 k2 k3 hs.size k4 k5
  · show Exit.inBlock id _ (.exit id) a' w'
    simp only [Exit.inBlock,if_pos]
    exact fin k1 k2 k3 k4 k5
theorem AWZ.rangeA{A B C:Code}{L:Tm→Prop}{s:St}(h:AW P A (fun ex T' st'=>ex= .normal∧L T'∧st'=s) T st)(k:∀T',L T'→∀g0 st0 w0 g w a,Step g0 st0 w0 g s w→TR g T' a→B.wp P (Exit.then (C.wp P (bodyPostM Fence.wide 0 P fn (PostC g0 st0 w0 R))) (bodyPostM Fence.wide 0 P fn (PostC g0 st0 w0 R))) a w):AWZ P fn R (.seq (.seq A B) C) T st:=by
  intro g0 st0 w0 g w a' hs hT
  refine wp_seq (wp_seq (wp_mono (h g w a' hs.ok hT) fun e a1 w1 q=> ?_))
  obtain ⟨g1,T1,st1,q1,q2,rfl,q4,rfl⟩:=q
  exact k T1 q4 g0 st0 w0 g1 w1 a1 (hs.trans q1) q2
end
end
section
set_option maxRecDepth 4000
/-! ### runs of code in a round -/
def plainOps(ops:Array Oper):Bool:=ops.toList.all fun o=>match o.op with| .defer _=>false|_=>true
theorem plainOps_ok{ops:Array Oper}(h:plainOps ops=true):∀o∈ops.toList,∀c,o.op≠ .defer c:=fun o ho c e=>by
  have:=List.all_eq_true.1 h o ho
  rw [e] at this
  cases this
def evR(P:Program)(E:Env)(ov:OvP)(sites:Nat→List Nat):Nat→List Nat→Code→Tm→St→List Or→Option (Exit×Tm×St×List Or×Ob)
  |0,_,_,_,_,_=>none
  |k+1,ss,c,T,st,x=>match c with
    | .skip=>some (.normal,T,st,x,[])
    | .exit id=>some (.exit id,T,st,x,[])
    | .ret=>some (.ret,T,st,x,[])
    | .seq a b=>match evR P E ov sites k ss a T st x with
      |some (.normal,T1,st1,x1,o1)=>match evR P E ov sites k ss b T1 st1 x1 with
        |some (e2,T2,st2,x2,o2)=>some (e2,T2,st2,x2,o1++o2)
        |none=>none
      |r=>r
    | .cond c y z=>match condA ss c x with
      |some (b,x1)=>match evR P E ov sites k ss (if b then y else z) T st x1 with
        |some (e2,T2,st2,x2,o2)=>some (e2,T2,st2,x2,(T.eval c= .val (.bool b))::o2)
        |none=>none
      |none=>match T.eval c with
        | .val (.bool b)=>evR P E ov sites k ss (if b then y else z) T st x
        |_=>none
    | .block id c=>match evR P E ov sites k ss c T st x with
      |some (.exit i,T1,st1,x1,o1)=>if i=id then some (.normal,T1,st1,x1,o1) else some (.exit i,T1,st1,x1,o1)
      |r=>r
    | .region _ ops false=>match evOpsS P E ov sites k ss ops ops.toList T st x with
      |some (T1,st1,x1,o1)=>some (.normal,T1,st1,x1,o1)
      |none=>none
    | .region _ ops true=>match planOf ops,plainOps ops with
      |some l,true=>match (match ss with| []=>false|_=>ss.contains 8000) with
       |true=>match evDrS P E ov sites k ss ops (idsG E ss ops l T st x) l T st x with
        |some (T1,st1,x1,o1)=>some (.normal,T1,st1,x1,(∀i∈idsG E ss ops l T st x,i<st.next)::o1)
        |none=>none
       |false=>match evDrS P E ov sites k ss ops ((idsOfS E ss ops l T st x).filter (· <st.next)) l T st x with
        |some (T1,st1,x1,o1)=>some (.normal,T1,st1,x1,o1)
        |none=>none
      |_,_=>none
    |_=>none
theorem evR_ok{P:Program}{E:Env}(hE:EOK' P E){ov:OvP}{sites:Nat→List Nat}(hov:∀f args st r st' p,ov f args st=some (r,st',p)→p→ACalls P f args (fun a s=>a=r∧s=st') st){ro:Option Nat}:∀(k:Nat) (ss:List Nat) (c:Code) (T:Tm) (st:St) (x:List Or) (e1:Exit) (T1:Tm) (st1:St) (x1:List Or) (ob:Ob),evR P E ov sites k ss c T st x=some (e1,T1,st1,x1,ob)→ob.ok→AWR ro P c (fun e T' st'=>e=e1∧T'=T1∧st'=st1) T st:=by
  intro k
  induction k with
  |zero=>intro ss c T st x e1 T1 st1 x1 ob h;simp [evR] at h
  |succ k ih=>
    intro ss c T st x e1 T1 st1 x1 ob h hob
    have ih0:=evS_ok hE hov (sites:=sites) k
    simp only [evR] at h
    split at h
    · cases h;exact .skip ⟨rfl,rfl,rfl⟩
    · cases h;exact .exit ⟨rfl,rfl,rfl⟩
    · cases h;exact .ret ⟨rfl,rfl,rfl⟩
    · rename_i a b
      refine .seq ?_
      split at h
      · rename_i T2 st2 x2 o1 h1
        split at h
        · rename_i e3 T3 st3 x3 o3 h3
          cases h
          obtain ⟨ob1,ob2⟩:=Ob.ok_append.1 hob
          refine (ih _ _ _ _ _ _ _ _ _ _ h1 ob1).mono fun e T' st' he=> ?_
          obtain ⟨rfl,rfl,rfl⟩:=he
          exact ih _ _ _ _ _ _ _ _ _ _ h3 ob2
        · cases h
      · rename_i hne
        refine (ih _ _ _ _ _ _ _ _ _ _ h hob).mono fun e T' st' he=> ?_
        obtain ⟨rfl,rfl,rfl⟩:=he
        cases e with
        |normal=>exact absurd h (hne _ _ _ _)
        |_=>exact ⟨rfl,rfl,rfl⟩
    · split at h
      · rename_i b x2 hc
        split at h
        · rename_i e3 T3 st3 x3 o3 h3
          cases h
          obtain ⟨ob1,ob2⟩:=Ob.ok_cons.1 hob
          exact .cond ob1 (ih _ _ _ _ _ _ _ _ _ _ h3 ob2)
        · cases h
      · split at h
        · rename_i b hc
          exact .cond hc (ih _ _ _ _ _ _ _ _ _ _ h hob)
        · cases h
    · rename_i id c
      refine .block ?_
      split at h
      · rename_i i T2 st2 x2 o2 h1
        split at h
        · rename_i hi
          cases h
          refine (ih _ _ _ _ _ _ _ _ _ _ h1 hob).mono fun e T' st' he=> ?_
          obtain ⟨rfl,rfl,rfl⟩:=he
          simp [blockA,hi]
        · rename_i hi
          cases h
          refine (ih _ _ _ _ _ _ _ _ _ _ h1 hob).mono fun e T' st' he=> ?_
          obtain ⟨rfl,rfl,rfl⟩:=he
          simp [blockA,hi]
      · rename_i hne
        refine (ih _ _ _ _ _ _ _ _ _ _ h hob).mono fun e T' st' he=> ?_
        obtain ⟨rfl,rfl,rfl⟩:=he
        cases e with
        |exit i=>exact absurd h (hne _ _ _ _ _)
        |_=>exact ⟨rfl,rfl,rfl⟩
    · rename_i id ops
      split at h
      · rename_i T2 st2 x2 o2 h1
        cases h
        exact .region hE (AOps.mono (fun e T' st' ⟨he,hr⟩=>by subst he;exact ⟨rfl,hr⟩) _ (ih0.ops _ _ _ _ _ _ _ _ _ _ h1 hob))
      · cases h
    · rename_i id ops
      split at h
      · rename_i l hl hpl
        unfold planOf at hl
        simp only [] at hl
        split at hl
        · rename_i hc
          cases hl
          split at h
          · split at h
            · rename_i T2 st2 x2 o2 h1
              cases h
              obtain ⟨ob1,ob2⟩:=Ob.ok_cons.1 hob
              refine .drawn hE hE.mixed hc.2.2 (plainOps_ok hpl) _ _ ?_ (by rw [List.length_map];exact hc.1) (ADr.mono (fun e T' st' ⟨he,hr⟩=>by subst he;exact ⟨rfl,hr⟩) _ (ih0.dr _ _ _ _ _ _ _ _ _ _ _ h1 ob2 _ hc.2.1))
              rw [List.all_eq_true]
              exact fun i hi=>decide_eq_true (ob1 i hi)
            · cases h
          · split at h
            · rename_i T2 st2 x2 o2 h1
              cases h
              refine .drawn hE hE.mixed hc.2.2 (plainOps_ok hpl) _ _ ?_ (by rw [List.length_map];exact hc.1) (ADr.mono (fun e T' st' ⟨he,hr⟩=>by subst he;exact ⟨rfl,hr⟩) _ (ih0.dr _ _ _ _ _ _ _ _ _ _ _ h1 hob _ hc.2.1))
              simp [List.all_eq_true]
            · cases h
        · cases hl
      · cases h
    · cases h
theorem TR.tempsR{ro:Option Nat}{P:Program}{c:Code}{Q:Exit→Tm→St→Prop}{T0 T:Tm}{st:St}(h:AWR ro P c Q T0 st)(hn:T.n=T0.n)(hT:∀t,T0.get t= .undef∨T.get t=T0.get t)(hgl:T0.gl= []):AWR ro P c Q T st:=
  fun g w a hok hTR=>h g w a hok (hTR.temps hn hT hgl)
theorem gen_runR{P:Program}{E:Env}(hE:EOK' P E){ro:Option Nat}{c:Code}{ss:List Nat}{sites:Nat→List Nat}{n0:Nat}{l:List (Nat×AV)}{st st1:St}{x:List Or}{e:Exit}{n:Nat}{F:List AV}{ob:Ob}{G:Tm→List AV}(h:((evR P E (fun _ _ _=>none) sites 100000 ss c ⟨n0,l,[]⟩ st x).map fun q=>(q.1,q.2.1.n,G q.2.1,q.2.2.1,q.2.2.2.2))=some (e,n,F,st1,ob))(hob:ob.ok){T:Tm}(hn:T.n=n0)(hT:∀p∈l,T.get p.1=p.2):
    AWR ro P c (fun e' T' st'=>e'=e∧T'.n=n∧G T'=F∧st'=st1) T st:=by
  obtain ⟨⟨e1,T1,s1,x1,o1⟩,h1,h2⟩:=Option.map_eq_some_iff.1 h
  simp only [Prod.mk.injEq] at h2
  obtain ⟨rfl,h3,h4,rfl,rfl⟩:=h2
  exact TR.tempsR ((evR_ok hE noOv_ok _ _ _ _ _ _ _ _ _ _ _ h1 hob).mono fun e T' st' ⟨q1,q2,q3⟩=>⟨q1,by rw [q2,h3],by rw [q2,h4],q3⟩) hn (look_or T l hT) rfl
end
section
set_option maxRecDepth 4000

end
section
set_option maxRecDepth 4000

/-! ### a row that nobody writes any more may be frozen: slices of it become values -/
mutual
def frz(id:Nat)(vs:List AV):AV→AV
  | .val v=> .val v
  | .nilp=> .nilp
  | .nilm=> .nilm
  | .nilf=> .nilf
  | .nili=> .nili
  | .ptr i off=> .ptr i off
  | .iptr cells=> .iptr (frzL id vs cells)
  | .nils=> .nils
  | .sl i sz off len full=>if i=id then (if off+len*sz≤vs.length then .imm sz len full ((vs.drop off).take (len*sz)) else .undef) else .sl i sz off len full
  | .imm sz len full cells=> .imm sz len full (frzL id vs cells)
  | .mp i=> .mp i
  | .fn f first captured=> .fn f (frzL id vs first) (frzL id vs captured)
  | .agg cells=> .agg (frzL id vs cells)
  | .tup l=> .tup (frzL id vs l)
  | .ifc t v=> .ifc t (frz id vs v)
  | .undef=> .undef
def frzL(id:Nat)(vs:List AV):List AV→List AV
  | []=> []
  |a::r=>frz id vs a::frzL id vs r
end
theorem frzL_eq(id:Nat)(vs:List AV):∀l:List AV,frzL id vs l=l.map (frz id vs)
  | []=>by simp [frzL]
  |a::r=>by simp [frzL,frzL_eq id vs r]
@[simp] theorem frzL_length (id:Nat) (vs:List AV) (l:List AV):(frzL id vs l).length=l.length:=by rw [frzL_eq];simp
end
section
set_option maxRecDepth 4000
/-! ### runs of code behind a range over a function -/
def evG(P:Program)(E:Env)(ov:OvP)(sites:Nat→List Nat):Nat→List Nat→Code→Tm→St→List Or→Option (Exit×Tm×St×List Or×Ob)
  |0,_,_,_,_,_=>none
  |k+1,ss,c,T,st,x=>match c with
    | .skip=>some (.normal,T,st,x,[])
    | .exit id=>some (.exit id,T,st,x,[])
    | .ret=>some (.ret,T,st,x,[])
    | .seq a b=>match evG P E ov sites k ss a T st x with
      |some (.normal,T1,st1,x1,o1)=>match evG P E ov sites k ss b T1 st1 x1 with
        |some (e2,T2,st2,x2,o2)=>some (e2,T2,st2,x2,o1++o2)
        |none=>none
      |r=>r
    | .cond c y z=>match condA ss c x with
      |some (b,x1)=>match evG P E ov sites k ss (if b then y else z) T st x1 with
        |some (e2,T2,st2,x2,o2)=>some (e2,T2,st2,x2,(T.eval c= .val (.bool b))::o2)
        |none=>none
      |none=>match T.eval c with
        | .val (.bool b)=>evG P E ov sites k ss (if b then y else z) T st x
        |_=>none
    | .block id c=>match evG P E ov sites k ss c T st x with
      |some (.exit i,T1,st1,x1,o1)=>if i=id then some (.normal,T1,st1,x1,o1) else some (.exit i,T1,st1,x1,o1)
      |r=>r
    | .region _ ops false=>match evOpsS P E ov sites k ss ops ops.toList T st x with
      |some (T1,st1,x1,o1)=>some (.normal,T1,st1,x1,o1)
      |none=>none
    |_=>none
theorem evG_ok{P:Program}{E:Env}(hE:EOK' P E){ov:OvP}{sites:Nat→List Nat}(hov:∀f args st r st' p,ov f args st=some (r,st',p)→p→ACalls P f args (fun a s=>a=r∧s=st') st){ro:Option Nat}:∀(k:Nat) (ss:List Nat) (c:Code) (T:Tm) (st:St) (x:List Or) (e1:Exit) (T1:Tm) (st1:St) (x1:List Or) (ob:Ob),evG P E ov sites k ss c T st x=some (e1,T1,st1,x1,ob)→ob.ok→AWG ro P c (fun e T' st'=>e=e1∧T'=T1∧st'=st1) T st:=by
  intro k
  induction k with
  |zero=>intro ss c T st x e1 T1 st1 x1 ob h;simp [evG] at h
  |succ k ih=>
    intro ss c T st x e1 T1 st1 x1 ob h hob
    have ih0:=evS_ok hE hov (sites:=sites) k
    simp only [evG] at h
    split at h
    · cases h;exact .skip ⟨rfl,rfl,rfl⟩
    · cases h;exact .exit ⟨rfl,rfl,rfl⟩
    · cases h;exact .ret ⟨rfl,rfl,rfl⟩
    · rename_i a b
      refine .seq ?_
      split at h
      · rename_i T2 st2 x2 o1 h1
        split at h
        · rename_i e3 T3 st3 x3 o3 h3
          cases h
          obtain ⟨ob1,ob2⟩:=Ob.ok_append.1 hob
          refine (ih _ _ _ _ _ _ _ _ _ _ h1 ob1).mono fun e T' st' he=> ?_
          obtain ⟨rfl,rfl,rfl⟩:=he
          exact ih _ _ _ _ _ _ _ _ _ _ h3 ob2
        · cases h
      · rename_i hne
        refine (ih _ _ _ _ _ _ _ _ _ _ h hob).mono fun e T' st' he=> ?_
        obtain ⟨rfl,rfl,rfl⟩:=he
        cases e with
        |normal=>exact absurd h (hne _ _ _ _)
        |_=>exact ⟨rfl,rfl,rfl⟩
    · split at h
      · rename_i b x2 hc
        split at h
        · rename_i e3 T3 st3 x3 o3 h3
          cases h
          obtain ⟨ob1,ob2⟩:=Ob.ok_cons.1 hob
          exact .cond ob1 (ih _ _ _ _ _ _ _ _ _ _ h3 ob2)
        · cases h
      · split at h
        · rename_i b hc
          exact .cond hc (ih _ _ _ _ _ _ _ _ _ _ h hob)
        · cases h
    · rename_i id c
      refine .block ?_
      split at h
      · rename_i i T2 st2 x2 o2 h1
        split at h
        · rename_i hi
          cases h
          refine (ih _ _ _ _ _ _ _ _ _ _ h1 hob).mono fun e T' st' he=> ?_
          obtain ⟨rfl,rfl,rfl⟩:=he
          simp [blockA,hi]
        · rename_i hi
          cases h
          refine (ih _ _ _ _ _ _ _ _ _ _ h1 hob).mono fun e T' st' he=> ?_
          obtain ⟨rfl,rfl,rfl⟩:=he
          simp [blockA,hi]
      · rename_i hne
        refine (ih _ _ _ _ _ _ _ _ _ _ h hob).mono fun e T' st' he=> ?_
        obtain ⟨rfl,rfl,rfl⟩:=he
        cases e with
        |exit i=>exact absurd h (hne _ _ _ _ _)
        |_=>exact ⟨rfl,rfl,rfl⟩
    · rename_i id ops
      split at h
      · rename_i T2 st2 x2 o2 h1
        cases h
        exact .region hE (AOps.mono (fun e T' st' ⟨he,hr⟩=>by subst he;exact ⟨rfl,hr⟩) _ (ih0.ops _ _ _ _ _ _ _ _ _ _ h1 hob))
      · cases h
    · cases h
theorem TR.tempsG{ro:Option Nat}{P:Program}{c:Code}{Q:Exit→Tm→St→Prop}{T0 T:Tm}{st:St}(h:AWG ro P c Q T0 st)(hn:T.n=T0.n)(hT:∀t,T0.get t= .undef∨T.get t=T0.get t)(hgl:T0.gl= []):AWG ro P c Q T st:=
  fun g w a hok hTR=>h g w a hok (hTR.temps hn hT hgl)
theorem gen_runG{P:Program}{E:Env}(hE:EOK' P E){ro:Option Nat}{c:Code}{ss:List Nat}{sites:Nat→List Nat}{n0:Nat}{l:List (Nat×AV)}{st st1:St}{x:List Or}{e:Exit}{n:Nat}{F:List AV}{ob:Ob}{G:Tm→List AV}(h:((evG P E (fun _ _ _=>none) sites 100000 ss c ⟨n0,l,[]⟩ st x).map fun q=>(q.1,q.2.1.n,G q.2.1,q.2.2.1,q.2.2.2.2))=some (e,n,F,st1,ob))(hob:ob.ok){T:Tm}(hn:T.n=n0)(hT:∀p∈l,T.get p.1=p.2):
    AWG ro P c (fun e' T' st'=>e'=e∧T'.n=n∧G T'=F∧st'=st1) T st:=by
  obtain ⟨⟨e1,T1,s1,x1,o1⟩,h1,h2⟩:=Option.map_eq_some_iff.1 h
  simp only [Prod.mk.injEq] at h2
  obtain ⟨rfl,h3,h4,rfl,rfl⟩:=h2
  exact TR.tempsG ((evG_ok hE noOv_ok _ _ _ _ _ _ _ _ _ _ _ h1 hob).mono fun e T' st' ⟨q1,q2,q3⟩=>⟨q1,by rw [q2,h3],by rw [q2,h4],q3⟩) hn (look_or T l hT) rfl
end
section
set_option maxRecDepth 4000
variable {H:Type}
/-- the cells of what is read, as the machine has them -/
def absF(F:TypeId→DataW H→List AV):List Field→List (DataW H)→List AV
  |f::fs,d::ds=>F f.type d++absF F fs ds
  |_,_=> []
def absC(P:Program):Nat→TypeId→DataW H→List AV
  |0,_,_=> []
  |m+1,t,d=>match P.underlying t,d with
    |some .bool,.lit (.bool b)=> [.val (.bool b)]
    |some (.int _),.lit (.int k n)=> [.val (.int k n)]
    |some .string,.lit (.string bs)=> [.val (.string ⟨bs.toArray⟩)]
    |some (.slice _),.nil=> [.nils]
    |some (.slice e),.slice l _=> [.imm (P.cellsOf e) l.length false (l.flatMap (absC P m e))]
    |some (.struct fs),.agg ds=>absF (absC P m) fs.toList ds
    |some (.array _ e),.agg ds=>ds.flatMap (absC P m e)
    |_,_=> []
def contig(P:Program)(tot:Nat):Nat→List Field→Bool
  |off,[]=>off==tot
  |off,f::fs=>f.offset==off&&contig P tot (off+P.cellsOf f.type) fs
def goodT(P:Program):Nat→TypeId→Bool
  |0,_=>false
  |m+1,t=>match P.underlying t with
    |some .bool=>true
    |some (.int _)=>true
    |some .string=>true
    |some (.slice e)=>goodT P m e
    |some (.struct fs)=>contig P (P.cellsOf t) 0 fs.toList&&fs.toList.all (fun f=>goodT P m f.type)
    |some (.array n e)=>P.cellsOf t==n*P.cellsOf e&&goodT P m e
    |_=>false
def gW(W:World):G:={n:=0,blk:=fun _=>0,base:=fun _=>0,siz:=fun _=>0,M:=fun b=>match W.heap[b]? with|some (.cells cs _ _)=>cs.toList|_=> []}
theorem okW(W:World):OK (gW W) ⟨0,.nil,[],[]⟩ W:=
  ⟨fun b h=>by
      unfold gW at h⊢
      simp only at h⊢
      split at h
      · rename_i cs T fr hb;exact ⟨cs,T,fr,hb,rfl⟩
      · exact absurd rfl h,
    fun id o h=>by simp [St.get,Tr.get] at h,fun id o _ _ h=>by simp [St.get,Tr.get] at h,fun id o h=>by simp [St.get,Tr.get] at h,rfl,fun p hp=>by cases hp⟩

theorem cells_get{W:World}{a:Addr}:∀{n:Nat} {cs:List Value},W.cells? 0 a n=some cs→cs.length=n∧∀i,i<n→W.cell? (a.add i)=cs[i]? :=by
  intro n cs h
  unfold World.cells? at h
  rw [if_pos (Nat.zero_le _)] at h
  exact ⟨by simpa using mapM_some_length h,fun i hi=>by simpa using mapM_some_get h i i (by simp [hi])⟩
theorem add_none(b o n:Nat):(Addr.add ⟨b,o,none⟩ n)=⟨b,o+n,none⟩:=by
  unfold Addr.add
  split
  · rename_i h;subst h;rfl
  · rfl
theorem cells_mem{W:World}{a:Addr}{n:Nat}{cs:List Value}(h:W.cells? 0 a n=some cs)(hn:n≠0):a.spot=none∧cs=(((gW W).M a.block).drop a.off).take n:=by
  obtain ⟨h1,h2⟩:=cells_get h
  obtain ⟨b,o,sp⟩:=a
  have h0:=h2 0 (by omega)
  have hc:∃c T fr,W.heap[b]? =some (.cells c T fr)∧sp=none:=by
    unfold World.cell? at h0
    rw [List.getElem?_eq_getElem (by omega)] at h0
    split at h0
    · rename_i c T fr hb
      refine ⟨c,T,fr,by simpa [Addr.add] using hb,?_⟩
      split at h0
      · cases h0
      · rename_i hs
        simpa [Addr.add] using hs
    · cases h0
  obtain ⟨c,T,fr,hb,rfl⟩:=hc
  refine ⟨rfl,?_⟩
  have hM:(gW W).M b=c.toList:=by simp only [gW,hb]
  simp only [hM]
  have each:∀i,i<n→cs[i]? =c[o+i]? :=fun i hi=>by
    rw [←h2 i hi]
    rw [add_none]
    unfold World.cell?
    simp [hb]
  apply List.ext_getElem?
  intro i
  by_cases hi:i<n
  · rw [each i hi,List.getElem?_take,if_pos hi,List.getElem?_drop]
    simp
  · rw [List.getElem?_eq_none (by omega),List.getElem?_take,if_neg hi]

/-- elements, one behind the other -/
theorem lift_chunks{g:G}{us:List Value}{sz:Nat}{f:Nat→List AV}:∀(n:Nat),n*sz≤us.length→(∀i,i<n→VRs g (f i) ((us.drop (i*sz)).take sz))→VRs g ((List.range n).flatMap f) (us.take (n*sz))
  |0,_,_=>by simpa using VRs.nil g
  |n+1,hl,h=>by
    rw [List.range_succ,List.flatMap_append]
    have h1:=lift_chunks n (by rw [Nat.add_mul] at hl;omega) fun i hi=>h i (by omega)
    have h2:=h n (by omega)
    have e:us.take ((n+1)*sz)=us.take (n*sz)++(us.drop (n*sz)).take sz:=by
      rw [show (n+1)*sz=n*sz+sz by rw [Nat.add_mul,Nat.one_mul],List.take_add]
    rw [e]
    exact h1.append (by simpa using h2)
theorem lift{enc:TypeId×Value→H}{P:Program}{W:World}{spare:Nat→Bool}{held:Bool}:∀(m:Nat) (t:TypeId),goodT P m t=true→∀(fuel:Nat) (cs:List Value) (x:DataW H×List MemPlace),cs.length=P.cellsOf t→
    DataW.trod enc P W 0 spare held fuel t cs=some x→VRs (gW W) (absC P m t x.1) cs∧∀u∈cs,u.oneCell'=true
  |0,t,h,_,_,_,_,_=>by simp [goodT] at h
  |m+1,t,hg,fuel,cs,x,hlen,h=>by
    have one:∀{a:AV} {u:Value},VR (gW W) a u→u.oneCell'=true→VRs (gW W) [a] [u]∧∀v∈ [u],v.oneCell'=true:=fun h1 h2=>⟨.cons h1 (.nil _),by simpa using h2⟩
    simp only [goodT] at hg
    split at hg
    · rename_i hu
      obtain ⟨b,rfl,rfl⟩:=DataW.trod_bool hu h
      simp only [absC,hu]
      exact one (.val _ rfl) rfl
    · rename_i hu
      obtain ⟨n,rfl,rfl,hw⟩:=DataW.trod_int hu h
      simp only [absC,hu]
      exact one (.val _ rfl) rfl
    · rename_i hu
      obtain ⟨b,rfl,rfl,hw⟩:=DataW.trod_string hu h
      simp only [absC,hu]
      exact one (.val _ rfl) rfl
    · rename_i e hu
      rcases DataW.trod_slice hu h with ⟨rfl,rfl⟩|⟨a,len,cap,elems,rest,n,_,rfl,rfl,_,hlc,hcm,hel,hat,_,_⟩
      · simp only [absC,hu]
        exact one .nils rfl
      · simp only [absC,hu]
        refine one ?_ rfl
        rw [List.length_map,hel]
        have each:∀i,i<len→∃(y:DataW H×List MemPlace) (ci:List Value),elems[i]? =some y∧W.cells? 0 (a.add (i*P.cellsOf e)) (P.cellsOf e)=some ci∧VRs (gW W) (absC P m e y.1) ci∧∀u∈ci,u.oneCell'=true:=fun i hi=>by
          have h1:=hat i hi
          rw [List.getElem?_eq_getElem (by omega)] at h1
          obtain ⟨ci,k1,k2⟩:=Option.bind_eq_some_iff.1 h1
          obtain ⟨h3,h4⟩:=lift m e hg n ci _ (cells_get k1).1 k2
          exact ⟨_,ci,List.getElem?_eq_getElem (by omega),k1,h3,h4⟩
        by_cases hz:len*P.cellsOf e=0
        · have hnil:(List.map (fun x=>x.fst) elems).flatMap (absC P m e)= []:=by
            rw [List.flatMap_eq_nil_iff]
            intro d hd
            obtain ⟨y,hy,rfl⟩:=List.mem_map.1 hd
            obtain ⟨i,hi,rfl⟩:=List.mem_iff_getElem.1 hy
            obtain ⟨y',ci,q1,q2,q3,q4⟩:=each i (by omega)
            rw [List.getElem?_eq_getElem hi] at q1
            cases q1
            have:P.cellsOf e=0:=by
              rcases Nat.mul_eq_zero.1 hz with h0|h0
              · omega
              · exact h0
            have hl:=(cells_get q2).1
            rw [this] at hl
            have hc0:ci= []:=List.eq_nil_of_length_eq_zero hl
            have:=q3.1
            rw [hc0] at this
            exact List.eq_nil_of_length_eq_zero this.symm
          rw [hnil]
          exact .imm _ len cap false [] [] a (by simp [hz]) rfl (fun i hi=>by simp at hi) (by simp) (fun h=>absurd hz h) hlc (fun h=>by cases h) hcm
        · have hpos:0<P.cellsOf e:=Nat.pos_of_ne_zero fun h0=>hz (by simp [h0])
          have hlen0:0<len:=Nat.pos_of_ne_zero fun h0=>hz (by simp [h0])
          obtain ⟨b,o,sp⟩:=a
          obtain ⟨_,ci0,_,q0,_,_⟩:=each 0 hlen0
          have hsp:sp=none:=by
            have:=(cells_mem q0 (by omega)).1
            simpa [Addr.add] using this
          subst hsp
          have mem:∀i,i<len→∃ci,W.cells? 0 (Addr.add ⟨b,o,none⟩ (i*P.cellsOf e)) (P.cellsOf e)=some ci∧ci=((((gW W).M b).drop o).drop (i*P.cellsOf e)).take (P.cellsOf e):=fun i hi=>by
            obtain ⟨y,ci,q1,q2,q3,q4⟩:=each i hi
            obtain ⟨k1,k2⟩:=cells_mem q2 (by omega)
            refine ⟨ci,q2,?_⟩
            rw [add_none] at k2
            rw [List.drop_drop]
            exact k2
          have hsz:len*P.cellsOf e≤(((gW W).M b).drop o).length:=by
            obtain ⟨ci,k1,k3⟩:=mem (len- 1) (by omega)
            have hl:=(cells_get k1).1
            rw [k3,List.length_take,List.length_drop] at hl
            have:(len- 1)*P.cellsOf e+P.cellsOf e=len*P.cellsOf e:=by
              rw [←Nat.succ_mul];congr 1;omega
            omega
          have hch:=lift_chunks (g:=gW W) (us:=((gW W).M b).drop o) (sz:=P.cellsOf e) (f:=fun i=>absC P m e ((elems.map (·.1)).getD i .nil)) len hsz fun i hi=>by
            obtain ⟨y,ci,q1,q2,q3,q4⟩:=each i hi
            obtain ⟨ci',k1,k3⟩:=mem i hi
            rw [k1] at q2
            cases q2
            rw [←k3]
            have:(elems.map (·.1)).getD i .nil=y.1:=by rw [List.getD_eq_getElem?_getD,List.getElem?_map,q1];rfl
            rw [this]
            exact q3
          have hfm:(List.range len).flatMap (fun i=>absC P m e ((elems.map (·.1)).getD i .nil))=(elems.map (·.1)).flatMap (absC P m e):=by
            have:elems.map (·.1)=(List.range len).map (fun i=>(elems.map (·.1)).getD i .nil):=by
              apply List.ext_getElem?
              intro i
              by_cases hi:i<len
              · rw [List.getElem?_map,List.getElem?_map,List.getElem?_range hi]
                simp [List.getD_eq_getElem?_getD,List.getElem?_eq_getElem (show i<elems.length by omega)]
              · rw [List.getElem?_eq_none (by simp;omega),List.getElem?_eq_none (by simp;omega)]
            conv=>rhs;rw [this]
            rw [List.flatMap_map]
          rw [hfm] at hch
          have hul:((((gW W).M b).drop o).take (len*P.cellsOf e)).length=len*P.cellsOf e:=by rw [List.length_take];omega
          refine .imm _ len cap false _ ((((gW W).M b).drop o).take (len*P.cellsOf e)) ⟨b,o,none⟩ ?_ hch.1 hch.2 ?_ (fun _=>⟨rfl,List.take_prefix _ _⟩) hlc (fun h=>by cases h) hcm
          · rw [←hch.1,hul]
          · intro u hu
            obtain ⟨k,hk,rfl⟩:=List.mem_iff_getElem.1 hu
            rw [hul] at hk
            have hki:k/P.cellsOf e<len:=Nat.div_lt_of_lt_mul (by rw [Nat.mul_comm];exact hk)
            obtain ⟨y,ci,q1,q2,q3,q4⟩:=each (k/P.cellsOf e) hki
            obtain ⟨ci',k1,k3⟩:=mem (k/P.cellsOf e) hki
            rw [k1] at q2
            cases q2
            refine q4 _ (List.mem_of_getElem? (i:=k%P.cellsOf e) ?_)
            rw [k3,List.getElem?_take,if_pos (Nat.mod_lt _ hpos),List.getElem?_drop,Nat.mul_comm,Nat.div_add_mod,List.getElem_take,List.getElem?_eq_getElem]
    · rename_i fs hu
      simp only [Bool.and_eq_true,List.all_eq_true] at hg
      obtain ⟨hg1,hg2⟩:=hg
      obtain ⟨xs,n,_,rfl,_,hxl,hat⟩:=DataW.trod_struct hu h
      simp only [absC,hu]
      have gen:∀(l:List Field) (ys:List (DataW H×List MemPlace)) (off:Nat),contig P (P.cellsOf t) off l=true→(∀f∈l,goodT P m f.type=true)→ys.length=l.length→
          (∀(i:Nat) (f:Field),l[i]? =some f→DataW.trod enc P W 0 spare held n f.type ((cs.drop f.offset).take (P.cellsOf f.type))=ys[i]?)→off≤P.cellsOf t→
          VRs (gW W) (absF (absC P m) l (ys.map (·.1))) (cs.drop off)∧∀u∈cs.drop off,u.oneCell'=true:=by
        intro l
        induction l with
        |nil=>
          intro ys off hc _ hy _ _
          simp only [contig,beq_iff_eq] at hc
          have:cs.drop off= []:=List.drop_eq_nil_iff.2 (by omega)
          rw [this]
          exact ⟨.nil _,by simp⟩
        |cons f l ih=>
          intro ys off hc hgd hy hd hoff
          simp only [contig,Bool.and_eq_true,beq_iff_eq] at hc
          obtain ⟨hc1,hc2⟩:=hc
          match ys,hy with
          |y::ys,hy=>
          have h0:=hd 0 f rfl
          simp only [List.getElem?_cons_zero] at h0
          rw [hc1] at h0
          have hle:∀(l:List Field) (o:Nat),contig P (P.cellsOf t) o l=true→o≤P.cellsOf t:=by
            intro l
            induction l with
            |nil=>intro o h;simp only [contig,beq_iff_eq] at h;omega
            |cons f l ih=>intro o h;simp only [contig,Bool.and_eq_true] at h;have:=ih _ h.2;omega
          have hle2:=hle l _ hc2
          have hl1:((cs.drop off).take (P.cellsOf f.type)).length=P.cellsOf f.type:=by rw [List.length_take,List.length_drop];omega
          obtain ⟨k1,k2⟩:=lift m f.type (hgd f (by simp)) n _ _ hl1 h0
          obtain ⟨k3,k4⟩:=ih ys (off+P.cellsOf f.type) hc2 (fun f' hf=>hgd f' (by simp [hf])) (by simpa using hy) (fun i f' hf=>hd (i+1) f' (by simpa using hf)) hle2
          have e:cs.drop off=(cs.drop off).take (P.cellsOf f.type)++cs.drop (off+P.cellsOf f.type):=by
            rw [←List.drop_drop,List.take_append_drop]
          rw [e]
          refine ⟨?_,fun u hu=> ?_⟩
          · simp only [List.map_cons,absF]
            exact k1.append k3
          · rcases List.mem_append.1 hu with h|h
            · exact k2 u h
            · exact k4 u h
      have:=gen fs.toList xs 0 hg1 hg2 (by simpa using hxl) (fun i f hf=>hat i f (by simpa using hf)) (Nat.zero_le _)
      simpa using this
    · rename_i nn e hu
      simp only [Bool.and_eq_true,beq_iff_eq] at hg
      obtain ⟨hg1,hg2⟩:=hg
      obtain ⟨xs,n,_,rfl,_,hxl,hat⟩:=DataW.trod_array hu h
      simp only [absC,hu]
      have each:∀i,i<nn→∃y,xs[i]? =some y∧VRs (gW W) (absC P m e y.1) ((cs.drop (i*P.cellsOf e)).take (P.cellsOf e))∧∀u∈(cs.drop (i*P.cellsOf e)).take (P.cellsOf e),u.oneCell'=true:=fun i hi=>by
        have h1:=hat i hi
        rw [List.getElem?_eq_getElem (by omega)] at h1
        have hm:(i+1)*P.cellsOf e≤nn*P.cellsOf e:=Nat.mul_le_mul_right _ hi
        rw [Nat.add_mul,Nat.one_mul] at hm
        obtain ⟨h3,h4⟩:=lift m e hg2 n _ _ (by rw [List.length_take,List.length_drop];omega) h1
        exact ⟨_,List.getElem?_eq_getElem (by omega),h3,h4⟩
      have hch:=lift_chunks (g:=gW W) (us:=cs) (sz:=P.cellsOf e) (f:=fun i=>absC P m e ((xs.map (·.1)).getD i .nil)) nn (by omega) fun i hi=>by
        obtain ⟨y,q1,q3,q4⟩:=each i hi
        have:(xs.map (·.1)).getD i .nil=y.1:=by rw [List.getD_eq_getElem?_getD,List.getElem?_map,q1];rfl
        rw [this]
        exact q3
      have hfm:(List.range nn).flatMap (fun i=>absC P m e ((xs.map (·.1)).getD i .nil))=(xs.map (·.1)).flatMap (absC P m e):=by
        have:xs.map (·.1)=(List.range nn).map (fun i=>(xs.map (·.1)).getD i .nil):=by
          apply List.ext_getElem?
          intro i
          by_cases hi:i<nn
          · rw [List.getElem?_map,List.getElem?_map,List.getElem?_range hi]
            simp [List.getD_eq_getElem?_getD,List.getElem?_eq_getElem (show i<xs.length by omega)]
          · rw [List.getElem?_eq_none (by simp;omega),List.getElem?_eq_none (by simp;omega)]
        conv=>rhs;rw [this]
        rw [List.flatMap_map]
      rw [hfm,List.take_of_length_le (by omega)] at hch
      refine ⟨hch,fun u hu=> ?_⟩
      obtain ⟨k,hk,rfl⟩:=List.mem_iff_getElem.1 hu
      have hpos:0<P.cellsOf e:=Nat.pos_of_ne_zero fun h0=>by rw [h0,Nat.mul_zero] at hg1;omega
      have hki:k/P.cellsOf e<nn:=Nat.div_lt_of_lt_mul (by rw [Nat.mul_comm];omega)
      obtain ⟨y,q1,q3,q4⟩:=each (k/P.cellsOf e) hki
      refine q4 _ (List.mem_of_getElem? (i:=k%P.cellsOf e) ?_)
      rw [List.getElem?_take,if_pos (Nat.mod_lt _ hpos),List.getElem?_drop,Nat.mul_comm,Nat.div_add_mod,List.getElem?_eq_getElem]
    · cases hg
end
section
set_option maxRecDepth 4000
variable {H:Type}
/-! ### what is read has its type's shape -/
def ShpF(F:TypeId→DataW H→Prop):List Field→List (DataW H)→Prop
  | [],[]=>True
  |f::fs,d::ds=>F f.type d∧ShpF F fs ds
  |_,_=>False
def Shp(P:Program):Nat→TypeId→DataW H→Prop
  |0,_,_=>False
  |m+1,t,d=>match P.underlying t with
    |some .bool=>∃b,d= .lit (.bool b)
    |some (.int k)=>∃n,d= .lit (.int k n)∧(Lit.int k n).wf=true
    |some .string=>∃s:ByteArray,d= .lit (.string s.data.toList)∧s.size≤maxLen
    |some (.slice e)=>d= .nil∨∃l sp,d= .slice l sp∧l.length≤maxLen∧∀y∈l,Shp P m e y
    |some (.struct fs)=>∃ds,d= .agg ds∧ShpF (Shp P m) fs.toList ds
    |some (.array n e)=>∃ds,d= .agg ds∧ds.length=n∧∀y∈ds,Shp P m e y
    |_=>False
def shpT(P:Program):Nat→TypeId→Bool
  |0,_=>false
  |m+1,t=>match P.underlying t with
    |some .bool=>true
    |some (.int _)=>true
    |some .string=>true
    |some (.slice e)=>shpT P m e
    |some (.struct fs)=>fs.toList.all (fun f=>shpT P m f.type)
    |some (.array _ e)=>shpT P m e
    |_=>false
theorem shp_of{enc:TypeId×Value→H}{P:Program}{W:World}{spare:Nat→Bool}{held:Bool}:∀(m:Nat) (t:TypeId),shpT P m t=true→∀(fuel:Nat) (cs:List Value) (x:DataW H×List MemPlace),
    DataW.trod enc P W 0 spare held fuel t cs=some x→Shp P m t x.1
  |0,t,h,_,_,_,_=>by simp [shpT] at h
  |m+1,t,hg,fuel,cs,x,h=>by
    simp only [shpT] at hg
    simp only [Shp]
    split at hg
    · rename_i hu
      obtain ⟨b,rfl,rfl⟩:=DataW.trod_bool hu h
      simp only
      exact ⟨b,rfl⟩
    · rename_i hu
      obtain ⟨n,rfl,rfl,hw⟩:=DataW.trod_int hu h
      simp only
      exact ⟨n,rfl,hw⟩
    · rename_i hu
      obtain ⟨b,rfl,rfl,hw⟩:=DataW.trod_string hu h
      simp only
      exact ⟨b,rfl,hw⟩
    · rename_i e hu
      rcases DataW.trod_slice hu h with ⟨rfl,rfl⟩|⟨a,len,cap,elems,rest,n,_,rfl,rfl,_,hlc,hcm,hel,hat,_,_⟩
      · exact .inl rfl
      · refine .inr ⟨_,_,rfl,by rw [List.length_map];omega,fun d hd=> ?_⟩
        obtain ⟨y,hy,rfl⟩:=List.mem_map.1 hd
        obtain ⟨i,hi,rfl⟩:=List.mem_iff_getElem.1 hy
        have h1:=hat i (by omega)
        rw [List.getElem?_eq_getElem hi] at h1
        obtain ⟨ci,k1,k2⟩:=Option.bind_eq_some_iff.1 h1
        exact shp_of m e hg n ci _ k2
    · rename_i fs hu
      simp only [List.all_eq_true] at hg
      obtain ⟨xs,n,_,rfl,_,hxl,hat⟩:=DataW.trod_struct hu h
      simp only
      refine ⟨_,rfl,?_⟩
      have gen:∀(l:List Field) (ys:List (DataW H×List MemPlace)),(∀f∈l,shpT P m f.type=true)→ys.length=l.length→
          (∀(i:Nat) (f:Field),l[i]? =some f→DataW.trod enc P W 0 spare held n f.type ((cs.drop f.offset).take (P.cellsOf f.type))=ys[i]?)→ShpF (Shp P m) l (ys.map (·.1)):=by
        intro l
        induction l with
        |nil=>
          intro ys _ hy _
          obtain rfl:ys= []:=List.eq_nil_of_length_eq_zero hy
          trivial
        |cons f l ih=>
          intro ys hgd hy hd
          match ys,hy with
          |y::ys,hy=>
          have h0:=hd 0 f rfl
          simp only [List.getElem?_cons_zero] at h0
          exact ⟨shp_of m f.type (hgd f (by simp)) n _ _ h0,ih ys (fun f' hf=>hgd f' (by simp [hf])) (by simpa using hy) (fun i f' hf=>hd (i+1) f' (by simpa using hf))⟩
      exact gen fs.toList xs hg (by simpa using hxl) (fun i f hf=>hat i f (by simpa using hf))
    · rename_i nn e hu
      obtain ⟨xs,n,_,rfl,_,hxl,hat⟩:=DataW.trod_array hu h
      simp only
      refine ⟨_,rfl,by rw [List.length_map];exact hxl,fun d hd=> ?_⟩
      obtain ⟨y,hy,rfl⟩:=List.mem_map.1 hd
      obtain ⟨i,hi,rfl⟩:=List.mem_iff_getElem.1 hy
      have h1:=hat i (by omega)
      rw [List.getElem?_eq_getElem hi] at h1
      exact shp_of m e hg n _ _ h1
    · cases hg
theorem shp_int{P:Program}{m:Nat}{t:TypeId}{k:IntKind}{d:DataW H}(hu:P.underlying t=some (.int k))(h:Shp P (m+1) t d):∃n,d= .lit (.int k n)∧(Lit.int k n).wf=true:=by simpa only [Shp,hu] using h
theorem shp_bool{P:Program}{m:Nat}{t:TypeId}{d:DataW H}(hu:P.underlying t=some .bool)(h:Shp P (m+1) t d):∃b,d= .lit (.bool b):=by simpa only [Shp,hu] using h
theorem shp_slice{P:Program}{m:Nat}{t e:TypeId}{d:DataW H}(hu:P.underlying t=some (.slice e))(h:Shp P (m+1) t d):d= .nil∨∃l sp,d= .slice l sp∧l.length≤maxLen∧∀y∈l,Shp P m e y:=by simpa only [Shp,hu] using h
theorem shp_struct{P:Program}{m:Nat}{t:TypeId}{fs:Array Field}{d:DataW H}(hu:P.underlying t=some (.struct fs))(h:Shp P (m+1) t d):∃ds,d= .agg ds∧ShpF (Shp P m) fs.toList ds:=by simpa only [Shp,hu] using h
/-- numbers in a slice, as the machine has them -/
theorem shp_nums{P:Program}{m:Nat}{t e:TypeId}{k:IntKind}{d:DataW H}(hu:P.underlying t=some (.slice e))(he:P.underlying e=some (.int k))(hc:P.cellsOf e=1)(h:Shp P (m+2) t d):
    ∃ns:List Int,(∀n∈ns,(Lit.int k n).wf=true)∧ns.length≤maxLen∧((ns= []∧d= .nil∧absC P (m+2) t d= [.nils])∨∃l sp,d= .slice l sp∧l.length=ns.length∧absC P (m+2) t d= [.imm 1 ns.length false (ns.map fun n=> .val (.int k n))]):=by
  rcases shp_slice hu h with rfl|⟨l,sp,rfl,hl,hs⟩
  · exact ⟨[],by simp,by simp,.inl ⟨rfl,rfl,by simp only [absC,hu]⟩⟩
  · have gen:∀l:List (DataW H),(∀y∈l,Shp P (m+1) e y)→∃ns:List Int,(∀n∈ns,(Lit.int k n).wf=true)∧l.length=ns.length∧l.flatMap (absC P (m+1) e)=ns.map fun n=>AV.val (.int k n):=fun l=>by
      induction l with
      |nil=>exact fun _=>⟨[],by simp,rfl,rfl⟩
      |cons y r ih=>
        intro hs
        obtain ⟨ns,h1,h2,h3⟩:=ih fun z hz=>hs z (by simp [hz])
        obtain ⟨n,rfl,hw⟩:=shp_int he (hs y (by simp))
        refine ⟨n::ns,by simpa using ⟨hw,h1⟩,by simp [h2],?_⟩
        rw [List.flatMap_cons,h3]
        simp only [absC,he,List.map_cons]
        rfl
    obtain ⟨ns,h1,h2,h3⟩:=gen l hs
    refine ⟨ns,h1,by omega,.inr ⟨l,sp,rfl,h2,?_⟩⟩
    rw [←h2,←h3]
    simp only [absC,hu,hc]
end
end Go.Proofs.YtnknfheabnogaaaGreatDoor.E
