/- Part 4 of the proof, over the abstract machine: contracts of the functions that the statement reaches, joined out of several texts. Condition: none beyond those that the lemmas name. -/
import Derived.Test.YtalchcdenhfmiaaGreatDoorP3
import Derived.Shelf.Strconv.Itoa3
import Derived.Ground.NamesProg
import Derived.Lib.ItoaLen
namespace Go.Proofs.YtalchcdenhfmiaaGreatDoor.E
open Go Go.Proofs
section
set_option maxRecDepth 4000
theorem obC_gl{f:Nat}{args:List AV}{st st':St}{a:AV}(h:obC f args st a st'):obC f args st a {st' with gl:=st.gl}:=by
 by_cases e:st'.gl=st.gl
 ·rw [←e];exact h
 ·exact fun g w us hok hv=>(h g w us hok hv).mono fun e' w' ⟨g',s,r,v,h1,k1,h3,h4,h5⟩=>absurd (by rw [←h5];exact k1.gl) e
def OwnW(st0 st:St)(v:AV)(c:List Int):Prop:=∃i,v= .sl i 1 0 c.length false∧st.get i=some (.row (c.map u8) 5)∧st0.next≤i
theorem OwnW.rest{st0 st st':St}{v:AV}{c:List Int}{S:List Nat}(h:OwnW st0 st v c)(hr:Rest st st' S)(hS:∀i∈S,i<st0.next):OwnW st0 st' v c:=by
 obtain ⟨i,h1,h2,h3⟩:=h
 exact ⟨i,h1,hr.keep i _ (fun hi=>by have:=hS i hi;omega) h2,h3⟩
theorem OwnW.arg{st0 st:St}{v:AV}{c:List Int}(h:OwnW st0 st v c):ArgB st v c:=by
 obtain ⟨i,h1,h2,_⟩:=h
 exact .inr (.inr ⟨i,false,h1,h2⟩)
section
variable {st:St} {w d m nx op ct:Nat} {s:PS}
theorem WA.lt(h:WA st w d m s nx op ct):∀i∈ [d,m,w],i<st.next:=fun i hi=>by
 obtain ⟨_,_,hm⟩:=h.disk.map
 simp only [List.mem_cons,List.not_mem_nil,or_false] at hi
 rcases hi with rfl|rfl|rfl
 ·exact h.wf _ _ h.disk.row
 ·exact h.wf _ _ hm
 ·exact h.wf _ _ h.row
end
end
section
set_option maxRecDepth 4000
def Ls(st:St)(e sz:Nat)(l:AV)(n:Nat)(cells:List AV):Prop:=(n=0∧cells= []∧l= .nils)∨(0<n∧cells.length=n*sz∧∃id,l= .sl id sz 0 n false∧st.get id=some (.row cells e))
theorem Ls.keep{st st':St}{e sz n:Nat}{l:AV}{cells:List AV}(h:Ls st e sz l n cells)(hk:∀id,l= .sl id sz 0 n false→st.get id=some (.row cells e)→st'.get id=some (.row cells e)):Ls st' e sz l n cells:=by
 rcases h with h|⟨h1,h2,id,h3,h4⟩
 ·exact .inl h
 ·exact .inr ⟨h1,h2,id,h3,hk id h3 h4⟩
structure ElT (t e sz:Nat):Prop where
 el:∃ti z,elemA E0 t=some (e,ti,z)∧ti.size=sz∧ti.bytes≤1000
 str:isStrTy E0 t=false
 src:∀st x,srcA E0 st t x=sliceCells st x
theorem elT_of{t e sz:Nat}(h:(elemA E0 t).map (fun q=>(q.1,q.2.1.size,decide (q.2.1.bytes≤1000)))=some (e,sz,true)):∃ti z,elemA E0 t=some (e,ti,z)∧ti.size=sz∧ti.bytes≤1000:=by
 obtain ⟨⟨a,ti,z⟩,h1,h2⟩:=Option.map_eq_some_iff.1 h
 simp only [Prod.mk.injEq,decide_eq_true_eq] at h2
 obtain ⟨rfl,h3,h4⟩:=h2
 exact ⟨ti,z,h1,h3,h4⟩
theorem el55:ElT 73 3 1:=⟨elT_of (by kernel_rfl),by kernel_rfl,fun st x=>by
 have:E0.ty 73=some ⟨.slice 3,1,24,some (.slice none 0 0)⟩:=by kernel_rfl
 simp only [srcA,this]⟩
theorem app_one{t e sz:Nat}(hT:ElT t e sz){st3:St}{l:AV}{n:Nat}{cells c:List AV}(h:Ls st3 e sz l n cells)(hw:st3.wf)(hl:st3.lock= [])(hb:n+1≤1000000)(hc:c.length=sz)(h0:0<sz):
  ∃st5,appendA E0 (st3.push (.row c e)) t t l (.sl st3.next sz 0 1 true)=some (.sl (st3.next+1) sz 0 (n+1) false,st5)∧Ls st5 e sz (.sl (st3.next+1) sz 0 (n+1) false) (n+1) (cells++c)∧st5.lock= []∧st5.next=st3.next+2∧st5.gl=st3.gl∧st5.wf∧
   ∀i o,st3.get i=some o→l≠ .sl i sz 0 n false→st5.get i=some o:=by
 obtain ⟨ti,z,h1,h2,h3⟩:=hT.el
 have hx:sliceCells (st3.push (.row c e)) (.sl st3.next sz 0 1 true)=some (1,c):=by
  simp only [sliceCells]
  rw [St.get_push,if_pos rfl]
  simp only [Nat.zero_add,Nat.one_mul,List.drop_zero]
  rw [if_pos (by omega),List.take_of_length_le (by omega)]
 have hbb:(n+1)*ti.bytes≤140737488355328:=Nat.le_trans (Nat.mul_le_mul hb h3) (by decide)
 have hb1:1*ti.bytes≤140737488355328:=by omega
 rcases h with ⟨rfl,rfl,rfl⟩|⟨hn,hlen,id,rfl,hg⟩
 ·refine ⟨(st3.push (.row c e)).push (.row c e),?_,.inr ⟨by omega,by simp [hc],_,rfl,by rw [St.get_push,if_pos (by simp)];rfl⟩,by simpa using hl,rfl,rfl,push_wf (push_wf hw _) _,fun i o ho _=> ?_⟩
  ·simp only [appendA,h1,hT.src,hT.str,hx,h2]
   rw [if_pos ⟨by omega,fun h=>by cases h⟩,if_neg (by decide),if_pos ⟨hb1,by omega⟩];rfl
  ·have:=hw _ _ ho
   rw [St.get_push,if_neg (by rw [St.next_push];omega),St.get_push,if_neg (by omega)];exact ho
 ·have hid:=hw _ _ hg
  have hg':(st3.push (.row c e)).get id=some (.row cells e):=by rw [St.get_push,if_neg (by omega)];exact hg
  refine ⟨((st3.push (.row c e)).del id).push (.row (cells++c) e),?_,.inr ⟨by omega,by rw [List.length_append,hlen,hc,Nat.add_mul,Nat.one_mul],_,rfl,by rw [St.get_push,if_pos (by simp)]⟩,by simpa using hl,rfl,rfl,push_wf (del_wf (push_wf hw _) _) _,fun i o ho hne'=> ?_⟩
  ·simp only [appendA,h1,hT.src,hT.str,hx,h2,hg']
   rw [if_pos ⟨by omega,fun h=>by cases h⟩,if_neg (fun h=>h rfl),if_neg (by decide),if_pos ⟨hbb,by omega⟩,if_pos ⟨trivial,by omega⟩]
   simp only [Bool.false_eq_true,if_false]
   rw [if_pos ⟨by omega,by simp [hl]⟩,List.drop_zero];rfl
  ·have:=hw _ _ ho
   rw [St.get_push,if_neg (by rw [St.next_del,St.next_push];omega),St.get_del,if_neg (fun e=>hne' (by rw [e])),St.get_push,if_neg (by omega)];exact ho
theorem build55(st:St)(k:Int):buildSliceA E0 st 73 1 [(0,i64 k)]=some (.sl st.next 1 0 1 true,st.push (.row [i64 k] 3)):=by kernel_rfl
end
section
set_option maxRecDepth 4000
def SlT(t e sz:Nat):Prop:=(∃i,E0.ty t=some i∧i.desc= .slice e)∧tySize E0 e=some sz
theorem sl69:SlT 101 9 1:=⟨⟨_,rfl,by kernel_rfl⟩,by kernel_rfl⟩
theorem sl55:SlT 73 3 1:=⟨⟨_,rfl,by kernel_rfl⟩,by kernel_rfl⟩
theorem sl22:SlT 32 22 1:=⟨⟨_,rfl,by kernel_rfl⟩,by kernel_rfl⟩
theorem sl28:SlT 43 95 2:=⟨⟨_,rfl,by kernel_rfl⟩,by kernel_rfl⟩
theorem idxS{t e sz:Nat}(h:SlT t e sz){f off len i:Nat}{fl:Bool}(hi:i<len):indexAddrA E0 t (.sl f sz off len fl) (i64 i)=some (.ptr f (off+i*sz)):=by
 obtain ⟨⟨q,h1,h2⟩,h3⟩:=h
 simp only [indexAddrA,h1,h2,h3]
 rw [if_pos ⟨trivial,by omega,by omega⟩]
 rfl
theorem lenS{t e sz:Nat}(h:SlT t e sz){f z off len:Nat}{fl:Bool}:lenA E0 t (.sl f z off len fl)=some (i64 len):=by
 obtain ⟨⟨q,h1,h2⟩,_⟩:=h
 simp only [lenA,h1,h2]
theorem lenS0{t e sz:Nat}(h:SlT t e sz):lenA E0 t .nils=some (i64 0):=by
 obtain ⟨⟨q,h1,h2⟩,_⟩:=h
 simp only [lenA,h1,h2]
theorem Ls.len{t e sz:Nat}(h:SlT t e sz){st:St}{l:AV}{n:Nat}{cells:List AV}(hl:Ls st e sz l n cells):lenA E0 t l=some (i64 n):=by
 rcases hl with ⟨rfl,_,rfl⟩|⟨_,_,id,rfl,_⟩
 ·exact lenS0 h
 ·exact lenS h
theorem lenN(st:St)(R:List ByteArray):lenA E0 101 (namesV st R)=some (i64 R.length):=by
 cases R with
 |nil=>exact lenS0 sl69
 |cons a r=>exact lenS sl69
theorem names_rest{st:St}(hw:st.wf)(R:List ByteArray):Rest st (namesS st R) []:=by
 cases R with
 |nil=>exact Rest.refl hw _
 |cons a r=>exact Rest.push hw _ _
section
variable {st:St} {w d m nx op ct:Nat} {s:PS}
end
end
section
set_option maxRecDepth 4000
theorem el28':ElT 43 95 2:=⟨elT_of (by kernel_rfl),by kernel_rfl,fun st x=>by
 obtain ⟨⟨q,h1,h2⟩,_⟩:=sl28
 simp only [srcA,h1,h2]⟩
end
section
set_option maxRecDepth 4000
theorem AW.blockN{P:Program}{c:Code}{id:Nat}{L:Tm→Prop}{T:Tm}{st s:St}(h:AW P c (fun ex T' st'=>ex= .normal∧L T'∧st'=s) T st):AW P (.block id c) (fun ex T' st'=>ex= .normal∧L T'∧st'=s) T st:=
 .block (h.mono fun ex T' st' ⟨h1,h2,h3⟩=>by subst h1;exact ⟨rfl,h2,h3⟩)
def nxtK(K:List Nat)(i:Nat):Nat:=if i=0 then 1 else K.getD (i- 1) 0+1
end
section
set_option maxRecDepth 4000
theorem calm_map{L:List PF}(hd:∀f∈L,DV f)(n:Nat)(bs:List Nat)(c:Nat):Calm n (.map (L.map ent) bs c):=fun id vs _=>by
 show AObj.map ((L.map ent).map fun p=>(frz id vs p.1,frz id vs p.2)) bs c=_
 congr 1
 rw [List.map_map]
 refine List.map_congr_left fun f hf=> ?_
 show (frz id vs (str f.name),AV.agg (frzL id vs [f.dv,i64 f.last]))=_
 simp only [frzL,frz_dv (id:=id) (vs:=vs) (hd f hf)]
 rfl
theorem PD.restF{st st':St}{d m:Nat}{s:PS}(h:PDs st d m s)(hg:∀f∈s.L,DV f){S:List Nat}(hr:RestF st st' S)(h1:d∉S)(h2:m∉S):PDs st' d m s:=by
 obtain ⟨bs,c,hm⟩:=h.map
 exact ⟨hr.keep _ _ h1 h.row (fun id vs _=>rfl),bs,c,hr.keep _ _ h2 hm (calm_map hg _ bs c)⟩
end
section
set_option maxRecDepth 4000
theorem AW.seqExit{P:Program}{a b:Code}{k:Nat}{L:Tm→Prop}{T:Tm}{st s:St}(h:AW P a (fun ex T' st'=>ex= .exit k∧L T'∧st'=s) T st):AW P (.seq a b) (fun ex T' st'=>ex= .exit k∧L T'∧st'=s) T st:=
 .seq (h.mono fun ex T' st' ⟨h1,h2,h3⟩=>by subst h1;exact ⟨rfl,h2,h3⟩)
theorem build54(d:Nat):buildA E0 93 [(0,.ptr d 0),(1,i64 1)]=some (.agg [.ptr d 0,i64 1,i64 0,i64 0]):=by kernel_rfl
theorem box54(st:St)(d:Nat):boxA st 93 (.agg [.ptr d 0,i64 1,i64 0,i64 0])=some (.ptr st.next 0,st.push (.row [.ptr d 0,i64 1,i64 0,i64 0] 93)):=by kernel_rfl
end
section
set_option maxRecDepth 4000
end
section
set_option maxRecDepth 4000
section
variable {st:St} {w d m nx op ct:Nat} {s:PS}
end
end
section
set_option maxRecDepth 4000
end
section
set_option maxRecDepth 4000
end
section
set_option maxRecDepth 4000
theorem emb_tab{st:St}(hgl:st.gl=(stTab tabsD).gl):Emb (stTab tabsD) st (fun i=>st.next+i):=
 ⟨fun i _=>rfl,fun i h=>by simp [stTab] at h,fun i j o o' h=>by simp [stTab,St.get,Tr.get] at h,fun id o h=>by simp [stTab,St.get,Tr.get] at h,fun id o h=>by simp [stTab,St.get,Tr.get] at h,fun id o h=>by simp [stTab,St.get,Tr.get] at h,fun p hp=>⟨by rw [hgl];exact hp,fun a ha=>by
  obtain ⟨t,_,rfl⟩:=List.mem_map.1 hp
  simp only [intsAV] at ha
  obtain ⟨z,_,rfl⟩:=List.mem_map.1 ha
  exact ⟨_,rfl⟩⟩⟩
theorem awake7:((evCall E0 ovF 1000000 12 [] (stTab tabsD)).map fun q=>(q.1,q.2.lock))=some (TT,[]):=by kernel_rfl
theorem awake_det{st:St}(hgl:st.gl=(stTab tabsD).gl)(hw:st.wf):∃st',obC 12 [] st TT st'∧Rest st st' []:=by
 obtain ⟨⟨a,s⟩,h1,h2⟩:=Option.map_eq_some_iff.1 awake7
 simp only [Prod.mk.injEq] at h2
 obtain ⟨rfl,hk⟩:=h2
 have hc:=(ev_ok (envOf_ok (P:=Tryz.prog) rfl) ovF_ok 1000000).call 12 [] (stTab tabsD) _ h1
 have hc2:ACalls Tryz.prog 12 [] (fun a' s'=>a'=TT∧s'=⟨s.next,.nil,[],s.gl⟩) (stTab tabsD):=hc.forget fun a' s' e _=>by
  cases e
  exact ⟨⟨s.next,.nil,[],s.gl⟩,⟨rfl,rfl⟩,fun i o hi=>by simp [St.get,Tr.get] at hi,rfl,hk.symm,rfl⟩
 have hE:=emb_tab hgl
 have hnone:∀k,(⟨s.next,.nil,[],s.gl⟩:St).get k=none:=fun k=>by simp [St.get,Tr.get]
 refine ⟨mergeSt ⟨s.next,.nil,[],s.gl⟩ st (stTab tabsD) (fun i=>st.next+i),(hc2.frame hE).mono fun a s0 hq=> ?_,⟨fun i o _ ho=> ?_,Nat.le_add_right _ _,rfl,rfl,fun i o hi=> ?_⟩⟩
 ·obtain ⟨r0,st0',⟨h1,h2⟩,h3,h4,_,_⟩:=hq
  subst h1;subst h2
  exact ⟨by rw [h3];rfl,h4⟩
 ·have hlt:=hw _ _ ho
  rw [merge_out hE (k:=i) fun j _ _ e=>by have e:st.next+j=i:=e;omega]
  exact ho
 ·show i<st.next+(s.next- 0)
  rcases merge_cases hE hi with ⟨j,o0,_,_,h3,_⟩|⟨h1,_⟩
  ·rw [hnone] at h3;cases h3
  ·have:=hw _ _ h1;omega
end
section
set_option maxRecDepth 100000
open Go.RowKit Go.Sort Go.Shelf
def Tryz.itoa38_ren : Go.Shelf.Ren := ⟨fun | 171 => 38 | 243 => 73 | 246 => 93 | 283 => 104 | 284 => 105 | 285 => 106 | 286 => 107 | 129 => 114 | 317 => 113 | 318 => 115 | 319 => 116 | 320 => 117 | 337 => 128 | 338 => 129 | n => n, fun | 3 => 3 | 9 => 9 | 2 => 2 | 4 => 4 | 171 => 153 | 0 => 0 | 53 => 79 | 37 => 22 | 5 => 5 | 173 => 156 | 212 => 165 | 51 => 80 | 20 => 20 | 213 => 166 | 46 => 53 | 232 => 181 | 233 => 182 | n => n, fun | 17 => 0 | 18 => 2 | 19 => 3 | n => n⟩
theorem Tryz.itoa38 : Go.Proofs.LaysM.n171 Tryz.prog Tryz.itoa38_ren := {
  mixed := by kernel_rfl
  f129 := Tryz.func114.trans (congrArg some (by kernel_rfl))
  f171 := Tryz.func38.trans (congrArg some (by kernel_rfl))
  f243 := Tryz.func73.trans (congrArg some (by kernel_rfl))
  f246 := Tryz.func93.trans (congrArg some (by kernel_rfl))
  f283 := Tryz.func104.trans (congrArg some (by kernel_rfl))
  f284 := Tryz.func105.trans (congrArg some (by kernel_rfl))
  f285 := Tryz.func106.trans (congrArg some (by kernel_rfl))
  f286 := Tryz.func107.trans (congrArg some (by kernel_rfl))
  f317 := Tryz.func113.trans (congrArg some (by kernel_rfl))
  f318 := Tryz.func115.trans (congrArg some (by kernel_rfl))
  f319 := Tryz.func116.trans (congrArg some (by kernel_rfl))
  f320 := Tryz.func117.trans (congrArg some (by kernel_rfl))
  f337 := Tryz.func128.trans (congrArg some (by kernel_rfl))
  f338 := Tryz.func129.trans (congrArg some (by kernel_rfl))
  t0 := Tryz.underlying0
  a0 := Tryz.isAgg0
  z0 := Tryz.sizeOf0
  v0 := Tryz.zeroValue0
  t2 := Tryz.underlying2
  a2 := Tryz.isAgg2
  z2 := Tryz.sizeOf2
  v2 := Tryz.zeroValue2
  t3 := Tryz.underlying3
  a3 := Tryz.isAgg3
  z3 := Tryz.sizeOf3
  v3 := Tryz.zeroValue3
  t4 := Tryz.underlying4
  a4 := Tryz.isAgg4
  z4 := Tryz.sizeOf4
  v4 := Tryz.zeroValue4
  t5 := Tryz.underlying5
  a5 := Tryz.isAgg5
  z5 := Tryz.sizeOf5
  v5 := Tryz.zeroValue5
  t9 := Tryz.underlying9
  a9 := Tryz.isAgg9
  z9 := Tryz.sizeOf9
  v9 := Tryz.zeroValue9
  t20 := Tryz.underlying20
  a20 := Tryz.isAgg20
  z20 := Tryz.sizeOf20
  v20 := Tryz.zeroValue20
  t37 := Tryz.underlying22
  a37 := Tryz.isAgg22
  z37 := Tryz.sizeOf22
  v37 := Tryz.zeroValue22
  t46 := Tryz.underlying53
  a46 := Tryz.isAgg53
  z46 := Tryz.sizeOf53
  v46 := Tryz.zeroValue53
  t51 := Tryz.underlying80
  a51 := Tryz.isAgg80
  z51 := Tryz.sizeOf80
  v51 := Tryz.zeroValue80
  t53 := Tryz.underlying79
  a53 := Tryz.isAgg79
  z53 := Tryz.sizeOf79
  v53 := Tryz.zeroValue79
  t171 := Tryz.underlying153
  a171 := Tryz.isAgg153
  z171 := Tryz.sizeOf153
  v171 := Tryz.zeroValue153
  t173 := Tryz.underlying156
  a173 := Tryz.isAgg156
  z173 := Tryz.sizeOf156
  v173 := Tryz.zeroValue156
  t212 := Tryz.underlying165
  a212 := Tryz.isAgg165
  z212 := Tryz.sizeOf165
  v212 := Tryz.zeroValue165
  t213 := Tryz.underlying166
  a213 := Tryz.isAgg166
  z213 := Tryz.sizeOf166
  t232 := Tryz.underlying181
  a232 := Tryz.isAgg181
  z232 := Tryz.sizeOf181
  v232 := Tryz.zeroValue181
  t233 := Tryz.underlying182
  a233 := Tryz.isAgg182
  z233 := Tryz.sizeOf182
  v233 := Tryz.zeroValue182
  g17 := by kernel_rfl
  g18 := by kernel_rfl
  g19 := by kernel_rfl
  i0 := by kernel_rfl
  i2 := by kernel_rfl
  i3 := by kernel_rfl
  i4 := by kernel_rfl
  i5 := by kernel_rfl
  i9 := by kernel_rfl
  i20 := by kernel_rfl
  i37 := by kernel_rfl
  i46 := by kernel_rfl
  i51 := by kernel_rfl
  i53 := by kernel_rfl
  i171 := by kernel_rfl
  i173 := by kernel_rfl
  i212 := by kernel_rfl
  i232 := by kernel_rfl
  i233 := by kernel_rfl
  m17 := by kernel_rfl
  m18 := by kernel_rfl
  m19 := by kernel_rfl }
theorem itoaC(n:Int)(h0: -9223372036854775808≤n)(h1:n≤9223372036854775807)(w:World)(htab:Lib.TabIs Tryz.prog w "internal/strconv.uint64pow10" .u64 Lib.pow10Tab):
  Calls Tryz.prog 38 #[.int .i64 n] w fun e w'=>e= .returned (.string ⟨(Lib.itoa n).toArray⟩)∧∃k os,w'=grow (w.drewN k) os:=Any.strconv_Itoa Tryz.itoa38 n h0 h1 w htab
theorem below_grow(w:World)(k:Nat)(os:Array Obj):Below w.heap.size w (grow (w.drewN k) os):=by
 refine ⟨rfl,rfl,rfl,?_,fun b hb=> ?_⟩
 ·show w.heap.size≤((w.drewN k).heap++os).size
  rw [Array.size_append];exact Nat.le_add_right _ _
 ·show ((w.drewN k).heap++os)[b]? =w.heap[b]?
  rw [Array.getElem?_append_left (by exact hb)]
  rfl
theorem tab_is{g:G}{st:St}{w:World}(hok:OK g st w)(hgl:st.gl=(stTab tabsD).gl):Lib.TabIs Tryz.prog w "internal/strconv.uint64pow10" .u64 Lib.pow10Tab:=by
 have hp:(0,intsAV .u64 zs10)∈st.gl:=by rw [hgl];simp [stTab,tabsD]
 obtain ⟨h1,h2,h3⟩:=hok.glob _ hp
 obtain ⟨cs,T,fr,h4,h5⟩:=hok.imm 0 h2
 have hcs:cs.toList=zs10.map fun z=>Value.int .u64 z:=by
  cases h1 with
  |iptr _ us A hu hx h1 hA=>
   obtain ⟨_,hpre⟩:=hA
   have hpre:us<+:(g.M 0).drop 0:=hpre
   rw [List.drop_zero] at hpre
   have hlen:us.length=(g.M 0).length:=by rw [hu];exact h3.symm
   have he:us=g.M 0:=hpre.eq_of_length hlen
   rw [←h5,←he]
   apply List.ext_getElem?
   intro i
   by_cases hi:i<us.length
   ·have hz:i<zs10.length:=by
     have:us.length=zs10.length:=by rw [hu];rfl
     omega
    have:=hx i (by rw [←hu];exact hi)
    have e1:(intsAV .u64 zs10).getD i .undef= .val (.int .u64 zs10[i]):=by
     simp [intsAV,List.getD_eq_getElem?_getD,List.getElem?_eq_getElem hz]
    rw [e1] at this
    have e2:=this.val_inv
    rw [List.getD_eq_getElem?_getD,List.getElem?_eq_getElem hi] at e2
    rw [List.getElem?_eq_getElem hi,List.getElem?_map,List.getElem?_eq_getElem hz]
    simp only [Option.getD_some] at e2
    rw [e2];rfl
   ·rw [List.getElem?_eq_none (by omega),List.getElem?_eq_none]
    rw [List.length_map]
    have:us.length=zs10.length:=by rw [hu];rfl
    omega
 have hg:Tryz.prog.globalNamed "internal/strconv.uint64pow10" =some 0:=by kernel_rfl
 unfold Lib.TabIs World.var?
 rw [hg]
 simp only [Option.bind_some,h4]
 congr 1
 have:cs=(zs10.map fun z=>Value.int .u64 z).toArray:=by
  apply Array.ext'
  rw [hcs]
 rw [this]
 rfl
theorem itoa_ok{st:St}(hgl:st.gl=(stTab tabsD).gl){n:Int}(h0: -9223372036854775808≤n)(h1:n≤9223372036854775807):obC 38 [i64 n] st (str ⟨(Lib.itoa n).toArray⟩) st:=by
 intro g w us hok hv
 have hus:us.toArray= #[.int .i64 n]:=by
  have hl:=hv.1
  match us,hv,hl with
  | [u],hv,_=>rw [hv.head.val_inv]
 rw [hus]
 exact (itoaC n h0 h1 w (tab_is hok hgl)).mono fun e w' ⟨he,k,os,hw⟩=>by
  subst hw
  exact ⟨g,st,_,_,he,step_below hok (below_grow w k os),.val _ rfl,rfl,rfl⟩
end
section
set_option maxRecDepth 100000
abbrev sL10:List Nat:= [6038,6039,7006,7009,7014,7015,7017,7019]
theorem f5_T_e(st:St)(q:Int):evC sL10 5 [(i64 q)] st [.av TT]=some ((.tup [(str ⟨#[]⟩),(i64 1)]),st,[],[Bt 3 .lss q 1 TT]):=by kernel_rfl
theorem f5_T{st:St}{q:Int}(h1:Bt 3 .lss q 1 TT):obC 5 [(i64 q)] st (.tup [(str ⟨#[]⟩),(i64 1)]) st:=ACalls.run hE noOv_ok (f5_T_e st q) (kk h1 Ob.ok_nil)
theorem f5_FT_e(st:St)(q:Int):evC sL10 5 [(i64 q)] st [.av FF,.av TT]=some ((.tup [(str ⟨#[]⟩),(i64 1)]),st,[],[Bt 3 .lss q 1 FF,Bt 3 .gtr q 99999999 TT]):=by kernel_rfl
theorem f5_FT{st:St}{q:Int}(h1:Bt 3 .lss q 1 FF)(h2:Bt 3 .gtr q 99999999 TT):obC 5 [(i64 q)] st (.tup [(str ⟨#[]⟩),(i64 1)]) st:=ACalls.run hE noOv_ok (f5_FT_e st q) (kk h1 (kk h2 Ob.ok_nil))
theorem f5_FF_e(st s1 s2:St)(q n14 n15:Int)(w12 w16 w17 w19:ByteArray):evC sL10 5 [(i64 q)] st [.av FF,.av FF,.eff (str w12) (fun _=>s1),.av (i64 n14),.av (i64 n15),.eff (str w16) (fun _=>s2),.av (str w17),.av (str w19)]=some ((.tup [(str w19),(i64 0)]),s2,[],[Bt 3 .lss q 1 FF,Bt 3 .gtr q 99999999 FF,obC 38 [(i64 q)] st (str w12) s1,lenA E0 9 (str w12)=some (i64 n14),Bt 3 .sub 8 n14 (i64 n15),obC 39 [(str ⟨#[48]⟩),(i64 n15)] s1 (str w16) s2,binA E0 .add 9 (str ⟨#[119,97,108,45]⟩) (str w16)=some (str w17),binA E0 .add 9 (str w17) (str w12)=some (str w19)]):=by kernel_rfl
theorem f5_FF{st s1 s2:St}{q n14 n15:Int}{w12 w16 w17 w19:ByteArray}(h1:Bt 3 .lss q 1 FF)(h2:Bt 3 .gtr q 99999999 FF)(h3:obC 38 [(i64 q)] st (str w12) s1)(h4:lenA E0 9 (str w12)=some (i64 n14))(h5:Bt 3 .sub 8 n14 (i64 n15))(h6:obC 39 [(str ⟨#[48]⟩),(i64 n15)] s1 (str w16) s2)(h7:binA E0 .add 9 (str ⟨#[119,97,108,45]⟩) (str w16)=some (str w17))(h8:binA E0 .add 9 (str w17) (str w12)=some (str w19)):obC 5 [(i64 q)] st (.tup [(str w19),(i64 0)]) s2:=ACalls.run hE noOv_ok (f5_FF_e st s1 s2 q n14 n15 w12 w16 w17 w19) (kk h1 (kk h2 (kk h3 (kk h4 (kk h5 (kk h6 (kk h7 (kk h8 Ob.ok_nil))))))))
noncomputable def f6P(i:Nat):Code:=match Tryz.f6.body with
 |some (.seq x0 (.seq x1 (.seq x2 (.seq (.seq x3 (.block 0 (.loop x4))) x5))))=> [x0,x1,x2,x3,x4,x5].getD i .skip
 |_=> .skip
theorem f6body:Tryz.f6.body=some (.seq (f6P 0) (.seq (f6P 1) (.seq (f6P 2) (.seq (.seq (f6P 3) (.block 0 (.loop (f6P 4)))) (f6P 5))))):=by kernel_rfl
def f6L0(T:Tm)(a0:AV):Prop:=T.n=29∧T.get 0=a0
theorem f6_0_e(n0:Int)(st:St):evR gA0 [] (f6P 0) ⟨29,[(0,(i64 n0))],[]⟩ st []=some (.normal,29,[(i64 n0)],st,[]):=by kernel_rfl
theorem f6_0{n0:Int}{st:St}{T:Tm}(hT:f6L0 T (i64 n0)):AW Tryz.prog (f6P 0) (fun ex T' st'=>ex= .normal∧f6L0 T' (i64 n0)∧st'=st) T st:=by
 obtain ⟨hn,g0⟩:=hT
 exact genR (f6_0_e n0 st) Ob.ok_nil hn (one g0) fun T' q2 q3=>by simp only [gA0,List.cons.injEq,and_true] at q3;exact ⟨rfl,⟨q2,q3⟩,rfl⟩
def f6L1(T:Tm)(a2 a3:AV):Prop:=T.n=29∧T.get 2=a2∧T.get 3=a3
abbrev gA21(T:Tm):List AV:= [T.get 2,T.get 3]
theorem f6_1_T_e(n0:Int)(st:St):evR gA21 [7007,7010] (f6P 1) ⟨29,[(0,(i64 n0))],[]⟩ st [.av TT]=some (.ret,29,[(str ⟨#[]⟩),(i64 1)],st,[Bt 3 .lss n0 1 TT]):=by kernel_rfl
theorem f6_1_T{n0:Int}{st:St}(h1:Bt 3 .lss n0 1 TT){T:Tm}(hT:f6L0 T (i64 n0)):AW Tryz.prog (f6P 1) (fun ex T' st'=>ex= .ret∧f6L1 T' (str ⟨#[]⟩) (i64 1)∧st'=st) T st:=by
 obtain ⟨hn,g0⟩:=hT
 exact genR (f6_1_T_e n0 st) (kk h1 Ob.ok_nil) hn (one g0) fun T' q2 q3=>by simp only [gA21,List.cons.injEq,and_true] at q3;exact ⟨rfl,⟨q2,q3⟩,rfl⟩
theorem f6_1_FT_e(n0:Int)(st:St):evR gA21 [7007,7010] (f6P 1) ⟨29,[(0,(i64 n0))],[]⟩ st [.av FF,.av TT]=some (.ret,29,[(str ⟨#[]⟩),(i64 1)],st,[Bt 3 .lss n0 1 FF,Bt 3 .gtr n0 99999999 TT]):=by kernel_rfl
theorem f6_1_FT{n0:Int}{st:St}(h1:Bt 3 .lss n0 1 FF)(h2:Bt 3 .gtr n0 99999999 TT){T:Tm}(hT:f6L0 T (i64 n0)):AW Tryz.prog (f6P 1) (fun ex T' st'=>ex= .ret∧f6L1 T' (str ⟨#[]⟩) (i64 1)∧st'=st) T st:=by
 obtain ⟨hn,g0⟩:=hT
 exact genR (f6_1_FT_e n0 st) (kk h1 (kk h2 Ob.ok_nil)) hn (one g0) fun T' q2 q3=>by simp only [gA21,List.cons.injEq,and_true] at q3;exact ⟨rfl,⟨q2,q3⟩,rfl⟩
theorem f6_1_FF_e(n0:Int)(st:St):evR gA0 [7007,7010] (f6P 1) ⟨29,[(0,(i64 n0))],[]⟩ st [.av FF,.av FF]=some (.normal,29,[(i64 n0)],st,[Bt 3 .lss n0 1 FF,Bt 3 .gtr n0 99999999 FF]):=by kernel_rfl
theorem f6_1_FF{n0:Int}{st:St}(h1:Bt 3 .lss n0 1 FF)(h2:Bt 3 .gtr n0 99999999 FF){T:Tm}(hT:f6L0 T (i64 n0)):AW Tryz.prog (f6P 1) (fun ex T' st'=>ex= .normal∧f6L0 T' (i64 n0)∧st'=st) T st:=by
 obtain ⟨hn,g0⟩:=hT
 exact genR (f6_1_FF_e n0 st) (kk h1 (kk h2 Ob.ok_nil)) hn (one g0) fun T' q2 q3=>by simp only [gA0,List.cons.injEq,and_true] at q3;exact ⟨rfl,⟨q2,q3⟩,rfl⟩
def f6L2(T:Tm)(a0 a4:AV):Prop:=T.n=29∧T.get 0=a0∧T.get 4=a4
abbrev gA22(T:Tm):List AV:= [T.get 0,T.get 4]
theorem f6_2_e(n0:Int)(st s1:St)(v12:AV):evR gA22 [2012] (f6P 2) ⟨29,[(0,(i64 n0))],[]⟩ st [.eff v12 (fun _=>s1)]=some (.normal,29,[(i64 n0),v12],s1,[makeSliceA E0 st 22 (i64 8) (i64 8)=some (v12,s1)]):=by kernel_rfl
theorem f6_2{n0:Int}{st s1:St}{v12:AV}(h1:makeSliceA E0 st 22 (i64 8) (i64 8)=some (v12,s1)){T:Tm}(hT:f6L0 T (i64 n0)):AW Tryz.prog (f6P 2) (fun ex T' st'=>ex= .normal∧f6L2 T' (i64 n0) v12∧st'=s1) T st:=by
 obtain ⟨hn,g0⟩:=hT
 exact genR (f6_2_e n0 st s1 v12) (kk h1 Ob.ok_nil) hn (one g0) fun T' q2 q3=>by simp only [gA22,List.cons.injEq,and_true] at q3;exact ⟨rfl,⟨q2,q3⟩,rfl⟩
def f6L3(T:Tm)(a0 a4 a5:AV):Prop:=T.n=29∧T.get 0=a0∧T.get 4=a4∧T.get 5=a5
abbrev gA23(T:Tm):List AV:= [T.get 0,T.get 4,T.get 5]
theorem f6_3_e(n0:Int)(v4:AV)(st:St):evR gA23 [] (f6P 3) ⟨29,[(0,(i64 n0)),(4,v4)],[]⟩ st []=some (.normal,29,[(i64 n0),v4,(i64 7)],st,[]):=by kernel_rfl
theorem f6_3{n0:Int}{v4:AV}{st:St}{T:Tm}(hT:f6L2 T (i64 n0) v4):AW Tryz.prog (f6P 3) (fun ex T' st'=>ex= .normal∧f6L3 T' (i64 n0) v4 (i64 7)∧st'=st) T st:=by
 obtain ⟨hn,g0,g4⟩:=hT
 exact genR (f6_3_e n0 v4 st) Ob.ok_nil hn (conz g0 (one g4)) fun T' q2 q3=>by simp only [gA23,List.cons.injEq,and_true] at q3;exact ⟨rfl,⟨q2,q3⟩,rfl⟩
abbrev sL11:List Nat:= [2022,5000,7014,7016,7020,7021,7023,7025]
theorem f6_4_T_e(n0 n5 n20 n21 n22 n25 n16:Int)(v4 q23:AV)(st s1:St):evR gA23 sL11 (f6P 4) ⟨29,[(0,(i64 n0)),(4,v4),(5,(i64 n5))],[]⟩ st [.av TT,.av (i64 n20),.av (i64 n21),.eff (u8 n22) id,.av q23,.eff .undef (fun _=>s1),.av (i64 n25),.av (i64 n16)]=some (.normal,29,[(i64 n25),v4,(i64 n16)],s1,[Bt 3 .geq n5 0 TT,Bt 3 .rem n0 10 (i64 n20),Bt 3 .add 48 n20 (i64 n21),convO E0 st 3 5 (i64 n21)=some ((u8 n22),st),indexAddrA E0 22 v4 (i64 n5)=some q23,storeA E0 st 5 q23 (u8 n22)=some s1,Bt 3 .quo n0 10 (i64 n25),Bt 3 .sub n5 1 (i64 n16)]):=by kernel_rfl
theorem f6_4_T{n0 n5 n20 n21 n22 n25 n16:Int}{v4 q23:AV}{st s1:St}(h1:Bt 3 .geq n5 0 TT)(h2:Bt 3 .rem n0 10 (i64 n20))(h3:Bt 3 .add 48 n20 (i64 n21))(h4:convO E0 st 3 5 (i64 n21)=some ((u8 n22),st))(h5:indexAddrA E0 22 v4 (i64 n5)=some q23)(h6:storeA E0 st 5 q23 (u8 n22)=some s1)(h7:Bt 3 .quo n0 10 (i64 n25))(h8:Bt 3 .sub n5 1 (i64 n16)){T:Tm}(hT:f6L3 T (i64 n0) v4 (i64 n5)):AW Tryz.prog (f6P 4) (fun ex T' st'=>ex= .normal∧f6L3 T' (i64 n25) v4 (i64 n16)∧st'=s1) T st:=by
 obtain ⟨hn,g0,g4,g5⟩:=hT
 exact genR (f6_4_T_e n0 n5 n20 n21 n22 n25 n16 v4 q23 st s1) (kk h1 (kk h2 (kk h3 (kk h4 (kk h5 (kk h6 (kk h7 (kk h8 Ob.ok_nil)))))))) hn (conz g0 (conz g4 (one g5))) fun T' q2 q3=>by simp only [gA23,List.cons.injEq,and_true] at q3;exact ⟨rfl,⟨q2,q3⟩,rfl⟩
def f6L4(T:Tm)(a4:AV):Prop:=T.n=29∧T.get 4=a4
theorem f6_4_F_e(n0 n5:Int)(v4:AV)(st:St):evR gA7 sL11 (f6P 4) ⟨29,[(0,(i64 n0)),(4,v4),(5,(i64 n5))],[]⟩ st [.av FF]=some ((.exit 0),29,[v4],st,[Bt 3 .geq n5 0 FF]):=by kernel_rfl
theorem f6_4_F{n0 n5:Int}{v4:AV}{st:St}(h1:Bt 3 .geq n5 0 FF){T:Tm}(hT:f6L3 T (i64 n0) v4 (i64 n5)):AW Tryz.prog (f6P 4) (fun ex T' st'=>ex=(.exit 0)∧f6L4 T' v4∧st'=st) T st:=by
 obtain ⟨hn,g0,g4,g5⟩:=hT
 exact genR (f6_4_F_e n0 n5 v4 st) (kk h1 Ob.ok_nil) hn (conz g0 (conz g4 (one g5))) fun T' q2 q3=>by simp only [gA7,List.cons.injEq,and_true] at q3;exact ⟨rfl,⟨q2,q3⟩,rfl⟩
theorem f6_5_e(v4:AV)(st:St)(w27 w28:ByteArray):evR gA21 [2027,7028] (f6P 5) ⟨29,[(4,v4)],[]⟩ st [.eff (str w27) id,.av (str w28)]=some (.ret,29,[(str w28),(i64 0)],st,[convO E0 st 22 9 v4=some ((str w27),st),binA E0 .add 9 (str ⟨#[119,97,108,45]⟩) (str w27)=some (str w28)]):=by kernel_rfl
theorem f6_5{v4:AV}{st:St}{w27 w28:ByteArray}(h1:convO E0 st 22 9 v4=some ((str w27),st))(h2:binA E0 .add 9 (str ⟨#[119,97,108,45]⟩) (str w27)=some (str w28)){T:Tm}(hT:f6L4 T v4):AW Tryz.prog (f6P 5) (fun ex T' st'=>ex= .ret∧f6L1 T' (str w28) (i64 0)∧st'=st) T st:=by
 obtain ⟨hn,g4⟩:=hT
 exact genR (f6_5_e v4 st w27 w28) (kk h1 (kk h2 Ob.ok_nil)) hn (one g4) fun T' q2 q3=>by simp only [gA21,List.cons.injEq,and_true] at q3;exact ⟨rfl,⟨q2,q3⟩,rfl⟩
abbrev sL12:List Nat:= [2017,2024,2030,2033,6042,6043,7009,7010,7012,7013,7016]
theorem f8_T_e(st:St)(x:AV)(n9:Int):evC sL12 8 [x] st [.av (i64 n9),.av TT]=some ((.tup [.nils,(i64 1)]),st,[],[lenA E0 22 x=some (i64 n9),Bt 3 .eql n9 0 TT]):=by kernel_rfl
theorem f8_T{st:St}{x:AV}{n9:Int}(h1:lenA E0 22 x=some (i64 n9))(h2:Bt 3 .eql n9 0 TT):obC 8 [x] st (.tup [.nils,(i64 1)]) st:=ACalls.run hE noOv_ok (f8_T_e st x n9) (kk h1 (kk h2 Ob.ok_nil))
theorem f8_FT_e(st:St)(x:AV)(n9 n12:Int):evC sL12 8 [x] st [.av (i64 n9),.av FF,.av (i64 n12),.av TT]=some ((.tup [.nils,(i64 3)]),st,[],[lenA E0 22 x=some (i64 n9),Bt 3 .eql n9 0 FF,lenA E0 22 x=some (i64 n12),Bt 3 .gtr n12 4096 TT]):=by kernel_rfl
theorem f8_FT{st:St}{x:AV}{n9 n12:Int}(h1:lenA E0 22 x=some (i64 n9))(h2:Bt 3 .eql n9 0 FF)(h3:lenA E0 22 x=some (i64 n12))(h4:Bt 3 .gtr n12 4096 TT):obC 8 [x] st (.tup [.nils,(i64 3)]) st:=ACalls.run hE noOv_ok (f8_FT_e st x n9 n12) (kk h1 (kk h2 (kk h3 (kk h4 Ob.ok_nil))))
theorem f8_FF_e(st s1 s2 s3 s4 s5:St)(x v18a v25a v30 v33:AV)(n9 n12 n16 n17 n18b n23 n24 n25b:Int):evC sL12 8 [x] st [.av (i64 n9),.av FF,.av (i64 n12),.av FF,.av (i64 n16),.eff (u64 n17) id,.eff (.tup [v18a,(i64 n18b)]) (fun _=>s1),.eff (u32 n23) (fun _=>s2),.eff (u64 n24) id,.eff (.tup [v25a,(i64 n25b)]) (fun _=>s3),.eff v30 (fun _=>s4),.eff v33 (fun _=>s5)]=some ((.tup [v33,(i64 0)]),s5,[],[lenA E0 22 x=some (i64 n9),Bt 3 .eql n9 0 FF,lenA E0 22 x=some (i64 n12),Bt 3 .gtr n12 4096 FF,lenA E0 22 x=some (i64 n16),convO E0 st 3 79 (i64 n16)=some ((u64 n17),st),obC 42 [.nils,(u64 n17),(i64 4)] st (.tup [v18a,(i64 n18b)]) s1,obC 43 [x] s1 (u32 n23) s2,convO E0 s2 80 79 (u32 n23)=some ((u64 n24),s2),obC 42 [.nils,(u64 n24),(i64 4)] s2 (.tup [v25a,(i64 n25b)]) s3,appendA E0 s3 22 22 v18a v25a=some (v30,s4),appendA E0 s4 22 22 v30 x=some (v33,s5)]):=by kernel_rfl
theorem f8_FF{st s1 s2 s3 s4 s5:St}{x v18a v25a v30 v33:AV}{n9 n12 n16 n17 n18b n23 n24 n25b:Int}(h1:lenA E0 22 x=some (i64 n9))(h2:Bt 3 .eql n9 0 FF)(h3:lenA E0 22 x=some (i64 n12))(h4:Bt 3 .gtr n12 4096 FF)(h5:lenA E0 22 x=some (i64 n16))(h6:convO E0 st 3 79 (i64 n16)=some ((u64 n17),st))(h7:obC 42 [.nils,(u64 n17),(i64 4)] st (.tup [v18a,(i64 n18b)]) s1)(h8:obC 43 [x] s1 (u32 n23) s2)(h9:convO E0 s2 80 79 (u32 n23)=some ((u64 n24),s2))(h10:obC 42 [.nils,(u64 n24),(i64 4)] s2 (.tup [v25a,(i64 n25b)]) s3)(h11:appendA E0 s3 22 22 v18a v25a=some (v30,s4))(h12:appendA E0 s4 22 22 v30 x=some (v33,s5)):obC 8 [x] st (.tup [v33,(i64 0)]) s5:=ACalls.run hE noOv_ok (f8_FF_e st s1 s2 s3 s4 s5 x v18a v25a v30 v33 n9 n12 n16 n17 n18b n23 n24 n25b) (kk h1 (kk h2 (kk h3 (kk h4 (kk h5 (kk h6 (kk h7 (kk h8 (kk h9 (kk h10 (kk h11 (kk h12 Ob.ok_nil))))))))))))
theorem f85_e(st s1:St)(x v6:AV):evC [2006] 85 [x] st [.eff v6 (fun _=>s1)]=some (v6,s1,[],[appendA E0 st 22 22 .nils x=some (v6,s1)]):=by kernel_rfl
theorem f85{st s1:St}{x v6:AV}(h1:appendA E0 st 22 22 .nils x=some (v6,s1)):obC 85 [x] st v6 s1:=ACalls.run hE noOv_ok (f85_e st s1 x v6) (kk h1 Ob.ok_nil)
noncomputable def f42P(i:Nat):Code:=match Tryz.f42.body with
 |some (.seq x0 (.seq x1 (.seq x2 (.seq (.seq x3 (.block 0 (.loop x4))) x5))))=> [x0,x1,x2,x3,x4,x5].getD i .skip
 |_=> .skip
theorem f42body:Tryz.f42.body=some (.seq (f42P 0) (.seq (f42P 1) (.seq (f42P 2) (.seq (.seq (f42P 3) (.block 0 (.loop (f42P 4)))) (f42P 5))))):=by kernel_rfl
def f42L0(T:Tm)(a0 a1 a2:AV):Prop:=T.n=35∧T.get 0=a0∧T.get 1=a1∧T.get 2=a2
abbrev gA24(T:Tm):List AV:= [T.get 0,T.get 1,T.get 2]
theorem f42_0_e(v0:AV)(n1 n2:Int)(st:St):evR gA24 [] (f42P 0) ⟨35,[(0,v0),(1,(u64 n1)),(2,(i64 n2))],[]⟩ st []=some (.normal,35,[v0,(u64 n1),(i64 n2)],st,[]):=by kernel_rfl
theorem f42_0{v0:AV}{n1 n2:Int}{st:St}{T:Tm}(hT:f42L0 T v0 (u64 n1) (i64 n2)):AW Tryz.prog (f42P 0) (fun ex T' st'=>ex= .normal∧f42L0 T' v0 (u64 n1) (i64 n2)∧st'=st) T st:=by
 obtain ⟨hn,g0,g1,g2⟩:=hT
 exact genR (f42_0_e v0 n1 n2 st) Ob.ok_nil hn (conz g0 (conz g1 (one g2))) fun T' q2 q3=>by simp only [gA24,List.cons.injEq,and_true] at q3;exact ⟨rfl,⟨q2,q3⟩,rfl⟩
theorem f42_1_T_e(v0:AV)(n1 n2:Int)(st s1:St):evR gA24 [6084] (f42P 1) ⟨35,[(0,v0),(1,(u64 n1)),(2,(i64 n2))],[]⟩ st [.eff TT (fun _=>s1)]=some (.normal,35,[v0,(u64 n1),(i64 n2)],s1,[obC 84 [(i64 n2)] st TT s1]):=by kernel_rfl
theorem f42_1_T{v0:AV}{n1 n2:Int}{st s1:St}(h1:obC 84 [(i64 n2)] st TT s1){T:Tm}(hT:f42L0 T v0 (u64 n1) (i64 n2)):AW Tryz.prog (f42P 1) (fun ex T' st'=>ex= .normal∧f42L0 T' v0 (u64 n1) (i64 n2)∧st'=s1) T st:=by
 obtain ⟨hn,g0,g1,g2⟩:=hT
 exact genR (f42_1_T_e v0 n1 n2 st s1) (kk h1 Ob.ok_nil) hn (conz g0 (conz g1 (one g2))) fun T' q2 q3=>by simp only [gA24,List.cons.injEq,and_true] at q3;exact ⟨rfl,⟨q2,q3⟩,rfl⟩
def f42L1(T:Tm)(a6 a7:AV):Prop:=T.n=35∧T.get 6=a6∧T.get 7=a7
def f42L2(T:Tm)(a0 a1 a2 a8:AV):Prop:=T.n=35∧T.get 0=a0∧T.get 1=a1∧T.get 2=a2∧T.get 8=a8
abbrev gA25(T:Tm):List AV:= [T.get 0,T.get 1,T.get 2,T.get 8]
theorem f42_2_e(v0 v14:AV)(n1 n2:Int)(st s1:St):evR gA25 [2014] (f42P 2) ⟨35,[(0,v0),(1,(u64 n1)),(2,(i64 n2))],[]⟩ st [.eff v14 (fun _=>s1)]=some (.normal,35,[v0,(u64 n1),(i64 n2),v14],s1,[makeSliceA E0 st 22 (i64 n2) (i64 n2)=some (v14,s1)]):=by kernel_rfl
theorem f42_2{v0 v14:AV}{n1 n2:Int}{st s1:St}(h1:makeSliceA E0 st 22 (i64 n2) (i64 n2)=some (v14,s1)){T:Tm}(hT:f42L0 T v0 (u64 n1) (i64 n2)):AW Tryz.prog (f42P 2) (fun ex T' st'=>ex= .normal∧f42L2 T' v0 (u64 n1) (i64 n2) v14∧st'=s1) T st:=by
 obtain ⟨hn,g0,g1,g2⟩:=hT
 exact genR (f42_2_e v0 v14 n1 n2 st s1) (kk h1 Ob.ok_nil) hn (conz g0 (conz g1 (one g2))) fun T' q2 q3=>by simp only [gA25,List.cons.injEq,and_true] at q3;exact ⟨rfl,⟨q2,q3⟩,rfl⟩
def f42L3(T:Tm)(a0 a1 a8 a9:AV):Prop:=T.n=35∧T.get 0=a0∧T.get 1=a1∧T.get 8=a8∧T.get 9=a9
abbrev gA26(T:Tm):List AV:= [T.get 0,T.get 1,T.get 8,T.get 9]
theorem f42_3_e(v0 v8:AV)(n1 n2 n16:Int)(st:St):evR gA26 [7016] (f42P 3) ⟨35,[(0,v0),(1,(u64 n1)),(2,(i64 n2)),(8,v8)],[]⟩ st [.av (i64 n16)]=some (.normal,35,[v0,(u64 n1),v8,(i64 n16)],st,[Bt 3 .sub n2 1 (i64 n16)]):=by kernel_rfl
theorem f42_3{v0 v8:AV}{n1 n2 n16:Int}{st:St}(h1:Bt 3 .sub n2 1 (i64 n16)){T:Tm}(hT:f42L2 T v0 (u64 n1) (i64 n2) v8):AW Tryz.prog (f42P 3) (fun ex T' st'=>ex= .normal∧f42L3 T' v0 (u64 n1) v8 (i64 n16)∧st'=st) T st:=by
 obtain ⟨hn,g0,g1,g2,g8⟩:=hT
 exact genR (f42_3_e v0 v8 n1 n2 n16 st) (kk h1 Ob.ok_nil) hn (conz g0 (conz g1 (conz g2 (one g8)))) fun T' q2 q3=>by simp only [gA26,List.cons.injEq,and_true] at q3;exact ⟨rfl,⟨q2,q3⟩,rfl⟩
abbrev sL13:List Nat:= [2025,5000,7018,7020,7024,7026,7028]
theorem f42_4_T_e(v0 v8 q26:AV)(n1 n9 n24 n25 n28 n20:Int)(st s1:St):evR gA26 sL13 (f42P 4) ⟨35,[(0,v0),(1,(u64 n1)),(8,v8),(9,(i64 n9))],[]⟩ st [.av TT,.av (u64 n24),.eff (u8 n25) id,.av q26,.eff .undef (fun _=>s1),.av (u64 n28),.av (i64 n20)]=some (.normal,35,[v0,(u64 n28),v8,(i64 n20)],s1,[Bt 3 .geq n9 0 TT,binA E0 .rem 79 (u64 n1) (u64 256)=some (u64 n24),convO E0 st 79 5 (u64 n24)=some ((u8 n25),st),indexAddrA E0 22 v8 (i64 n9)=some q26,storeA E0 st 5 q26 (u8 n25)=some s1,binA E0 .quo 79 (u64 n1) (u64 256)=some (u64 n28),Bt 3 .sub n9 1 (i64 n20)]):=by kernel_rfl
theorem f42_4_T{v0 v8 q26:AV}{n1 n9 n24 n25 n28 n20:Int}{st s1:St}(h1:Bt 3 .geq n9 0 TT)(h2:binA E0 .rem 79 (u64 n1) (u64 256)=some (u64 n24))(h3:convO E0 st 79 5 (u64 n24)=some ((u8 n25),st))(h4:indexAddrA E0 22 v8 (i64 n9)=some q26)(h5:storeA E0 st 5 q26 (u8 n25)=some s1)(h6:binA E0 .quo 79 (u64 n1) (u64 256)=some (u64 n28))(h7:Bt 3 .sub n9 1 (i64 n20)){T:Tm}(hT:f42L3 T v0 (u64 n1) v8 (i64 n9)):AW Tryz.prog (f42P 4) (fun ex T' st'=>ex= .normal∧f42L3 T' v0 (u64 n28) v8 (i64 n20)∧st'=s1) T st:=by
 obtain ⟨hn,g0,g1,g8,g9⟩:=hT
 exact genR (f42_4_T_e v0 v8 q26 n1 n9 n24 n25 n28 n20 st s1) (kk h1 (kk h2 (kk h3 (kk h4 (kk h5 (kk h6 (kk h7 Ob.ok_nil))))))) hn (conz g0 (conz g1 (conz g8 (one g9)))) fun T' q2 q3=>by simp only [gA26,List.cons.injEq,and_true] at q3;exact ⟨rfl,⟨q2,q3⟩,rfl⟩
def f42L4(T:Tm)(a0 a1 a8:AV):Prop:=T.n=35∧T.get 0=a0∧T.get 1=a1∧T.get 8=a8
abbrev gA27(T:Tm):List AV:= [T.get 0,T.get 1,T.get 8]
theorem f42_4_F_e(v0 v8:AV)(n1 n9:Int)(st:St):evR gA27 sL13 (f42P 4) ⟨35,[(0,v0),(1,(u64 n1)),(8,v8),(9,(i64 n9))],[]⟩ st [.av FF]=some ((.exit 0),35,[v0,(u64 n1),v8],st,[Bt 3 .geq n9 0 FF]):=by kernel_rfl
theorem f42_4_F{v0 v8:AV}{n1 n9:Int}{st:St}(h1:Bt 3 .geq n9 0 FF){T:Tm}(hT:f42L3 T v0 (u64 n1) v8 (i64 n9)):AW Tryz.prog (f42P 4) (fun ex T' st'=>ex=(.exit 0)∧f42L4 T' v0 (u64 n1) v8∧st'=st) T st:=by
 obtain ⟨hn,g0,g1,g8,g9⟩:=hT
 exact genR (f42_4_F_e v0 v8 n1 n9 st) (kk h1 Ob.ok_nil) hn (conz g0 (conz g1 (conz g8 (one g9)))) fun T' q2 q3=>by simp only [gA27,List.cons.injEq,and_true] at q3;exact ⟨rfl,⟨q2,q3⟩,rfl⟩
abbrev gA28(T:Tm):List AV:= [T.get 6,T.get 7]
abbrev sL14:List Nat:= [2034,6085,7030]
theorem f42_5_F_e(v0 v8 v32 v34:AV)(n1:Int)(st s1 s2:St):evR gA28 sL14 (f42P 5) ⟨35,[(0,v0),(1,(u64 n1)),(8,v8)],[]⟩ st [.av FF,.eff v32 (fun _=>s1),.eff v34 (fun _=>s2)]=some (.ret,35,[v34,(i64 0)],s2,[binA E0 .gtr 79 (u64 n1) (u64 0)=some FF,obC 85 [v0] st v32 s1,appendA E0 s1 22 22 v32 v8=some (v34,s2)]):=by kernel_rfl
theorem f42_5_F{v0 v8 v32 v34:AV}{n1:Int}{st s1 s2:St}(h1:binA E0 .gtr 79 (u64 n1) (u64 0)=some FF)(h2:obC 85 [v0] st v32 s1)(h3:appendA E0 s1 22 22 v32 v8=some (v34,s2)){T:Tm}(hT:f42L4 T v0 (u64 n1) v8):AW Tryz.prog (f42P 5) (fun ex T' st'=>ex= .ret∧f42L1 T' v34 (i64 0)∧st'=s2) T st:=by
 obtain ⟨hn,g0,g1,g8⟩:=hT
 exact genR (f42_5_F_e v0 v8 v32 v34 n1 st s1 s2) (kk h1 (kk h2 (kk h3 Ob.ok_nil))) hn (conz g0 (conz g1 (one g8))) fun T' q2 q3=>by simp only [gA28,List.cons.injEq,and_true] at q3;exact ⟨rfl,⟨q2,q3⟩,rfl⟩
noncomputable def f43P(i:Nat):Code:=match Tryz.f43.body with
 |some (.seq x0 (.seq x1 (.seq (.seq x2 (.block 0 (.loop x3))) (.seq x4 (.seq (.seq x5 (.block 2 (.loop x6))) x7)))))=> [x0,x1,x2,x3,x4,x5,x6,x7].getD i .skip
 |_=> .skip
theorem f43body:Tryz.f43.body=some (.seq (f43P 0) (.seq (f43P 1) (.seq (.seq (f43P 2) (.block 0 (.loop (f43P 3)))) (.seq (f43P 4) (.seq (.seq (f43P 5) (.block 2 (.loop (f43P 6)))) (f43P 7)))))):=by kernel_rfl
def f43L0(T:Tm)(a0:AV):Prop:=T.n=62∧T.get 0=a0
theorem f43_0_e(v0:AV)(st:St):evR gA0 [] (f43P 0) ⟨62,[(0,v0)],[]⟩ st []=some (.normal,62,[v0],st,[]):=by kernel_rfl
theorem f43_0{v0:AV}{st:St}{T:Tm}(hT:f43L0 T v0):AW Tryz.prog (f43P 0) (fun ex T' st'=>ex= .normal∧f43L0 T' v0∧st'=st) T st:=by
 obtain ⟨hn,g0⟩:=hT
 exact genR (f43_0_e v0 st) Ob.ok_nil hn (one g0) fun T' q2 q3=>by simp only [gA0,List.cons.injEq,and_true] at q3;exact ⟨rfl,⟨q2,q3⟩,rfl⟩
def f43L1(T:Tm)(a0 a3:AV):Prop:=T.n=62∧T.get 0=a0∧T.get 3=a3
theorem f43_1_e(v0:AV)(st:St):evR gA1 [] (f43P 1) ⟨62,[(0,v0)],[]⟩ st []=some (.normal,62,[v0,(u64 0)],st,[]):=by kernel_rfl
theorem f43_1{v0:AV}{st:St}{T:Tm}(hT:f43L0 T v0):AW Tryz.prog (f43P 1) (fun ex T' st'=>ex= .normal∧f43L1 T' v0 (u64 0)∧st'=st) T st:=by
 obtain ⟨hn,g0⟩:=hT
 exact genR (f43_1_e v0 st) Ob.ok_nil hn (one g0) fun T' q2 q3=>by simp only [gA1,List.cons.injEq,and_true] at q3;exact ⟨rfl,⟨q2,q3⟩,rfl⟩
def f43L2(T:Tm)(a0 a3 a4:AV):Prop:=T.n=62∧T.get 0=a0∧T.get 3=a3∧T.get 4=a4
abbrev gA29(T:Tm):List AV:= [T.get 0,T.get 3,T.get 4]
theorem f43_2_e(v0:AV)(n3:Int)(st:St):evR gA29 [] (f43P 2) ⟨62,[(0,v0),(3,(u64 n3))],[]⟩ st []=some (.normal,62,[v0,(u64 n3),(i64 0)],st,[]):=by kernel_rfl
theorem f43_2{v0:AV}{n3:Int}{st:St}{T:Tm}(hT:f43L1 T v0 (u64 n3)):AW Tryz.prog (f43P 2) (fun ex T' st'=>ex= .normal∧f43L2 T' v0 (u64 n3) (i64 0)∧st'=st) T st:=by
 obtain ⟨hn,g0,g3⟩:=hT
 exact genR (f43_2_e v0 n3 st) Ob.ok_nil hn (conz g0 (one g3)) fun T' q2 q3=>by simp only [gA29,List.cons.injEq,and_true] at q3;exact ⟨rfl,⟨q2,q3⟩,rfl⟩
abbrev sL15:List Nat:= [2025,2026,2029,7010,7011,7012,7013,7015,7018,7019,7020,7023,7024,7028,7030,7031,7033,7035,7037,7039,7041,7042,7044]
theorem f43_3_TTTT_e(v0 q24:AV)(n3 n4 n10 n11 n12 n18 n19 n23 n25 n26 n28 n29 n30 n31 n35 n37 n39 n41 n44 n15:Int)(st:St):evR gA29 sL15 (f43P 3) ⟨62,[(0,v0),(3,(u64 n3)),(4,(i64 n4))],[]⟩ st [.av (i64 n10),.av (i64 n11),.av (i64 n12),.av TT,.av (i64 n18),.av (i64 n19),.av TT,.av (i64 n23),.av q24,.eff (u8 n25) id,.eff (u64 n26) id,.av (i64 n28),.eff (u64 n29) id,.av (u64 n30),.av (u64 n31),.av TT,.av (u64 n35),.av (u64 n37),.av (u64 n39),.av (u64 n41),.av TT,.av (u64 n44),.av (i64 n15)]=some (.normal,62,[v0,(u64 n44),(i64 n15)],st,[lenA E0 22 v0=some (i64 n10),Bt 3 .mul 8 n10 (i64 n11),Bt 3 .add n11 32 (i64 n12),Bt 3 .lss n4 n12 TT,lenA E0 22 v0=some (i64 n18),Bt 3 .mul 8 n18 (i64 n19),Bt 3 .lss n4 n19 TT,Bt 3 .quo n4 8 (i64 n23),indexAddrA E0 22 v0 (i64 n23)=some q24,loadA E0 st 5 q24=some (u8 n25)∧st=st,convO E0 st 5 79 (u8 n25)=some ((u64 n26),st),Bt 3 .rem n4 8 (i64 n28),convO E0 st 3 53 (i64 n28)=some ((u64 n29),st),binA E0 .shr 79 (u64 n26) (u64 n29)=some (u64 n30),binA E0 .and 79 (u64 n30) (u64 1)=some (u64 n31),Bt 3 .lss n4 32 TT,binA E0 .xor 79 (u64 n31) (u64 1)=some (u64 n35),binA E0 .mul 79 (u64 2) (u64 n3)=some (u64 n37),binA E0 .add 79 (u64 n37) (u64 n35)=some (u64 n39),binA E0 .shr 79 (u64 n39) (u64 32)=some (u64 n41),binA E0 .eql 79 (u64 n41) (u64 1)=some TT,binA E0 .xor 79 (u64 n39) (u64 4374732215)=some (u64 n44),Bt 3 .add n4 1 (i64 n15)]):=by kernel_rfl
theorem f43_3_TTTT{v0 q24:AV}{n3 n4 n10 n11 n12 n18 n19 n23 n25 n26 n28 n29 n30 n31 n35 n37 n39 n41 n44 n15:Int}{st:St}(h1:lenA E0 22 v0=some (i64 n10))(h2:Bt 3 .mul 8 n10 (i64 n11))(h3:Bt 3 .add n11 32 (i64 n12))(h4:Bt 3 .lss n4 n12 TT)(h5:lenA E0 22 v0=some (i64 n18))(h6:Bt 3 .mul 8 n18 (i64 n19))(h7:Bt 3 .lss n4 n19 TT)(h8:Bt 3 .quo n4 8 (i64 n23))(h9:indexAddrA E0 22 v0 (i64 n23)=some q24)(h10:loadA E0 st 5 q24=some (u8 n25))(h11:convO E0 st 5 79 (u8 n25)=some ((u64 n26),st))(h12:Bt 3 .rem n4 8 (i64 n28))(h13:convO E0 st 3 53 (i64 n28)=some ((u64 n29),st))(h14:binA E0 .shr 79 (u64 n26) (u64 n29)=some (u64 n30))(h15:binA E0 .and 79 (u64 n30) (u64 1)=some (u64 n31))(h16:Bt 3 .lss n4 32 TT)(h17:binA E0 .xor 79 (u64 n31) (u64 1)=some (u64 n35))(h18:binA E0 .mul 79 (u64 2) (u64 n3)=some (u64 n37))(h19:binA E0 .add 79 (u64 n37) (u64 n35)=some (u64 n39))(h20:binA E0 .shr 79 (u64 n39) (u64 32)=some (u64 n41))(h21:binA E0 .eql 79 (u64 n41) (u64 1)=some TT)(h22:binA E0 .xor 79 (u64 n39) (u64 4374732215)=some (u64 n44))(h23:Bt 3 .add n4 1 (i64 n15)){T:Tm}(hT:f43L2 T v0 (u64 n3) (i64 n4)):AW Tryz.prog (f43P 3) (fun ex T' st'=>ex= .normal∧f43L2 T' v0 (u64 n44) (i64 n15)∧st'=st) T st:=by
 obtain ⟨hn,g0,g3,g4⟩:=hT
 exact genR (f43_3_TTTT_e v0 q24 n3 n4 n10 n11 n12 n18 n19 n23 n25 n26 n28 n29 n30 n31 n35 n37 n39 n41 n44 n15 st) (kk h1 (kk h2 (kk h3 (kk h4 (kk h5 (kk h6 (kk h7 (kk h8 (kk h9 (kk ⟨h10,rfl⟩ (kk h11 (kk h12 (kk h13 (kk h14 (kk h15 (kk h16 (kk h17 (kk h18 (kk h19 (kk h20 (kk h21 (kk h22 (kk h23 Ob.ok_nil))))))))))))))))))))))) hn (conz g0 (conz g3 (one g4))) fun T' q2 q3=>by simp only [gA29,List.cons.injEq,and_true] at q3;exact ⟨rfl,⟨q2,q3⟩,rfl⟩
theorem f43_3_TTTF_e(v0 q24:AV)(n3 n4 n10 n11 n12 n18 n19 n23 n25 n26 n28 n29 n30 n31 n35 n37 n39 n41 n15:Int)(st:St):evR gA29 sL15 (f43P 3) ⟨62,[(0,v0),(3,(u64 n3)),(4,(i64 n4))],[]⟩ st [.av (i64 n10),.av (i64 n11),.av (i64 n12),.av TT,.av (i64 n18),.av (i64 n19),.av TT,.av (i64 n23),.av q24,.eff (u8 n25) id,.eff (u64 n26) id,.av (i64 n28),.eff (u64 n29) id,.av (u64 n30),.av (u64 n31),.av TT,.av (u64 n35),.av (u64 n37),.av (u64 n39),.av (u64 n41),.av FF,.av (i64 n15)]=some (.normal,62,[v0,(u64 n39),(i64 n15)],st,[lenA E0 22 v0=some (i64 n10),Bt 3 .mul 8 n10 (i64 n11),Bt 3 .add n11 32 (i64 n12),Bt 3 .lss n4 n12 TT,lenA E0 22 v0=some (i64 n18),Bt 3 .mul 8 n18 (i64 n19),Bt 3 .lss n4 n19 TT,Bt 3 .quo n4 8 (i64 n23),indexAddrA E0 22 v0 (i64 n23)=some q24,loadA E0 st 5 q24=some (u8 n25)∧st=st,convO E0 st 5 79 (u8 n25)=some ((u64 n26),st),Bt 3 .rem n4 8 (i64 n28),convO E0 st 3 53 (i64 n28)=some ((u64 n29),st),binA E0 .shr 79 (u64 n26) (u64 n29)=some (u64 n30),binA E0 .and 79 (u64 n30) (u64 1)=some (u64 n31),Bt 3 .lss n4 32 TT,binA E0 .xor 79 (u64 n31) (u64 1)=some (u64 n35),binA E0 .mul 79 (u64 2) (u64 n3)=some (u64 n37),binA E0 .add 79 (u64 n37) (u64 n35)=some (u64 n39),binA E0 .shr 79 (u64 n39) (u64 32)=some (u64 n41),binA E0 .eql 79 (u64 n41) (u64 1)=some FF,Bt 3 .add n4 1 (i64 n15)]):=by kernel_rfl
theorem f43_3_TTTF{v0 q24:AV}{n3 n4 n10 n11 n12 n18 n19 n23 n25 n26 n28 n29 n30 n31 n35 n37 n39 n41 n15:Int}{st:St}(h1:lenA E0 22 v0=some (i64 n10))(h2:Bt 3 .mul 8 n10 (i64 n11))(h3:Bt 3 .add n11 32 (i64 n12))(h4:Bt 3 .lss n4 n12 TT)(h5:lenA E0 22 v0=some (i64 n18))(h6:Bt 3 .mul 8 n18 (i64 n19))(h7:Bt 3 .lss n4 n19 TT)(h8:Bt 3 .quo n4 8 (i64 n23))(h9:indexAddrA E0 22 v0 (i64 n23)=some q24)(h10:loadA E0 st 5 q24=some (u8 n25))(h11:convO E0 st 5 79 (u8 n25)=some ((u64 n26),st))(h12:Bt 3 .rem n4 8 (i64 n28))(h13:convO E0 st 3 53 (i64 n28)=some ((u64 n29),st))(h14:binA E0 .shr 79 (u64 n26) (u64 n29)=some (u64 n30))(h15:binA E0 .and 79 (u64 n30) (u64 1)=some (u64 n31))(h16:Bt 3 .lss n4 32 TT)(h17:binA E0 .xor 79 (u64 n31) (u64 1)=some (u64 n35))(h18:binA E0 .mul 79 (u64 2) (u64 n3)=some (u64 n37))(h19:binA E0 .add 79 (u64 n37) (u64 n35)=some (u64 n39))(h20:binA E0 .shr 79 (u64 n39) (u64 32)=some (u64 n41))(h21:binA E0 .eql 79 (u64 n41) (u64 1)=some FF)(h22:Bt 3 .add n4 1 (i64 n15)){T:Tm}(hT:f43L2 T v0 (u64 n3) (i64 n4)):AW Tryz.prog (f43P 3) (fun ex T' st'=>ex= .normal∧f43L2 T' v0 (u64 n39) (i64 n15)∧st'=st) T st:=by
 obtain ⟨hn,g0,g3,g4⟩:=hT
 exact genR (f43_3_TTTF_e v0 q24 n3 n4 n10 n11 n12 n18 n19 n23 n25 n26 n28 n29 n30 n31 n35 n37 n39 n41 n15 st) (kk h1 (kk h2 (kk h3 (kk h4 (kk h5 (kk h6 (kk h7 (kk h8 (kk h9 (kk ⟨h10,rfl⟩ (kk h11 (kk h12 (kk h13 (kk h14 (kk h15 (kk h16 (kk h17 (kk h18 (kk h19 (kk h20 (kk h21 (kk h22 Ob.ok_nil)))))))))))))))))))))) hn (conz g0 (conz g3 (one g4))) fun T' q2 q3=>by simp only [gA29,List.cons.injEq,and_true] at q3;exact ⟨rfl,⟨q2,q3⟩,rfl⟩
theorem f43_3_TTFT_e(v0 q24:AV)(n3 n4 n10 n11 n12 n18 n19 n23 n25 n26 n28 n29 n30 n31 n37 n39 n41 n44 n15:Int)(st:St):evR gA29 sL15 (f43P 3) ⟨62,[(0,v0),(3,(u64 n3)),(4,(i64 n4))],[]⟩ st [.av (i64 n10),.av (i64 n11),.av (i64 n12),.av TT,.av (i64 n18),.av (i64 n19),.av TT,.av (i64 n23),.av q24,.eff (u8 n25) id,.eff (u64 n26) id,.av (i64 n28),.eff (u64 n29) id,.av (u64 n30),.av (u64 n31),.av FF,.av (u64 n37),.av (u64 n39),.av (u64 n41),.av TT,.av (u64 n44),.av (i64 n15)]=some (.normal,62,[v0,(u64 n44),(i64 n15)],st,[lenA E0 22 v0=some (i64 n10),Bt 3 .mul 8 n10 (i64 n11),Bt 3 .add n11 32 (i64 n12),Bt 3 .lss n4 n12 TT,lenA E0 22 v0=some (i64 n18),Bt 3 .mul 8 n18 (i64 n19),Bt 3 .lss n4 n19 TT,Bt 3 .quo n4 8 (i64 n23),indexAddrA E0 22 v0 (i64 n23)=some q24,loadA E0 st 5 q24=some (u8 n25)∧st=st,convO E0 st 5 79 (u8 n25)=some ((u64 n26),st),Bt 3 .rem n4 8 (i64 n28),convO E0 st 3 53 (i64 n28)=some ((u64 n29),st),binA E0 .shr 79 (u64 n26) (u64 n29)=some (u64 n30),binA E0 .and 79 (u64 n30) (u64 1)=some (u64 n31),Bt 3 .lss n4 32 FF,binA E0 .mul 79 (u64 2) (u64 n3)=some (u64 n37),binA E0 .add 79 (u64 n37) (u64 n31)=some (u64 n39),binA E0 .shr 79 (u64 n39) (u64 32)=some (u64 n41),binA E0 .eql 79 (u64 n41) (u64 1)=some TT,binA E0 .xor 79 (u64 n39) (u64 4374732215)=some (u64 n44),Bt 3 .add n4 1 (i64 n15)]):=by kernel_rfl
theorem f43_3_TTFT{v0 q24:AV}{n3 n4 n10 n11 n12 n18 n19 n23 n25 n26 n28 n29 n30 n31 n37 n39 n41 n44 n15:Int}{st:St}(h1:lenA E0 22 v0=some (i64 n10))(h2:Bt 3 .mul 8 n10 (i64 n11))(h3:Bt 3 .add n11 32 (i64 n12))(h4:Bt 3 .lss n4 n12 TT)(h5:lenA E0 22 v0=some (i64 n18))(h6:Bt 3 .mul 8 n18 (i64 n19))(h7:Bt 3 .lss n4 n19 TT)(h8:Bt 3 .quo n4 8 (i64 n23))(h9:indexAddrA E0 22 v0 (i64 n23)=some q24)(h10:loadA E0 st 5 q24=some (u8 n25))(h11:convO E0 st 5 79 (u8 n25)=some ((u64 n26),st))(h12:Bt 3 .rem n4 8 (i64 n28))(h13:convO E0 st 3 53 (i64 n28)=some ((u64 n29),st))(h14:binA E0 .shr 79 (u64 n26) (u64 n29)=some (u64 n30))(h15:binA E0 .and 79 (u64 n30) (u64 1)=some (u64 n31))(h16:Bt 3 .lss n4 32 FF)(h17:binA E0 .mul 79 (u64 2) (u64 n3)=some (u64 n37))(h18:binA E0 .add 79 (u64 n37) (u64 n31)=some (u64 n39))(h19:binA E0 .shr 79 (u64 n39) (u64 32)=some (u64 n41))(h20:binA E0 .eql 79 (u64 n41) (u64 1)=some TT)(h21:binA E0 .xor 79 (u64 n39) (u64 4374732215)=some (u64 n44))(h22:Bt 3 .add n4 1 (i64 n15)){T:Tm}(hT:f43L2 T v0 (u64 n3) (i64 n4)):AW Tryz.prog (f43P 3) (fun ex T' st'=>ex= .normal∧f43L2 T' v0 (u64 n44) (i64 n15)∧st'=st) T st:=by
 obtain ⟨hn,g0,g3,g4⟩:=hT
 exact genR (f43_3_TTFT_e v0 q24 n3 n4 n10 n11 n12 n18 n19 n23 n25 n26 n28 n29 n30 n31 n37 n39 n41 n44 n15 st) (kk h1 (kk h2 (kk h3 (kk h4 (kk h5 (kk h6 (kk h7 (kk h8 (kk h9 (kk ⟨h10,rfl⟩ (kk h11 (kk h12 (kk h13 (kk h14 (kk h15 (kk h16 (kk h17 (kk h18 (kk h19 (kk h20 (kk h21 (kk h22 Ob.ok_nil)))))))))))))))))))))) hn (conz g0 (conz g3 (one g4))) fun T' q2 q3=>by simp only [gA29,List.cons.injEq,and_true] at q3;exact ⟨rfl,⟨q2,q3⟩,rfl⟩
theorem f43_3_TTFF_e(v0 q24:AV)(n3 n4 n10 n11 n12 n18 n19 n23 n25 n26 n28 n29 n30 n31 n37 n39 n41 n15:Int)(st:St):evR gA29 sL15 (f43P 3) ⟨62,[(0,v0),(3,(u64 n3)),(4,(i64 n4))],[]⟩ st [.av (i64 n10),.av (i64 n11),.av (i64 n12),.av TT,.av (i64 n18),.av (i64 n19),.av TT,.av (i64 n23),.av q24,.eff (u8 n25) id,.eff (u64 n26) id,.av (i64 n28),.eff (u64 n29) id,.av (u64 n30),.av (u64 n31),.av FF,.av (u64 n37),.av (u64 n39),.av (u64 n41),.av FF,.av (i64 n15)]=some (.normal,62,[v0,(u64 n39),(i64 n15)],st,[lenA E0 22 v0=some (i64 n10),Bt 3 .mul 8 n10 (i64 n11),Bt 3 .add n11 32 (i64 n12),Bt 3 .lss n4 n12 TT,lenA E0 22 v0=some (i64 n18),Bt 3 .mul 8 n18 (i64 n19),Bt 3 .lss n4 n19 TT,Bt 3 .quo n4 8 (i64 n23),indexAddrA E0 22 v0 (i64 n23)=some q24,loadA E0 st 5 q24=some (u8 n25)∧st=st,convO E0 st 5 79 (u8 n25)=some ((u64 n26),st),Bt 3 .rem n4 8 (i64 n28),convO E0 st 3 53 (i64 n28)=some ((u64 n29),st),binA E0 .shr 79 (u64 n26) (u64 n29)=some (u64 n30),binA E0 .and 79 (u64 n30) (u64 1)=some (u64 n31),Bt 3 .lss n4 32 FF,binA E0 .mul 79 (u64 2) (u64 n3)=some (u64 n37),binA E0 .add 79 (u64 n37) (u64 n31)=some (u64 n39),binA E0 .shr 79 (u64 n39) (u64 32)=some (u64 n41),binA E0 .eql 79 (u64 n41) (u64 1)=some FF,Bt 3 .add n4 1 (i64 n15)]):=by kernel_rfl
theorem f43_3_TTFF{v0 q24:AV}{n3 n4 n10 n11 n12 n18 n19 n23 n25 n26 n28 n29 n30 n31 n37 n39 n41 n15:Int}{st:St}(h1:lenA E0 22 v0=some (i64 n10))(h2:Bt 3 .mul 8 n10 (i64 n11))(h3:Bt 3 .add n11 32 (i64 n12))(h4:Bt 3 .lss n4 n12 TT)(h5:lenA E0 22 v0=some (i64 n18))(h6:Bt 3 .mul 8 n18 (i64 n19))(h7:Bt 3 .lss n4 n19 TT)(h8:Bt 3 .quo n4 8 (i64 n23))(h9:indexAddrA E0 22 v0 (i64 n23)=some q24)(h10:loadA E0 st 5 q24=some (u8 n25))(h11:convO E0 st 5 79 (u8 n25)=some ((u64 n26),st))(h12:Bt 3 .rem n4 8 (i64 n28))(h13:convO E0 st 3 53 (i64 n28)=some ((u64 n29),st))(h14:binA E0 .shr 79 (u64 n26) (u64 n29)=some (u64 n30))(h15:binA E0 .and 79 (u64 n30) (u64 1)=some (u64 n31))(h16:Bt 3 .lss n4 32 FF)(h17:binA E0 .mul 79 (u64 2) (u64 n3)=some (u64 n37))(h18:binA E0 .add 79 (u64 n37) (u64 n31)=some (u64 n39))(h19:binA E0 .shr 79 (u64 n39) (u64 32)=some (u64 n41))(h20:binA E0 .eql 79 (u64 n41) (u64 1)=some FF)(h21:Bt 3 .add n4 1 (i64 n15)){T:Tm}(hT:f43L2 T v0 (u64 n3) (i64 n4)):AW Tryz.prog (f43P 3) (fun ex T' st'=>ex= .normal∧f43L2 T' v0 (u64 n39) (i64 n15)∧st'=st) T st:=by
 obtain ⟨hn,g0,g3,g4⟩:=hT
 exact genR (f43_3_TTFF_e v0 q24 n3 n4 n10 n11 n12 n18 n19 n23 n25 n26 n28 n29 n30 n31 n37 n39 n41 n15 st) (kk h1 (kk h2 (kk h3 (kk h4 (kk h5 (kk h6 (kk h7 (kk h8 (kk h9 (kk ⟨h10,rfl⟩ (kk h11 (kk h12 (kk h13 (kk h14 (kk h15 (kk h16 (kk h17 (kk h18 (kk h19 (kk h20 (kk h21 Ob.ok_nil))))))))))))))))))))) hn (conz g0 (conz g3 (one g4))) fun T' q2 q3=>by simp only [gA29,List.cons.injEq,and_true] at q3;exact ⟨rfl,⟨q2,q3⟩,rfl⟩
theorem f43_3_TFTT_e(v0:AV)(n3 n4 n10 n11 n12 n18 n19 n35 n37 n39 n41 n44 n15:Int)(st:St):evR gA29 sL15 (f43P 3) ⟨62,[(0,v0),(3,(u64 n3)),(4,(i64 n4))],[]⟩ st [.av (i64 n10),.av (i64 n11),.av (i64 n12),.av TT,.av (i64 n18),.av (i64 n19),.av FF,.av TT,.av (u64 n35),.av (u64 n37),.av (u64 n39),.av (u64 n41),.av TT,.av (u64 n44),.av (i64 n15)]=some (.normal,62,[v0,(u64 n44),(i64 n15)],st,[lenA E0 22 v0=some (i64 n10),Bt 3 .mul 8 n10 (i64 n11),Bt 3 .add n11 32 (i64 n12),Bt 3 .lss n4 n12 TT,lenA E0 22 v0=some (i64 n18),Bt 3 .mul 8 n18 (i64 n19),Bt 3 .lss n4 n19 FF,Bt 3 .lss n4 32 TT,binA E0 .xor 79 (u64 0) (u64 1)=some (u64 n35),binA E0 .mul 79 (u64 2) (u64 n3)=some (u64 n37),binA E0 .add 79 (u64 n37) (u64 n35)=some (u64 n39),binA E0 .shr 79 (u64 n39) (u64 32)=some (u64 n41),binA E0 .eql 79 (u64 n41) (u64 1)=some TT,binA E0 .xor 79 (u64 n39) (u64 4374732215)=some (u64 n44),Bt 3 .add n4 1 (i64 n15)]):=by kernel_rfl
theorem f43_3_TFTT{v0:AV}{n3 n4 n10 n11 n12 n18 n19 n35 n37 n39 n41 n44 n15:Int}{st:St}(h1:lenA E0 22 v0=some (i64 n10))(h2:Bt 3 .mul 8 n10 (i64 n11))(h3:Bt 3 .add n11 32 (i64 n12))(h4:Bt 3 .lss n4 n12 TT)(h5:lenA E0 22 v0=some (i64 n18))(h6:Bt 3 .mul 8 n18 (i64 n19))(h7:Bt 3 .lss n4 n19 FF)(h8:Bt 3 .lss n4 32 TT)(h9:binA E0 .xor 79 (u64 0) (u64 1)=some (u64 n35))(h10:binA E0 .mul 79 (u64 2) (u64 n3)=some (u64 n37))(h11:binA E0 .add 79 (u64 n37) (u64 n35)=some (u64 n39))(h12:binA E0 .shr 79 (u64 n39) (u64 32)=some (u64 n41))(h13:binA E0 .eql 79 (u64 n41) (u64 1)=some TT)(h14:binA E0 .xor 79 (u64 n39) (u64 4374732215)=some (u64 n44))(h15:Bt 3 .add n4 1 (i64 n15)){T:Tm}(hT:f43L2 T v0 (u64 n3) (i64 n4)):AW Tryz.prog (f43P 3) (fun ex T' st'=>ex= .normal∧f43L2 T' v0 (u64 n44) (i64 n15)∧st'=st) T st:=by
 obtain ⟨hn,g0,g3,g4⟩:=hT
 exact genR (f43_3_TFTT_e v0 n3 n4 n10 n11 n12 n18 n19 n35 n37 n39 n41 n44 n15 st) (kk h1 (kk h2 (kk h3 (kk h4 (kk h5 (kk h6 (kk h7 (kk h8 (kk h9 (kk h10 (kk h11 (kk h12 (kk h13 (kk h14 (kk h15 Ob.ok_nil))))))))))))))) hn (conz g0 (conz g3 (one g4))) fun T' q2 q3=>by simp only [gA29,List.cons.injEq,and_true] at q3;exact ⟨rfl,⟨q2,q3⟩,rfl⟩
theorem f43_3_TFTF_e(v0:AV)(n3 n4 n10 n11 n12 n18 n19 n35 n37 n39 n41 n15:Int)(st:St):evR gA29 sL15 (f43P 3) ⟨62,[(0,v0),(3,(u64 n3)),(4,(i64 n4))],[]⟩ st [.av (i64 n10),.av (i64 n11),.av (i64 n12),.av TT,.av (i64 n18),.av (i64 n19),.av FF,.av TT,.av (u64 n35),.av (u64 n37),.av (u64 n39),.av (u64 n41),.av FF,.av (i64 n15)]=some (.normal,62,[v0,(u64 n39),(i64 n15)],st,[lenA E0 22 v0=some (i64 n10),Bt 3 .mul 8 n10 (i64 n11),Bt 3 .add n11 32 (i64 n12),Bt 3 .lss n4 n12 TT,lenA E0 22 v0=some (i64 n18),Bt 3 .mul 8 n18 (i64 n19),Bt 3 .lss n4 n19 FF,Bt 3 .lss n4 32 TT,binA E0 .xor 79 (u64 0) (u64 1)=some (u64 n35),binA E0 .mul 79 (u64 2) (u64 n3)=some (u64 n37),binA E0 .add 79 (u64 n37) (u64 n35)=some (u64 n39),binA E0 .shr 79 (u64 n39) (u64 32)=some (u64 n41),binA E0 .eql 79 (u64 n41) (u64 1)=some FF,Bt 3 .add n4 1 (i64 n15)]):=by kernel_rfl
theorem f43_3_TFTF{v0:AV}{n3 n4 n10 n11 n12 n18 n19 n35 n37 n39 n41 n15:Int}{st:St}(h1:lenA E0 22 v0=some (i64 n10))(h2:Bt 3 .mul 8 n10 (i64 n11))(h3:Bt 3 .add n11 32 (i64 n12))(h4:Bt 3 .lss n4 n12 TT)(h5:lenA E0 22 v0=some (i64 n18))(h6:Bt 3 .mul 8 n18 (i64 n19))(h7:Bt 3 .lss n4 n19 FF)(h8:Bt 3 .lss n4 32 TT)(h9:binA E0 .xor 79 (u64 0) (u64 1)=some (u64 n35))(h10:binA E0 .mul 79 (u64 2) (u64 n3)=some (u64 n37))(h11:binA E0 .add 79 (u64 n37) (u64 n35)=some (u64 n39))(h12:binA E0 .shr 79 (u64 n39) (u64 32)=some (u64 n41))(h13:binA E0 .eql 79 (u64 n41) (u64 1)=some FF)(h14:Bt 3 .add n4 1 (i64 n15)){T:Tm}(hT:f43L2 T v0 (u64 n3) (i64 n4)):AW Tryz.prog (f43P 3) (fun ex T' st'=>ex= .normal∧f43L2 T' v0 (u64 n39) (i64 n15)∧st'=st) T st:=by
 obtain ⟨hn,g0,g3,g4⟩:=hT
 exact genR (f43_3_TFTF_e v0 n3 n4 n10 n11 n12 n18 n19 n35 n37 n39 n41 n15 st) (kk h1 (kk h2 (kk h3 (kk h4 (kk h5 (kk h6 (kk h7 (kk h8 (kk h9 (kk h10 (kk h11 (kk h12 (kk h13 (kk h14 Ob.ok_nil)))))))))))))) hn (conz g0 (conz g3 (one g4))) fun T' q2 q3=>by simp only [gA29,List.cons.injEq,and_true] at q3;exact ⟨rfl,⟨q2,q3⟩,rfl⟩
theorem f43_3_TFFT_e(v0:AV)(n3 n4 n10 n11 n12 n18 n19 n37 n39 n41 n44 n15:Int)(st:St):evR gA29 sL15 (f43P 3) ⟨62,[(0,v0),(3,(u64 n3)),(4,(i64 n4))],[]⟩ st [.av (i64 n10),.av (i64 n11),.av (i64 n12),.av TT,.av (i64 n18),.av (i64 n19),.av FF,.av FF,.av (u64 n37),.av (u64 n39),.av (u64 n41),.av TT,.av (u64 n44),.av (i64 n15)]=some (.normal,62,[v0,(u64 n44),(i64 n15)],st,[lenA E0 22 v0=some (i64 n10),Bt 3 .mul 8 n10 (i64 n11),Bt 3 .add n11 32 (i64 n12),Bt 3 .lss n4 n12 TT,lenA E0 22 v0=some (i64 n18),Bt 3 .mul 8 n18 (i64 n19),Bt 3 .lss n4 n19 FF,Bt 3 .lss n4 32 FF,binA E0 .mul 79 (u64 2) (u64 n3)=some (u64 n37),binA E0 .add 79 (u64 n37) (u64 0)=some (u64 n39),binA E0 .shr 79 (u64 n39) (u64 32)=some (u64 n41),binA E0 .eql 79 (u64 n41) (u64 1)=some TT,binA E0 .xor 79 (u64 n39) (u64 4374732215)=some (u64 n44),Bt 3 .add n4 1 (i64 n15)]):=by kernel_rfl
theorem f43_3_TFFT{v0:AV}{n3 n4 n10 n11 n12 n18 n19 n37 n39 n41 n44 n15:Int}{st:St}(h1:lenA E0 22 v0=some (i64 n10))(h2:Bt 3 .mul 8 n10 (i64 n11))(h3:Bt 3 .add n11 32 (i64 n12))(h4:Bt 3 .lss n4 n12 TT)(h5:lenA E0 22 v0=some (i64 n18))(h6:Bt 3 .mul 8 n18 (i64 n19))(h7:Bt 3 .lss n4 n19 FF)(h8:Bt 3 .lss n4 32 FF)(h9:binA E0 .mul 79 (u64 2) (u64 n3)=some (u64 n37))(h10:binA E0 .add 79 (u64 n37) (u64 0)=some (u64 n39))(h11:binA E0 .shr 79 (u64 n39) (u64 32)=some (u64 n41))(h12:binA E0 .eql 79 (u64 n41) (u64 1)=some TT)(h13:binA E0 .xor 79 (u64 n39) (u64 4374732215)=some (u64 n44))(h14:Bt 3 .add n4 1 (i64 n15)){T:Tm}(hT:f43L2 T v0 (u64 n3) (i64 n4)):AW Tryz.prog (f43P 3) (fun ex T' st'=>ex= .normal∧f43L2 T' v0 (u64 n44) (i64 n15)∧st'=st) T st:=by
 obtain ⟨hn,g0,g3,g4⟩:=hT
 exact genR (f43_3_TFFT_e v0 n3 n4 n10 n11 n12 n18 n19 n37 n39 n41 n44 n15 st) (kk h1 (kk h2 (kk h3 (kk h4 (kk h5 (kk h6 (kk h7 (kk h8 (kk h9 (kk h10 (kk h11 (kk h12 (kk h13 (kk h14 Ob.ok_nil)))))))))))))) hn (conz g0 (conz g3 (one g4))) fun T' q2 q3=>by simp only [gA29,List.cons.injEq,and_true] at q3;exact ⟨rfl,⟨q2,q3⟩,rfl⟩
theorem f43_3_TFFF_e(v0:AV)(n3 n4 n10 n11 n12 n18 n19 n37 n39 n41 n15:Int)(st:St):evR gA29 sL15 (f43P 3) ⟨62,[(0,v0),(3,(u64 n3)),(4,(i64 n4))],[]⟩ st [.av (i64 n10),.av (i64 n11),.av (i64 n12),.av TT,.av (i64 n18),.av (i64 n19),.av FF,.av FF,.av (u64 n37),.av (u64 n39),.av (u64 n41),.av FF,.av (i64 n15)]=some (.normal,62,[v0,(u64 n39),(i64 n15)],st,[lenA E0 22 v0=some (i64 n10),Bt 3 .mul 8 n10 (i64 n11),Bt 3 .add n11 32 (i64 n12),Bt 3 .lss n4 n12 TT,lenA E0 22 v0=some (i64 n18),Bt 3 .mul 8 n18 (i64 n19),Bt 3 .lss n4 n19 FF,Bt 3 .lss n4 32 FF,binA E0 .mul 79 (u64 2) (u64 n3)=some (u64 n37),binA E0 .add 79 (u64 n37) (u64 0)=some (u64 n39),binA E0 .shr 79 (u64 n39) (u64 32)=some (u64 n41),binA E0 .eql 79 (u64 n41) (u64 1)=some FF,Bt 3 .add n4 1 (i64 n15)]):=by kernel_rfl
theorem f43_3_TFFF{v0:AV}{n3 n4 n10 n11 n12 n18 n19 n37 n39 n41 n15:Int}{st:St}(h1:lenA E0 22 v0=some (i64 n10))(h2:Bt 3 .mul 8 n10 (i64 n11))(h3:Bt 3 .add n11 32 (i64 n12))(h4:Bt 3 .lss n4 n12 TT)(h5:lenA E0 22 v0=some (i64 n18))(h6:Bt 3 .mul 8 n18 (i64 n19))(h7:Bt 3 .lss n4 n19 FF)(h8:Bt 3 .lss n4 32 FF)(h9:binA E0 .mul 79 (u64 2) (u64 n3)=some (u64 n37))(h10:binA E0 .add 79 (u64 n37) (u64 0)=some (u64 n39))(h11:binA E0 .shr 79 (u64 n39) (u64 32)=some (u64 n41))(h12:binA E0 .eql 79 (u64 n41) (u64 1)=some FF)(h13:Bt 3 .add n4 1 (i64 n15)){T:Tm}(hT:f43L2 T v0 (u64 n3) (i64 n4)):AW Tryz.prog (f43P 3) (fun ex T' st'=>ex= .normal∧f43L2 T' v0 (u64 n39) (i64 n15)∧st'=st) T st:=by
 obtain ⟨hn,g0,g3,g4⟩:=hT
 exact genR (f43_3_TFFF_e v0 n3 n4 n10 n11 n12 n18 n19 n37 n39 n41 n15 st) (kk h1 (kk h2 (kk h3 (kk h4 (kk h5 (kk h6 (kk h7 (kk h8 (kk h9 (kk h10 (kk h11 (kk h12 (kk h13 Ob.ok_nil))))))))))))) hn (conz g0 (conz g3 (one g4))) fun T' q2 q3=>by simp only [gA29,List.cons.injEq,and_true] at q3;exact ⟨rfl,⟨q2,q3⟩,rfl⟩
def f43L3(T:Tm)(a3:AV):Prop:=T.n=62∧T.get 3=a3
theorem f43_3_F_e(v0:AV)(n3 n4 n10 n11 n12:Int)(st:St):evR gA3 sL15 (f43P 3) ⟨62,[(0,v0),(3,(u64 n3)),(4,(i64 n4))],[]⟩ st [.av (i64 n10),.av (i64 n11),.av (i64 n12),.av FF]=some ((.exit 0),62,[(u64 n3)],st,[lenA E0 22 v0=some (i64 n10),Bt 3 .mul 8 n10 (i64 n11),Bt 3 .add n11 32 (i64 n12),Bt 3 .lss n4 n12 FF]):=by kernel_rfl
theorem f43_3_F{v0:AV}{n3 n4 n10 n11 n12:Int}{st:St}(h1:lenA E0 22 v0=some (i64 n10))(h2:Bt 3 .mul 8 n10 (i64 n11))(h3:Bt 3 .add n11 32 (i64 n12))(h4:Bt 3 .lss n4 n12 FF){T:Tm}(hT:f43L2 T v0 (u64 n3) (i64 n4)):AW Tryz.prog (f43P 3) (fun ex T' st'=>ex=(.exit 0)∧f43L3 T' (u64 n3)∧st'=st) T st:=by
 obtain ⟨hn,g0,g3,g4⟩:=hT
 exact genR (f43_3_F_e v0 n3 n4 n10 n11 n12 st) (kk h1 (kk h2 (kk h3 (kk h4 Ob.ok_nil)))) hn (conz g0 (conz g3 (one g4))) fun T' q2 q3=>by simp only [gA3,List.cons.injEq,and_true] at q3;exact ⟨rfl,⟨q2,q3⟩,rfl⟩
def f43L4(T:Tm)(a3 a6:AV):Prop:=T.n=62∧T.get 3=a3∧T.get 6=a6
abbrev gA30(T:Tm):List AV:= [T.get 3,T.get 6]
theorem f43_4_e(n3:Int)(st:St):evR gA30 [] (f43P 4) ⟨62,[(3,(u64 n3))],[]⟩ st []=some (.normal,62,[(u64 n3),(u32 0)],st,[]):=by kernel_rfl
theorem f43_4{n3:Int}{st:St}{T:Tm}(hT:f43L3 T (u64 n3)):AW Tryz.prog (f43P 4) (fun ex T' st'=>ex= .normal∧f43L4 T' (u64 n3) (u32 0)∧st'=st) T st:=by
 obtain ⟨hn,g3⟩:=hT
 exact genR (f43_4_e n3 st) Ob.ok_nil hn (one g3) fun T' q2 q3=>by simp only [gA30,List.cons.injEq,and_true] at q3;exact ⟨rfl,⟨q2,q3⟩,rfl⟩
def f43L5(T:Tm)(a3 a6 a7:AV):Prop:=T.n=62∧T.get 3=a3∧T.get 6=a6∧T.get 7=a7
abbrev gA31(T:Tm):List AV:= [T.get 3,T.get 6,T.get 7]
theorem f43_5_e(n3 n6:Int)(st:St):evR gA31 [] (f43P 5) ⟨62,[(3,(u64 n3)),(6,(u32 n6))],[]⟩ st []=some (.normal,62,[(u64 n3),(u32 n6),(i64 0)],st,[]):=by kernel_rfl
theorem f43_5{n3 n6:Int}{st:St}{T:Tm}(hT:f43L4 T (u64 n3) (u32 n6)):AW Tryz.prog (f43P 5) (fun ex T' st'=>ex= .normal∧f43L5 T' (u64 n3) (u32 n6) (i64 0)∧st'=st) T st:=by
 obtain ⟨hn,g3,g6⟩:=hT
 exact genR (f43_5_e n3 n6 st) Ob.ok_nil hn (conz g3 (one g6)) fun T' q2 q3=>by simp only [gA31,List.cons.injEq,and_true] at q3;exact ⟨rfl,⟨q2,q3⟩,rfl⟩
abbrev sL16:List Nat:= [2051,2058,7046,7048,7052,7053,7054,7057,7059,7060]
theorem f43_6_TT_e(n3 n6 n7 n51 n52 n53 n57 n58 n59 n60 n48:Int)(st:St):evR gA31 sL16 (f43P 6) ⟨62,[(3,(u64 n3)),(6,(u32 n6)),(7,(i64 n7))],[]⟩ st [.av TT,.eff (u64 n51) id,.av (u64 n52),.av (u64 n53),.av TT,.av (i64 n57),.eff (u64 n58) id,.av (u32 n59),.av (u32 n60),.av (i64 n48)]=some (.normal,62,[(u64 n3),(u32 n60),(i64 n48)],st,[Bt 3 .lss n7 32 TT,convO E0 st 3 53 (i64 n7)=some ((u64 n51),st),binA E0 .shr 79 (u64 n3) (u64 n51)=some (u64 n52),binA E0 .and 79 (u64 n52) (u64 1)=some (u64 n53),binA E0 .eql 79 (u64 n53) (u64 0)=some TT,Bt 3 .sub 31 n7 (i64 n57),convO E0 st 3 53 (i64 n57)=some ((u64 n58),st),binA E0 .shl 80 (u32 1) (u64 n58)=some (u32 n59),binA E0 .add 80 (u32 n6) (u32 n59)=some (u32 n60),Bt 3 .add n7 1 (i64 n48)]):=by kernel_rfl
theorem f43_6_TT{n3 n6 n7 n51 n52 n53 n57 n58 n59 n60 n48:Int}{st:St}(h1:Bt 3 .lss n7 32 TT)(h2:convO E0 st 3 53 (i64 n7)=some ((u64 n51),st))(h3:binA E0 .shr 79 (u64 n3) (u64 n51)=some (u64 n52))(h4:binA E0 .and 79 (u64 n52) (u64 1)=some (u64 n53))(h5:binA E0 .eql 79 (u64 n53) (u64 0)=some TT)(h6:Bt 3 .sub 31 n7 (i64 n57))(h7:convO E0 st 3 53 (i64 n57)=some ((u64 n58),st))(h8:binA E0 .shl 80 (u32 1) (u64 n58)=some (u32 n59))(h9:binA E0 .add 80 (u32 n6) (u32 n59)=some (u32 n60))(h10:Bt 3 .add n7 1 (i64 n48)){T:Tm}(hT:f43L5 T (u64 n3) (u32 n6) (i64 n7)):AW Tryz.prog (f43P 6) (fun ex T' st'=>ex= .normal∧f43L5 T' (u64 n3) (u32 n60) (i64 n48)∧st'=st) T st:=by
 obtain ⟨hn,g3,g6,g7⟩:=hT
 exact genR (f43_6_TT_e n3 n6 n7 n51 n52 n53 n57 n58 n59 n60 n48 st) (kk h1 (kk h2 (kk h3 (kk h4 (kk h5 (kk h6 (kk h7 (kk h8 (kk h9 (kk h10 Ob.ok_nil)))))))))) hn (conz g3 (conz g6 (one g7))) fun T' q2 q3=>by simp only [gA31,List.cons.injEq,and_true] at q3;exact ⟨rfl,⟨q2,q3⟩,rfl⟩
theorem f43_6_TF_e(n3 n6 n7 n51 n52 n53 n48:Int)(st:St):evR gA31 sL16 (f43P 6) ⟨62,[(3,(u64 n3)),(6,(u32 n6)),(7,(i64 n7))],[]⟩ st [.av TT,.eff (u64 n51) id,.av (u64 n52),.av (u64 n53),.av FF,.av (i64 n48)]=some (.normal,62,[(u64 n3),(u32 n6),(i64 n48)],st,[Bt 3 .lss n7 32 TT,convO E0 st 3 53 (i64 n7)=some ((u64 n51),st),binA E0 .shr 79 (u64 n3) (u64 n51)=some (u64 n52),binA E0 .and 79 (u64 n52) (u64 1)=some (u64 n53),binA E0 .eql 79 (u64 n53) (u64 0)=some FF,Bt 3 .add n7 1 (i64 n48)]):=by kernel_rfl
theorem f43_6_TF{n3 n6 n7 n51 n52 n53 n48:Int}{st:St}(h1:Bt 3 .lss n7 32 TT)(h2:convO E0 st 3 53 (i64 n7)=some ((u64 n51),st))(h3:binA E0 .shr 79 (u64 n3) (u64 n51)=some (u64 n52))(h4:binA E0 .and 79 (u64 n52) (u64 1)=some (u64 n53))(h5:binA E0 .eql 79 (u64 n53) (u64 0)=some FF)(h6:Bt 3 .add n7 1 (i64 n48)){T:Tm}(hT:f43L5 T (u64 n3) (u32 n6) (i64 n7)):AW Tryz.prog (f43P 6) (fun ex T' st'=>ex= .normal∧f43L5 T' (u64 n3) (u32 n6) (i64 n48)∧st'=st) T st:=by
 obtain ⟨hn,g3,g6,g7⟩:=hT
 exact genR (f43_6_TF_e n3 n6 n7 n51 n52 n53 n48 st) (kk h1 (kk h2 (kk h3 (kk h4 (kk h5 (kk h6 Ob.ok_nil)))))) hn (conz g3 (conz g6 (one g7))) fun T' q2 q3=>by simp only [gA31,List.cons.injEq,and_true] at q3;exact ⟨rfl,⟨q2,q3⟩,rfl⟩
def f43L6(T:Tm)(a6:AV):Prop:=T.n=62∧T.get 6=a6
abbrev gA32(T:Tm):List AV:= [T.get 6]
theorem f43_6_F_e(n3 n6 n7:Int)(st:St):evR gA32 sL16 (f43P 6) ⟨62,[(3,(u64 n3)),(6,(u32 n6)),(7,(i64 n7))],[]⟩ st [.av FF]=some ((.exit 2),62,[(u32 n6)],st,[Bt 3 .lss n7 32 FF]):=by kernel_rfl
theorem f43_6_F{n3 n6 n7:Int}{st:St}(h1:Bt 3 .lss n7 32 FF){T:Tm}(hT:f43L5 T (u64 n3) (u32 n6) (i64 n7)):AW Tryz.prog (f43P 6) (fun ex T' st'=>ex=(.exit 2)∧f43L6 T' (u32 n6)∧st'=st) T st:=by
 obtain ⟨hn,g3,g6,g7⟩:=hT
 exact genR (f43_6_F_e n3 n6 n7 st) (kk h1 Ob.ok_nil) hn (conz g3 (conz g6 (one g7))) fun T' q2 q3=>by simp only [gA32,List.cons.injEq,and_true] at q3;exact ⟨rfl,⟨q2,q3⟩,rfl⟩
def f43L7(T:Tm)(a2:AV):Prop:=T.n=62∧T.get 2=a2
theorem f43_7_e(n6:Int)(st:St):evR gA4 [] (f43P 7) ⟨62,[(6,(u32 n6))],[]⟩ st []=some (.ret,62,[(u32 n6)],st,[]):=by kernel_rfl
theorem f43_7{n6:Int}{st:St}{T:Tm}(hT:f43L6 T (u32 n6)):AW Tryz.prog (f43P 7) (fun ex T' st'=>ex= .ret∧f43L7 T' (u32 n6)∧st'=st) T st:=by
 obtain ⟨hn,g6⟩:=hT
 exact genR (f43_7_e n6 st) Ob.ok_nil hn (one g6) fun T' q2 q3=>by simp only [gA4,List.cons.injEq,and_true] at q3;exact ⟨rfl,⟨q2,q3⟩,rfl⟩
noncomputable def f10P(i:Nat):Code:=match Tryz.f10.body with
 |some (.seq x0 (.seq x1 (.seq x2 (.seq (.block 0 (.loop (.seq x3 (.block 1 (.seq x4 (.seq (.seq x5 (.block 2 (.loop x6))) x7)))))) x8))))=> [x0,x1,x2,x3,x4,x5,x6,x7,x8].getD i .skip
 |_=> .skip
theorem f10body:Tryz.f10.body=some (.seq (f10P 0) (.seq (f10P 1) (.seq (f10P 2) (.seq (.block 0 (.loop (.seq (f10P 3) (.block 1 (.seq (f10P 4) (.seq (.seq (f10P 5) (.block 2 (.loop (f10P 6)))) (f10P 7))))))) (f10P 8))))):=by kernel_rfl
def f10L0(T:Tm)(a0:AV):Prop:=T.n=81∧T.get 0=a0
theorem f10_0_e(v0:AV)(st:St):evR gA0 [] (f10P 0) ⟨81,[(0,v0)],[]⟩ st []=some (.normal,81,[v0],st,[]):=by kernel_rfl
theorem f10_0{v0:AV}{st:St}{T:Tm}(hT:f10L0 T v0):AW Tryz.prog (f10P 0) (fun ex T' st'=>ex= .normal∧f10L0 T' v0∧st'=st) T st:=by
 obtain ⟨hn,g0⟩:=hT
 exact genR (f10_0_e v0 st) Ob.ok_nil hn (one g0) fun T' q2 q3=>by simp only [gA0,List.cons.injEq,and_true] at q3;exact ⟨rfl,⟨q2,q3⟩,rfl⟩
def f10L1(T:Tm)(a0 a3:AV):Prop:=T.n=81∧T.get 0=a0∧T.get 3=a3
theorem f10_1_e(v0:AV)(st:St):evR gA1 [] (f10P 1) ⟨81,[(0,v0)],[]⟩ st []=some (.normal,81,[v0,.nils],st,[]):=by kernel_rfl
theorem f10_1{v0:AV}{st:St}{T:Tm}(hT:f10L0 T v0):AW Tryz.prog (f10P 1) (fun ex T' st'=>ex= .normal∧f10L1 T' v0 .nils∧st'=st) T st:=by
 obtain ⟨hn,g0⟩:=hT
 exact genR (f10_1_e v0 st) Ob.ok_nil hn (one g0) fun T' q2 q3=>by simp only [gA1,List.cons.injEq,and_true] at q3;exact ⟨rfl,⟨q2,q3⟩,rfl⟩
def f10L2(T:Tm)(a0 a3 a4:AV):Prop:=T.n=81∧T.get 0=a0∧T.get 3=a3∧T.get 4=a4
theorem f10_2_e(v0 v3:AV)(st:St):evR gA29 [] (f10P 2) ⟨81,[(0,v0),(3,v3)],[]⟩ st []=some (.normal,81,[v0,v3,(i64 0)],st,[]):=by kernel_rfl
theorem f10_2{v0 v3:AV}{st:St}{T:Tm}(hT:f10L1 T v0 v3):AW Tryz.prog (f10P 2) (fun ex T' st'=>ex= .normal∧f10L2 T' v0 v3 (i64 0)∧st'=st) T st:=by
 obtain ⟨hn,g0,g3⟩:=hT
 exact genR (f10_2_e v0 v3 st) Ob.ok_nil hn (conz g0 (one g3)) fun T' q2 q3=>by simp only [gA29,List.cons.injEq,and_true] at q3;exact ⟨rfl,⟨q2,q3⟩,rfl⟩
abbrev sL17:List Nat:= [7011,7013,7014]
theorem f10_3_T_e(v0 v3:AV)(n4 n11 n13:Int)(st:St):evR gA29 sL17 (f10P 3) ⟨81,[(0,v0),(3,v3),(4,(i64 n4))],[]⟩ st [.av (i64 n11),.av (i64 n13),.av TT]=some (.normal,81,[v0,v3,(i64 n4)],st,[lenA E0 22 v0=some (i64 n11),Bt 3 .sub n11 n4 (i64 n13),Bt 3 .geq n13 8 TT]):=by kernel_rfl
theorem f10_3_T{v0 v3:AV}{n4 n11 n13:Int}{st:St}(h1:lenA E0 22 v0=some (i64 n11))(h2:Bt 3 .sub n11 n4 (i64 n13))(h3:Bt 3 .geq n13 8 TT){T:Tm}(hT:f10L2 T v0 v3 (i64 n4)):AW Tryz.prog (f10P 3) (fun ex T' st'=>ex= .normal∧f10L2 T' v0 v3 (i64 n4)∧st'=st) T st:=by
 obtain ⟨hn,g0,g3,g4⟩:=hT
 exact genR (f10_3_T_e v0 v3 n4 n11 n13 st) (kk h1 (kk h2 (kk h3 Ob.ok_nil))) hn (conz g0 (conz g3 (one g4))) fun T' q2 q3=>by simp only [gA29,List.cons.injEq,and_true] at q3;exact ⟨rfl,⟨q2,q3⟩,rfl⟩
def f10L3(T:Tm)(a3:AV):Prop:=T.n=81∧T.get 3=a3
theorem f10_3_F_e(v0 v3:AV)(n4 n11 n13:Int)(st:St):evR gA3 sL17 (f10P 3) ⟨81,[(0,v0),(3,v3),(4,(i64 n4))],[]⟩ st [.av (i64 n11),.av (i64 n13),.av FF]=some ((.exit 0),81,[v3],st,[lenA E0 22 v0=some (i64 n11),Bt 3 .sub n11 n4 (i64 n13),Bt 3 .geq n13 8 FF]):=by kernel_rfl
theorem f10_3_F{v0 v3:AV}{n4 n11 n13:Int}{st:St}(h1:lenA E0 22 v0=some (i64 n11))(h2:Bt 3 .sub n11 n4 (i64 n13))(h3:Bt 3 .geq n13 8 FF){T:Tm}(hT:f10L2 T v0 v3 (i64 n4)):AW Tryz.prog (f10P 3) (fun ex T' st'=>ex=(.exit 0)∧f10L3 T' v3∧st'=st) T st:=by
 obtain ⟨hn,g0,g3,g4⟩:=hT
 exact genR (f10_3_F_e v0 v3 n4 n11 n13 st) (kk h1 (kk h2 (kk h3 Ob.ok_nil))) hn (conz g0 (conz g3 (one g4))) fun T' q2 q3=>by simp only [gA3,List.cons.injEq,and_true] at q3;exact ⟨rfl,⟨q2,q3⟩,rfl⟩
def f10L4(T:Tm)(a0 a3 a4 a5:AV):Prop:=T.n=81∧T.get 0=a0∧T.get 3=a3∧T.get 4=a4∧T.get 5=a5
abbrev gA33(T:Tm):List AV:= [T.get 0,T.get 3,T.get 4,T.get 5]
theorem f10_4_e(v0 v3:AV)(n4:Int)(st:St):evR gA33 [] (f10P 4) ⟨81,[(0,v0),(3,v3),(4,(i64 n4))],[]⟩ st []=some (.normal,81,[v0,v3,(i64 n4),(i64 0)],st,[]):=by kernel_rfl
theorem f10_4{v0 v3:AV}{n4:Int}{st:St}{T:Tm}(hT:f10L2 T v0 v3 (i64 n4)):AW Tryz.prog (f10P 4) (fun ex T' st'=>ex= .normal∧f10L4 T' v0 v3 (i64 n4) (i64 0)∧st'=st) T st:=by
 obtain ⟨hn,g0,g3,g4⟩:=hT
 exact genR (f10_4_e v0 v3 n4 st) Ob.ok_nil hn (conz g0 (conz g3 (one g4))) fun T' q2 q3=>by simp only [gA33,List.cons.injEq,and_true] at q3;exact ⟨rfl,⟨q2,q3⟩,rfl⟩
def f10L5(T:Tm)(a0 a3 a4 a5 a6:AV):Prop:=T.n=81∧T.get 0=a0∧T.get 3=a3∧T.get 4=a4∧T.get 5=a5∧T.get 6=a6
abbrev gA34(T:Tm):List AV:= [T.get 0,T.get 3,T.get 4,T.get 5,T.get 6]
theorem f10_5_e(v0 v3:AV)(n4 n5:Int)(st:St):evR gA34 [] (f10P 5) ⟨81,[(0,v0),(3,v3),(4,(i64 n4)),(5,(i64 n5))],[]⟩ st []=some (.normal,81,[v0,v3,(i64 n4),(i64 n5),(i64 0)],st,[]):=by kernel_rfl
theorem f10_5{v0 v3:AV}{n4 n5:Int}{st:St}{T:Tm}(hT:f10L4 T v0 v3 (i64 n4) (i64 n5)):AW Tryz.prog (f10P 5) (fun ex T' st'=>ex= .normal∧f10L5 T' v0 v3 (i64 n4) (i64 n5) (i64 0)∧st'=st) T st:=by
 obtain ⟨hn,g0,g3,g4,g5⟩:=hT
 exact genR (f10_5_e v0 v3 n4 n5 st) Ob.ok_nil hn (conz g0 (conz g3 (conz g4 (one g5)))) fun T' q2 q3=>by simp only [gA34,List.cons.injEq,and_true] at q3;exact ⟨rfl,⟨q2,q3⟩,rfl⟩
abbrev sL18:List Nat:= [2026,2027,7016,7018,7020,7024,7025,7028]
theorem f10_6_T_e(v0 v3 q25:AV)(n4 n5 n6 n20 n24 n26 n27 n28 n18:Int)(st:St):evR gA34 sL18 (f10P 6) ⟨81,[(0,v0),(3,v3),(4,(i64 n4)),(5,(i64 n5)),(6,(i64 n6))],[]⟩ st [.av TT,.av (i64 n20),.av (i64 n24),.av q25,.eff (u8 n26) id,.eff (i64 n27) id,.av (i64 n28),.av (i64 n18)]=some (.normal,81,[v0,v3,(i64 n4),(i64 n28),(i64 n18)],st,[Bt 3 .lss n6 4 TT,Bt 3 .mul 256 n5 (i64 n20),Bt 3 .add n4 n6 (i64 n24),indexAddrA E0 22 v0 (i64 n24)=some q25,loadA E0 st 5 q25=some (u8 n26)∧st=st,convO E0 st 5 3 (u8 n26)=some ((i64 n27),st),Bt 3 .add n20 n27 (i64 n28),Bt 3 .add n6 1 (i64 n18)]):=by kernel_rfl
theorem f10_6_T{v0 v3 q25:AV}{n4 n5 n6 n20 n24 n26 n27 n28 n18:Int}{st:St}(h1:Bt 3 .lss n6 4 TT)(h2:Bt 3 .mul 256 n5 (i64 n20))(h3:Bt 3 .add n4 n6 (i64 n24))(h4:indexAddrA E0 22 v0 (i64 n24)=some q25)(h5:loadA E0 st 5 q25=some (u8 n26))(h6:convO E0 st 5 3 (u8 n26)=some ((i64 n27),st))(h7:Bt 3 .add n20 n27 (i64 n28))(h8:Bt 3 .add n6 1 (i64 n18)){T:Tm}(hT:f10L5 T v0 v3 (i64 n4) (i64 n5) (i64 n6)):AW Tryz.prog (f10P 6) (fun ex T' st'=>ex= .normal∧f10L5 T' v0 v3 (i64 n4) (i64 n28) (i64 n18)∧st'=st) T st:=by
 obtain ⟨hn,g0,g3,g4,g5,g6⟩:=hT
 exact genR (f10_6_T_e v0 v3 q25 n4 n5 n6 n20 n24 n26 n27 n28 n18 st) (kk h1 (kk h2 (kk h3 (kk h4 (kk ⟨h5,rfl⟩ (kk h6 (kk h7 (kk h8 Ob.ok_nil)))))))) hn (conz g0 (conz g3 (conz g4 (conz g5 (one g6))))) fun T' q2 q3=>by simp only [gA34,List.cons.injEq,and_true] at q3;exact ⟨rfl,⟨q2,q3⟩,rfl⟩
theorem f10_6_F_e(v0 v3:AV)(n4 n5 n6:Int)(st:St):evR gA33 sL18 (f10P 6) ⟨81,[(0,v0),(3,v3),(4,(i64 n4)),(5,(i64 n5)),(6,(i64 n6))],[]⟩ st [.av FF]=some ((.exit 2),81,[v0,v3,(i64 n4),(i64 n5)],st,[Bt 3 .lss n6 4 FF]):=by kernel_rfl
theorem f10_6_F{v0 v3:AV}{n4 n5 n6:Int}{st:St}(h1:Bt 3 .lss n6 4 FF){T:Tm}(hT:f10L5 T v0 v3 (i64 n4) (i64 n5) (i64 n6)):AW Tryz.prog (f10P 6) (fun ex T' st'=>ex=(.exit 2)∧f10L4 T' v0 v3 (i64 n4) (i64 n5)∧st'=st) T st:=by
 obtain ⟨hn,g0,g3,g4,g5,g6⟩:=hT
 exact genR (f10_6_F_e v0 v3 n4 n5 n6 st) (kk h1 Ob.ok_nil) hn (conz g0 (conz g3 (conz g4 (conz g5 (one g6))))) fun T' q2 q3=>by simp only [gA33,List.cons.injEq,and_true] at q3;exact ⟨rfl,⟨q2,q3⟩,rfl⟩
def f10L6(T:Tm)(a2:AV):Prop:=T.n=81∧T.get 2=a2
abbrev sL19:List Nat:= [2054,2061,2069,2074,2075,6008,7030,7033,7038,7040,7041,7042,7048,7050,7052,7053,7065,7067,7068,7070,7078,7079,8514]
theorem f10_7_T_e(v0 v3:AV)(n4 n5:Int)(st:St):evR gA4 sL19 (f10P 7) ⟨81,[(0,v0),(3,v3),(4,(i64 n4)),(5,(i64 n5))],[]⟩ st [.av TT]=some (.ret,81,[v3],st,[Bt 3 .lss n5 1 TT]):=by kernel_rfl
theorem f10_7_T{v0 v3:AV}{n4 n5:Int}{st:St}(h1:Bt 3 .lss n5 1 TT){T:Tm}(hT:f10L4 T v0 v3 (i64 n4) (i64 n5)):AW Tryz.prog (f10P 7) (fun ex T' st'=>ex= .ret∧f10L6 T' v3∧st'=st) T st:=by
 obtain ⟨hn,g0,g3,g4,g5⟩:=hT
 exact genR (f10_7_T_e v0 v3 n4 n5 st) (kk h1 Ob.ok_nil) hn (conz g0 (conz g3 (conz g4 (one g5)))) fun T' q2 q3=>by simp only [gA4,List.cons.injEq,and_true] at q3;exact ⟨rfl,⟨q2,q3⟩,rfl⟩
theorem f10_7_FT_e(v0 v3:AV)(n4 n5:Int)(st:St):evR gA4 sL19 (f10P 7) ⟨81,[(0,v0),(3,v3),(4,(i64 n4)),(5,(i64 n5))],[]⟩ st [.av FF,.av TT]=some (.ret,81,[v3],st,[Bt 3 .lss n5 1 FF,Bt 3 .gtr n5 4096 TT]):=by kernel_rfl
theorem f10_7_FT{v0 v3:AV}{n4 n5:Int}{st:St}(h1:Bt 3 .lss n5 1 FF)(h2:Bt 3 .gtr n5 4096 TT){T:Tm}(hT:f10L4 T v0 v3 (i64 n4) (i64 n5)):AW Tryz.prog (f10P 7) (fun ex T' st'=>ex= .ret∧f10L6 T' v3∧st'=st) T st:=by
 obtain ⟨hn,g0,g3,g4,g5⟩:=hT
 exact genR (f10_7_FT_e v0 v3 n4 n5 st) (kk h1 (kk h2 Ob.ok_nil)) hn (conz g0 (conz g3 (conz g4 (one g5)))) fun T' q2 q3=>by simp only [gA4,List.cons.injEq,and_true] at q3;exact ⟨rfl,⟨q2,q3⟩,rfl⟩
theorem f10_7_FFT_e(v0 v3:AV)(n4 n5 n38 n40 n41:Int)(st:St):evR gA4 sL19 (f10P 7) ⟨81,[(0,v0),(3,v3),(4,(i64 n4)),(5,(i64 n5))],[]⟩ st [.av FF,.av FF,.av (i64 n38),.av (i64 n40),.av (i64 n41),.av TT]=some (.ret,81,[v3],st,[Bt 3 .lss n5 1 FF,Bt 3 .gtr n5 4096 FF,lenA E0 22 v0=some (i64 n38),Bt 3 .sub n38 n4 (i64 n40),Bt 3 .sub n40 8 (i64 n41),Bt 3 .gtr n5 n41 TT]):=by kernel_rfl
theorem f10_7_FFT{v0 v3:AV}{n4 n5 n38 n40 n41:Int}{st:St}(h1:Bt 3 .lss n5 1 FF)(h2:Bt 3 .gtr n5 4096 FF)(h3:lenA E0 22 v0=some (i64 n38))(h4:Bt 3 .sub n38 n4 (i64 n40))(h5:Bt 3 .sub n40 8 (i64 n41))(h6:Bt 3 .gtr n5 n41 TT){T:Tm}(hT:f10L4 T v0 v3 (i64 n4) (i64 n5)):AW Tryz.prog (f10P 7) (fun ex T' st'=>ex= .ret∧f10L6 T' v3∧st'=st) T st:=by
 obtain ⟨hn,g0,g3,g4,g5⟩:=hT
 exact genR (f10_7_FFT_e v0 v3 n4 n5 n38 n40 n41 st) (kk h1 (kk h2 (kk h3 (kk h4 (kk h5 (kk h6 Ob.ok_nil)))))) hn (conz g0 (conz g3 (conz g4 (one g5)))) fun T' q2 q3=>by simp only [gA4,List.cons.injEq,and_true] at q3;exact ⟨rfl,⟨q2,q3⟩,rfl⟩
theorem f10_7_FFFT_e(v0 v3 v53 v54 v57a v68:AV)(n4 n5 n38 n40 n41 n48 n50 n52 n57b n65 n67:Int)(st s1 s2:St)(w61 w69:ByteArray):evR gA4 sL19 (f10P 7) ⟨81,[(0,v0),(3,v3),(4,(i64 n4)),(5,(i64 n5))],[]⟩ st [.av FF,.av FF,.av (i64 n38),.av (i64 n40),.av (i64 n41),.av FF,.av (i64 n48),.av (i64 n50),.av (i64 n52),.av v53,.eff v54 (fun _=>s1),.eff (.tup [v57a,(i64 n57b)]) (fun _=>s2),.eff (str w61) id,.eff (i64 n65) id,.eff (i64 n67) id,.eff v68 id,.eff (str w69) id,.eff TT id]=some (.ret,81,[v3],s2,[Bt 3 .lss n5 1 FF,Bt 3 .gtr n5 4096 FF,lenA E0 22 v0=some (i64 n38),Bt 3 .sub n38 n4 (i64 n40),Bt 3 .sub n40 8 (i64 n41),Bt 3 .gtr n5 n41 FF,Bt 3 .add n4 8 (i64 n48),Bt 3 .add n4 8 (i64 n50),Bt 3 .add n50 n5 (i64 n52),sliceA E0 st 22 v0 (some (i64 n48)) (some (i64 n52)) none=some v53,appendA E0 st 22 22 .nils v53=some (v54,s1),obC 8 [v54] s1 (.tup [v57a,(i64 n57b)]) s2,bytesStrA E0 s2 22 9 v57a=some (str w61),Bt 3 .add n4 8 (i64 n65),Bt 3 .add n65 n5 (i64 n67),sliceA E0 s2 22 v0 (some (i64 n4)) (some (i64 n67)) none=some v68,bytesStrA E0 s2 22 9 v68=some (str w69),binA E0 .neq 9 (str w61) (str w69)=some TT]):=by kernel_rfl
theorem f10_7_FFFT{v0 v3 v53 v54 v57a v68:AV}{n4 n5 n38 n40 n41 n48 n50 n52 n57b n65 n67:Int}{st s1 s2:St}{w61 w69:ByteArray}(h1:Bt 3 .lss n5 1 FF)(h2:Bt 3 .gtr n5 4096 FF)(h3:lenA E0 22 v0=some (i64 n38))(h4:Bt 3 .sub n38 n4 (i64 n40))(h5:Bt 3 .sub n40 8 (i64 n41))(h6:Bt 3 .gtr n5 n41 FF)(h7:Bt 3 .add n4 8 (i64 n48))(h8:Bt 3 .add n4 8 (i64 n50))(h9:Bt 3 .add n50 n5 (i64 n52))(h10:sliceA E0 st 22 v0 (some (i64 n48)) (some (i64 n52)) none=some v53)(h11:appendA E0 st 22 22 .nils v53=some (v54,s1))(h12:obC 8 [v54] s1 (.tup [v57a,(i64 n57b)]) s2)(h13:bytesStrA E0 s2 22 9 v57a=some (str w61))(h14:Bt 3 .add n4 8 (i64 n65))(h15:Bt 3 .add n65 n5 (i64 n67))(h16:sliceA E0 s2 22 v0 (some (i64 n4)) (some (i64 n67)) none=some v68)(h17:bytesStrA E0 s2 22 9 v68=some (str w69))(h18:binA E0 .neq 9 (str w61) (str w69)=some TT){T:Tm}(hT:f10L4 T v0 v3 (i64 n4) (i64 n5)):AW Tryz.prog (f10P 7) (fun ex T' st'=>ex= .ret∧f10L6 T' v3∧st'=s2) T st:=by
 obtain ⟨hn,g0,g3,g4,g5⟩:=hT
 exact genR (f10_7_FFFT_e v0 v3 v53 v54 v57a v68 n4 n5 n38 n40 n41 n48 n50 n52 n57b n65 n67 st s1 s2 w61 w69) (kk h1 (kk h2 (kk h3 (kk h4 (kk h5 (kk h6 (kk h7 (kk h8 (kk h9 (kk h10 (kk h11 (kk h12 (kk h13 (kk h14 (kk h15 (kk h16 (kk h17 (kk h18 Ob.ok_nil)))))))))))))))))) hn (conz g0 (conz g3 (conz g4 (one g5)))) fun T' q2 q3=>by simp only [gA4,List.cons.injEq,and_true] at q3;exact ⟨rfl,⟨q2,q3⟩,rfl⟩
theorem f10_7_FFFF_e(v0 v3 v53 v54 v57a v68 v74 v75:AV)(n4 n5 n38 n40 n41 n48 n50 n52 n57b n65 n67 n78 n79:Int)(st s1 s2 s3 s4:St)(w61 w69:ByteArray):evR gA29 sL19 (f10P 7) ⟨81,[(0,v0),(3,v3),(4,(i64 n4)),(5,(i64 n5))],[]⟩ st [.av FF,.av FF,.av (i64 n38),.av (i64 n40),.av (i64 n41),.av FF,.av (i64 n48),.av (i64 n50),.av (i64 n52),.av v53,.eff v54 (fun _=>s1),.eff (.tup [v57a,(i64 n57b)]) (fun _=>s2),.eff (str w61) id,.eff (i64 n65) id,.eff (i64 n67) id,.eff v68 id,.eff (str w69) id,.eff FF id,.eff v74 (fun _=>s3),.eff v75 (fun _=>s4),.av (i64 n78),.av (i64 n79)]=some (.normal,81,[v0,v75,(i64 n79)],s4,[Bt 3 .lss n5 1 FF,Bt 3 .gtr n5 4096 FF,lenA E0 22 v0=some (i64 n38),Bt 3 .sub n38 n4 (i64 n40),Bt 3 .sub n40 8 (i64 n41),Bt 3 .gtr n5 n41 FF,Bt 3 .add n4 8 (i64 n48),Bt 3 .add n4 8 (i64 n50),Bt 3 .add n50 n5 (i64 n52),sliceA E0 st 22 v0 (some (i64 n48)) (some (i64 n52)) none=some v53,appendA E0 st 22 22 .nils v53=some (v54,s1),obC 8 [v54] s1 (.tup [v57a,(i64 n57b)]) s2,bytesStrA E0 s2 22 9 v57a=some (str w61),Bt 3 .add n4 8 (i64 n65),Bt 3 .add n65 n5 (i64 n67),sliceA E0 s2 22 v0 (some (i64 n4)) (some (i64 n67)) none=some v68,bytesStrA E0 s2 22 9 v68=some (str w69),binA E0 .neq 9 (str w61) (str w69)=some FF,buildSliceA E0 s2 32 1 [(0,v54)]=some (v74,s3),appendA E0 s3 32 32 v3 v74=some (v75,s4),Bt 3 .add 8 n5 (i64 n78),Bt 3 .add n4 n78 (i64 n79)]):=by kernel_rfl
theorem f10_7_FFFF{v0 v3 v53 v54 v57a v68 v74 v75:AV}{n4 n5 n38 n40 n41 n48 n50 n52 n57b n65 n67 n78 n79:Int}{st s1 s2 s3 s4:St}{w61 w69:ByteArray}(h1:Bt 3 .lss n5 1 FF)(h2:Bt 3 .gtr n5 4096 FF)(h3:lenA E0 22 v0=some (i64 n38))(h4:Bt 3 .sub n38 n4 (i64 n40))(h5:Bt 3 .sub n40 8 (i64 n41))(h6:Bt 3 .gtr n5 n41 FF)(h7:Bt 3 .add n4 8 (i64 n48))(h8:Bt 3 .add n4 8 (i64 n50))(h9:Bt 3 .add n50 n5 (i64 n52))(h10:sliceA E0 st 22 v0 (some (i64 n48)) (some (i64 n52)) none=some v53)(h11:appendA E0 st 22 22 .nils v53=some (v54,s1))(h12:obC 8 [v54] s1 (.tup [v57a,(i64 n57b)]) s2)(h13:bytesStrA E0 s2 22 9 v57a=some (str w61))(h14:Bt 3 .add n4 8 (i64 n65))(h15:Bt 3 .add n65 n5 (i64 n67))(h16:sliceA E0 s2 22 v0 (some (i64 n4)) (some (i64 n67)) none=some v68)(h17:bytesStrA E0 s2 22 9 v68=some (str w69))(h18:binA E0 .neq 9 (str w61) (str w69)=some FF)(h19:buildSliceA E0 s2 32 1 [(0,v54)]=some (v74,s3))(h20:appendA E0 s3 32 32 v3 v74=some (v75,s4))(h21:Bt 3 .add 8 n5 (i64 n78))(h22:Bt 3 .add n4 n78 (i64 n79)){T:Tm}(hT:f10L4 T v0 v3 (i64 n4) (i64 n5)):AW Tryz.prog (f10P 7) (fun ex T' st'=>ex= .normal∧f10L2 T' v0 v75 (i64 n79)∧st'=s4) T st:=by
 obtain ⟨hn,g0,g3,g4,g5⟩:=hT
 exact genR (f10_7_FFFF_e v0 v3 v53 v54 v57a v68 v74 v75 n4 n5 n38 n40 n41 n48 n50 n52 n57b n65 n67 n78 n79 st s1 s2 s3 s4 w61 w69) (kk h1 (kk h2 (kk h3 (kk h4 (kk h5 (kk h6 (kk h7 (kk h8 (kk h9 (kk h10 (kk h11 (kk h12 (kk h13 (kk h14 (kk h15 (kk h16 (kk h17 (kk h18 (kk h19 (kk h20 (kk h21 (kk h22 Ob.ok_nil)))))))))))))))))))))) hn (conz g0 (conz g3 (conz g4 (one g5)))) fun T' q2 q3=>by simp only [gA29,List.cons.injEq,and_true] at q3;exact ⟨rfl,⟨q2,q3⟩,rfl⟩
theorem f10_8_e(v3:AV)(st:St):evR gA4 [] (f10P 8) ⟨81,[(3,v3)],[]⟩ st []=some (.ret,81,[v3],st,[]):=by kernel_rfl
theorem f10_8{v3:AV}{st:St}{T:Tm}(hT:f10L3 T v3):AW Tryz.prog (f10P 8) (fun ex T' st'=>ex= .ret∧f10L6 T' v3∧st'=st) T st:=by
 obtain ⟨hn,g3⟩:=hT
 exact genR (f10_8_e v3 st) Ob.ok_nil hn (one g3) fun T' q2 q3=>by simp only [gA4,List.cons.injEq,and_true] at q3;exact ⟨rfl,⟨q2,q3⟩,rfl⟩
end
section
set_option maxRecDepth 8000
def zerosB(c:Nat):List UInt8:=List.replicate c 48
theorem rep_all:∀c:Fin 8,cloEv 39 [str ⟨#[48]⟩,i64 (c.val:Nat)]=some (str ⟨(zerosB c.val).toArray⟩,[],[])
 |0=>by kernel_rfl
 |1=>by kernel_rfl
 |2=>by kernel_rfl
 |3=>by kernel_rfl
 |4=>by kernel_rfl
 |5=>by kernel_rfl
 |6=>by kernel_rfl
 |7=>by kernel_rfl
theorem rep_ok{c:Nat}(h:c<8){st:St}(hw:st.wf):∃st',obC 39 [str ⟨#[48]⟩,i64 c] st (str ⟨(zerosB c).toArray⟩) st'∧Rest st st' []:=
 closed_val (rep_all ⟨c,h⟩) (fun _=>rfl) (fun _=>rfl) hw
def dig8(n:Nat):List UInt8:=(List.range 8).map fun t=>Lib.dg n (7- t)
def nmL(n:Nat):List UInt8:= [119,97,108,45]++dig8 n
def nmG(n:Nat):ByteArray:=⟨(nmL n).toArray⟩
theorem nDigits8{n:Nat}(h:n<100000000):Lib.nDigits n≤8:=by
 by_cases h8:Lib.nDigits n≤8
 ·exact h8
 ·exfalso
  have hp:∀k u:Nat,k+1≤Lib.nDigits u→1≤k→10^k≤u:=fun k=>by
   induction k with
   |zero=>intro u _ h;omega
   |succ k ih=>
    intro u hu _
    have h10:¬u<10:=fun h'=>by rw [Lib.nDigits_small h'] at hu;omega
    rw [Lib.nDigits_big h10] at hu
    by_cases hk:1≤k
    ·have:=ih (u/10) (by omega) hk
     rw [Nat.pow_succ];omega
    ·obtain rfl:k=0:=by omega
     omega
  have:=hp 8 n (by omega) (by omega)
  omega
theorem dg_zero{n j:Nat}(h:n<10^j):Lib.dg n j=48:=by
 unfold Lib.dg
 rw [Nat.div_eq_of_lt h]
 rfl
theorem pad_digits{n:Nat}(h:n<100000000):zerosB (8- (Lib.decDigits n).length)++Lib.decDigits n=dig8 n:=by
 have h8:=nDigits8 h
 have hp:=Lib.nDigits_pos n
 rw [Lib.decDigits_length]
 apply List.ext_getElem?
 intro i
 unfold zerosB dig8
 by_cases hi:i<8
 ·rw [List.getElem?_map,List.getElem?_range hi]
  by_cases h1:i<8- Lib.nDigits n
  ·rw [List.getElem?_append_left (by simpa using h1),List.getElem?_replicate,if_pos h1]
   simp only [Option.map_some]
   rw [dg_zero (Nat.lt_of_lt_of_le (Lib.lt_pow_nDigits n) (Nat.pow_le_pow_right (by decide) (by omega)))]
  ·rw [List.getElem?_append_right (by simpa using Nat.le_of_not_lt h1),List.length_replicate,Lib.decDigits_eq,List.getElem?_map,List.getElem?_range (by omega)]
   simp only [Option.map_some]
   congr 2
   omega
 ·rw [List.getElem?_eq_none (by simp [Lib.decDigits_length];omega),List.getElem?_eq_none (by simp;omega)]
theorem addS{a b:ByteArray}{E:Env}{t:Nat}(h:a.size+b.size≤1000000000):binA E .add t (str a) (str b)=some (str (a++b)):=by
 show pureVal (Op.stringOp .add a b)=_
 have hm:IntKind.i64.max=9223372036854775807:=rfl
 unfold Op.stringOp
 simp only []
 rw [if_neg (by rw [hm];omega)]
 rfl
theorem lenStr(s:ByteArray):lenA E0 9 (str s)=some (i64 s.size):=by kernel_rfl
theorem ba_app(a b:List UInt8):(⟨a.toArray⟩:ByteArray)++⟨b.toArray⟩=⟨(a++b).toArray⟩:=by
 apply ByteArray.ext
 rw [ByteArray.data_append]
 simp
theorem itoa_nat(n:Nat):Lib.itoa (n:Int)=Lib.decDigits n:=by unfold Lib.itoa;rw [if_neg (by omega)];simp
theorem nameP_ok{st:St}(hw:st.wf)(hgl:st.gl=(stTab tabsD).gl){n:Nat}(h1:1≤n)(h2:n≤99999999):∃st',obC 5 [i64 n] st (.tup [str (nmG n),i64 0]) st'∧Rest st st' []:=by
 have hit:=itoa_ok (st:=st) hgl (n:=n) (by omega) (by omega)
 rw [itoa_nat] at hit
 have hlen:(Lib.decDigits n).length≤8:=by rw [Lib.decDigits_length];exact nDigits8 (by omega)
 have hpos:1≤(Lib.decDigits n).length:=by rw [Lib.decDigits_length];exact Lib.nDigits_pos n
 obtain ⟨st',r1,r2⟩:=rep_ok (c:=8- (Lib.decDigits n).length) (by omega) hw
 have hl:lenA E0 9 (str ⟨(Lib.decDigits n).toArray⟩)=some (i64 (Lib.decDigits n).length):=by
  rw [lenStr]
  show some (i64 ((Lib.decDigits n).toArray.size:Nat))=_
  rw [List.size_toArray]
 have hs:binA E0 .sub 3 (i64 8) (i64 (Lib.decDigits n).length)=some (i64 ((8- (Lib.decDigits n).length:Nat):Int)):=by
  rw [show ((8- (Lib.decDigits n).length:Nat):Int)=8- ((Lib.decDigits n).length:Int) by omega]
  exact sub64 (by omega)
 refine ⟨st',?_,r2⟩
 have z1:∀l:List UInt8,(⟨l.toArray⟩:ByteArray).size=l.length:=fun l=>by show l.toArray.size=_;rw [List.size_toArray]
 have z2:(zerosB (8- (Lib.decDigits n).length)).length≤8:=by unfold zerosB;rw [List.length_replicate];omega
 have z3:(⟨#[119,97,108,45]⟩:ByteArray).size=4:=rfl
 have:=f5_FF (lssF (by omega)) (gtrF (by omega)) hit hl hs r1 (addS (by rw [z3,z1];omega)) (addS (by rw [ByteArray.size_append,z3,z1,z1];omega))
 have e:(⟨#[119,97,108,45]⟩:ByteArray)++⟨(zerosB (8- (Lib.decDigits n).length)).toArray⟩++⟨(Lib.decDigits n).toArray⟩=nmG n:=by
  have e1:(⟨#[119,97,108,45]⟩:ByteArray)=⟨([119,97,108,45]:List UInt8).toArray⟩:=rfl
  rw [e1,ba_app,ba_app,List.append_assoc,pad_digits (by omega)]
  rfl
 rw [e] at this
 exact this
theorem nameP_bad{st:St}{n:Int}(h:n<1∨99999999<n):obC 5 [i64 n] st (.tup [str ⟨#[]⟩,i64 1]) st:=by
 by_cases h1:n<1
 ·exact f5_T (lssT h1)
 ·exact f5_FT (lssF h1) (gtrT (by omega))
def rowK(n k:Nat):List Int:=List.replicate (8- k) 0++(List.range k).map fun t=>((Lib.dg n (k- 1- t)).toNat:Int)
theorem rowK_len(n:Nat){k:Nat}(h:k≤8):(rowK n k).length=8:=by unfold rowK;simp;omega
theorem rowK_succ(n:Nat){k:Nat}(h:k<8):(rowK n k).set (7- k) ((Lib.dg n k).toNat:Int)=rowK n (k+1):=by
 unfold rowK
 rw [show 8- k=(7- k)+1 by omega,List.replicate_succ']
 have hlr:(List.replicate (7- k) (0:Int)).length=7- k:=List.length_replicate ..
 rw [List.append_assoc,List.set_append_right _ _ (by rw [hlr];exact Nat.le_refl _),hlr,Nat.sub_self,show 8- (k+1)=7- k by omega]
 congr 1
 simp only [List.cons_append,List.nil_append,List.set_cons_zero]
 rw [List.range_succ_eq_map,List.map_cons]
 congr 1
 rw [List.map_map]
 refine List.map_congr_left fun t _=> ?_
 simp only [Function.comp,Nat.succ_eq_add_one]
 congr 3
 omega
theorem make8(st:St):makeSliceA E0 st 22 (i64 8) (i64 8)=some (.sl st.next 1 0 8 true,st.push (.row ((List.replicate 8 (0:Int)).map u8) 5)):=by kernel_rfl
theorem rem10(x:Nat):binA E0 .rem 3 (i64 x) (i64 10)=some (i64 ((x%10:Nat):Int)):=by
 have e:binOp .rem 3 (.int .i64 x) (.int .i64 10)= .pure (.int .i64 ((x%10:Nat):Int)):=by
  show Op.intDiv .rem .i64 x 10=_
  unfold Op.intDiv
  rw [if_neg (by omega)]
  have:((x:Int)).tmod 10=((x%10:Nat):Int):=by rw [Int.tmod_eq_emod_of_nonneg (by omega)];omega
  simp only [this]
  rfl
 show pureVal (binOp .rem 3 (.int .i64 x) (.int .i64 10))=_
 rw [e];rfl
theorem quo10(x:Nat)(h:x≤1000000000):binA E0 .quo 3 (i64 x) (i64 10)=some (i64 ((x/10:Nat):Int)):=by
 have e:binOp .quo 3 (.int .i64 x) (.int .i64 10)= .pure (.int .i64 ((x/10:Nat):Int)):=by
  show Op.intDiv .quo .i64 x 10=_
  unfold Op.intDiv
  rw [if_neg (by omega)]
  have:((x:Int)).tdiv 10=((x/10:Nat):Int):=by rw [Int.tdiv_eq_ediv_of_nonneg (by omega)];omega
  simp only [this]
  rw [IntWalk.i64_in _ (by omega)]
  rfl
 show pureVal (binOp .quo 3 (.int .i64 x) (.int .i64 10))=_
 rw [e];rfl
theorem conv35(st:St)(k:Int):convO E0 st 3 5 (i64 k)=some (u8 (IntKind.u8.wrap k),st):=by kernel_rfl
theorem store_u8{st:St}{o k:Nat}{l:List Int}(hg:st.get o=some (.row (l.map u8) 5))(hl:st.lock= [])(hk:k<l.length)(x:Int):storeA E0 st 5 (.ptr o k) (u8 x)=some (st.set o (.row ((l.set k x).map u8) 5)):=by
 have hwg:=St.wget_of hg (show o∉st.lock by rw [hl];simp)
 have hsz:tySize E0 5=some 1:=by kernel_rfl
 have hcs:avCells (u8 x)=some [u8 x]:=rfl
 simp only [storeA,hcs,hwg,hsz]
 rw [if_pos ⟨rfl,by simp;omega⟩]
 congr 2
 simp only [List.length_cons,List.length_nil,Nat.zero_add,List.map_set]
 rw [List.set_eq_take_append_cons_drop,if_pos (by simp;omega)]
 simp
theorem slB:SlT 22 5 1:=⟨⟨_,rfl,by kernel_rfl⟩,by kernel_rfl⟩
theorem idx22{f len i:Nat}{fl:Bool}(h:i<len):indexAddrA E0 22 (.sl f 1 0 len fl) (i64 i)=some (.ptr f i):=by
 have:=idxS slB (f:=f) (off:=0) (len:=len) (fl:=fl) h
 rw [Nat.zero_add,Nat.mul_one] at this
 exact this
end
section
set_option maxRecDepth 4000
theorem numsA_u8:∀bs:List Int,numsA (bs.map u8)=some bs
 | []=>rfl
 |b::r=>by simp only [List.map_cons,numsA,numsA_u8 r,Option.map_some]
theorem conv_bytes{st:St}{v:AV}{bs:List Int}(h:sliceCells st v=some (bs.length,bs.map u8)):convO E0 st 22 9 v=some (str (strOfNums bs),st):=by
 have hb:bytesStrA E0 st 22 9 v=some (str (strOfNums bs)):=by
  obtain ⟨i,j,k,h1,h2,h3,h4,h5,h6⟩:∃i j k,E0.ty 22=some i∧E0.ty 9=some j∧E0.ty 5=some k∧i.desc= .slice 5∧j.desc= .string∧k.desc= .int .u8:=⟨_,_,_,rfl,rfl,rfl,by kernel_rfl,by kernel_rfl,by kernel_rfl⟩
  simp only [bytesStrA,h,h1,h2,h4,h5,h3,h6,numsA_u8,if_true]
 have hc:convA E0 st 22 9 v=some (str (strOfNums bs),st):=by unfold convA;rw [hb]
 unfold convO
 cases v<;>first|exact hc|(exfalso;revert h;simp [sliceCells])
theorem equal_ok{st:St}{v w:AV}{bs:List Int}(h1:sliceCells st v=some (bs.length,bs.map u8))(h2:sliceCells st w=some (bs.length,bs.map u8)):obC 11 [v,w] st TT st:=
 f11_T (conv_bytes h1) (conv_bytes h2) (eqST rfl)
theorem Rest.fresh{st s1 s2:St}(h:Rest st s1 []){S:List Nat}(h2:Rest s1 s2 S)(hS:∀i∈S,st.next≤i)(hw:st.wf):Rest st s2 []:=
 ⟨fun i o hi ho=>h2.keep i o (fun hm=>by have:=hS i hm;have:=hw _ _ ho;omega) (h.keep i o hi ho),Nat.le_trans h.next h2.next,h2.lock.trans h.lock,h2.gl.trans h.gl,h2.wf⟩
end
section
set_option maxRecDepth 8000
theorem dg_int(n i:Nat):((Lib.dg n i).toNat:Int)=48+((n/10^i%10:Nat):Int):=by
 unfold Lib.dg
 have:(UInt8.ofNat (48+n/10^i%10)).toNat=48+n/10^i%10:=by
  show (48+n/10^i%10)%256=_
  omega
 rw [this];omega
theorem strOf_u8(l:List UInt8):strOfNums (l.map fun b=>(b.toNat:Int))=⟨l.toArray⟩:=by
 have hb:∀b:UInt8,UInt8.ofNat ((b.toNat:Int).toNat)=b:=fun b=>by rw [Int.toNat_natCast];exact UInt8.ofNat_toNat
 have hl:∀l:List UInt8,(l.map fun b=>(b.toNat:Int)).map (fun n=>UInt8.ofNat n.toNat)=l:=fun l=>by
  induction l with
  |nil=>rfl
  |cons a l ih=>rw [List.map_cons,List.map_cons,ih,hb]
 unfold strOfNums
 apply ByteArray.ext
 show ((l.map fun b=>(b.toNat:Int)).map (fun n=>UInt8.ofNat n.toNat)).toArray=l.toArray
 rw [hl]
theorem rowK8(n:Nat):rowK n 8=(dig8 n).map fun b=>(b.toNat:Int):=by
 unfold rowK dig8
 rw [List.map_map]
 rfl
theorem nameR_ok{st:St}(hw:st.wf)(hl:st.lock= []){n:Nat}(h1:1≤n)(h2:n≤99999999):∃st',obC 6 [i64 n] st (.tup [str (nmG n),i64 0]) st'∧Rest st st' []:=by
 have R0:Rest st (st.push (.row ((List.replicate 8 (0:Int)).map u8) 5)) []:=Rest.push hw _ _
 let Inv:Nat→St→Prop:=fun i σ=>σ.get st.next=some (.row ((rowK n i).map u8) 5)∧Rest st σ []
 obtain ⟨c,c0,inv,step⟩:=chain_seq Inv (fun i σ σ'=>∀T,f6L3 T (i64 ((n/10^i:Nat):Int)) (.sl st.next 1 0 8 true) (i64 (7- (i:Nat):Int))→AW Tryz.prog (f6P 4) (fun ex T' z=>ex= .normal∧f6L3 T' (i64 ((n/10^(i+1):Nat):Int)) (.sl st.next 1 0 8 true) (i64 (7- ((i+1:Nat):Int)))∧z=σ') T σ) 8 _ ⟨by rw [St.get_push,if_pos rfl];rfl,R0⟩ (fun i σ hi ⟨hg,hR⟩=>by
  have hnn:n/10^i≤1000000000:=Nat.le_trans (Nat.div_le_self _ _) (by omega)
  have hst:=store_u8 (k:=7- i) hg (hR.lock.trans hl) (by rw [rowK_len n (by omega)];omega) ((Lib.dg n i).toNat:Int)
  rw [rowK_succ n hi] at hst
  refine ⟨_,⟨by rw [St.get_set,if_pos rfl],hR.fresh (Rest.set (S:= [st.next]) hR.wf (hR.wf _ _ hg) _ (by simp)) (by simp) hw⟩,fun T hT=> ?_⟩
  have hq:n/10^(i+1)=n/10^i/10:=by rw [Nat.pow_succ,Nat.div_div_eq_div_mul]
  rw [hq,show (7- ((i+1:Nat):Int))=(7- (i:Int))- 1 by omega]
  have hidx:indexAddrA E0 22 (.sl st.next 1 0 8 true) (i64 (7- (i:Nat):Int))=some (.ptr st.next (7- i)):=by
   rw [show (7- (i:Nat):Int)=((7- i:Nat):Int) by omega]
   exact idx22 (by omega)
  have hadd:binA E0 .add 3 (i64 48) (i64 ((n/10^i%10:Nat):Int))=some (i64 ((Lib.dg n i).toNat:Int)):=by rw [dg_int];exact add64 (by omega)
  have hcv:convO E0 σ 3 5 (i64 ((Lib.dg n i).toNat:Int))=some (u8 ((Lib.dg n i).toNat:Int),σ):=by
   rw [conv35,IntWalk.u8_in _ (by rw [dg_int];omega)]
  exact f6_4_T (geqT (by omega)) (rem10 _) hadd hcv hidx hst (quo10 _ hnn) (sub64 (by omega)) hT)
 obtain ⟨g8,R8⟩:=inv 8 (Nat.le_refl _)
 have hcells:sliceCells (c 8) (.sl st.next 1 0 8 true)=some ((rowK n 8).length,(rowK n 8).map u8):=by
  simp only [sliceCells,g8]
  rw [if_pos (by rw [List.length_map,rowK_len n (by omega)];omega),rowK_len n (by omega),List.drop_zero,List.take_of_length_le (by rw [List.length_map,rowK_len n (by omega)];omega)]
 have hcv:=conv_bytes hcells
 rw [rowK8,strOf_u8] at hcv
 have e:(⟨#[119,97,108,45]⟩:ByteArray)++⟨(dig8 n).toArray⟩=nmG n:=by
  have e1:(⟨#[119,97,108,45]⟩:ByteArray)=⟨([119,97,108,45]:List UInt8).toArray⟩:=rfl
  rw [e1,ba_app];rfl
 refine ⟨c 8,?_,R8⟩
 refine ACalls.body (E:=E0) hE Tryz.func6 f6body ?_
 refine AW.andThen (f6_0 ⟨rfl,rfl⟩) fun T1 q1=> ?_
 refine AW.andThen (f6_1_FF (lssF (by omega)) (gtrF (by omega)) q1) fun T2 q2=> ?_
 refine AW.andThen (f6_2 (make8 st) q2) fun T3 q3=> ?_
 refine AW.andThen (AW.andThen (f6_3 q3) fun T4 q4=>AW.turns (In:=fun i T=>f6L3 T (i64 ((n/10^i:Nat):Int)) (.sl st.next 1 0 8 true) (i64 (7- (i:Nat):Int))) (L:=fun T=>f6L4 T (.sl st.next 1 0 8 true)) (c:=c) (n:=8) (sf:=c 8) (by rw [c0]) (by simpa using q4) (fun i hi T hT=>step i hi T hT) (fun T hT=>f6_4_F (geqF (by omega)) hT)) fun T5 q5=> ?_
 have z1:(⟨(dig8 n).toArray⟩:ByteArray).size=8:=by show (dig8 n).toArray.size=_;rw [List.size_toArray];simp [dig8]
 have z3:(⟨#[119,97,108,45]⟩:ByteArray).size=4:=rfl
 refine AW.atRet (f6_5 hcv (addS (by rw [z1,z3];omega)) q5) fun T6 q6=> ?_
 refine ⟨[T6.get 2,T6.get 3],rfl,?_⟩
 simp only [oneOrTup]
 rw [q6.2.1,q6.2.2,e]
 exact ⟨rfl,trivial⟩
theorem nameR_bad{st:St}{n:Int}(h:n<1∨99999999<n):obC 6 [i64 n] st (.tup [str ⟨#[]⟩,i64 1]) st:=by
 refine ACalls.body (E:=E0) hE Tryz.func6 f6body ?_
 refine AW.andThen (f6_0 ⟨rfl,rfl⟩) fun T1 q1=> ?_
 by_cases h1:n<1
 ·refine AW.retThen (f6_1_T (lssT h1) q1) fun T6 q6=> ?_
  refine ⟨[T6.get 2,T6.get 3],rfl,?_⟩
  simp only [oneOrTup]
  rw [q6.2.1,q6.2.2]
  exact ⟨rfl,trivial⟩
 ·refine AW.retThen (f6_1_FT (lssF h1) (gtrT (by omega)) q1) fun T6 q6=> ?_
  refine ⟨[T6.get 2,T6.get 3],rfl,?_⟩
  simp only [oneOrTup]
  rw [q6.2.1,q6.2.2]
  exact ⟨rfl,trivial⟩
end
section
set_option maxRecDepth 4000
def crcG(n:BitVec 32):BitVec 32:=(n>>>1)^^^(bif n.getLsbD 0 then 0xedb88320#32 else 0#32)
def topB(b:Bool):BitVec 32:=bif b then 0x80000000#32 else 0#32
def lowB(b:Bool):BitVec 32:=bif b then 1#32 else 0#32
theorem crcG_xor(a b:BitVec 32):crcG (a^^^b)=crcG a^^^crcG b:=by
 unfold crcG
 rw [BitVec.ushiftRight_xor_distrib,BitVec.getLsbD_xor]
 have lc:∀x y z:BitVec 32,x^^^(y^^^z)=y^^^(x^^^z):=fun x y z=>by rw [←BitVec.xor_assoc,BitVec.xor_comm x y,BitVec.xor_assoc]
 cases a.getLsbD 0<;>cases b.getLsbD 0
 ·simp
 ·simp [BitVec.xor_assoc]
 ·simp only [Bool.bne_false,cond_true,cond_false,BitVec.xor_zero]
  rw [BitVec.xor_assoc,BitVec.xor_assoc,BitVec.xor_comm (b>>>1)]
 ·simp only [bne_self_eq_false,cond_true,cond_false,BitVec.xor_zero]
  rw [BitVec.xor_assoc,lc (0xedb88320#32),BitVec.xor_self,BitVec.xor_zero]
theorem crcG_even{a:BitVec 32}(h:a.getLsbD 0=false):crcG a=a>>>1:=by
 unfold crcG;rw [h];simp
theorem topB_get(b:Bool)(j:Nat)(h:j<32):(topB b).getLsbD j=(b&&decide (j=31)):=by
 cases b
 ·simp [topB]
 ·simp only [topB,cond_true,Bool.true_and]
  have:∀j:Fin 32,(0x80000000#32).getLsbD j.val=decide (j.val=31):=by decide
  exact this ⟨j,h⟩
theorem lowB_get(b:Bool)(j:Nat)(h:j<32):(lowB b).getLsbD j=(b&&decide (j=0)):=by
 cases b
 ·simp [lowB]
 ·simp only [lowB,cond_true,Bool.true_and]
  have:∀j:Fin 32,(1#32).getLsbD j.val=decide (j.val=0):=by decide
  exact this ⟨j,h⟩
def shiftIn(f:Nat→Bool):Nat→BitVec 32
 |0=>0#32
 |i+1=>(shiftIn f i>>>1)^^^topB (f i)
theorem shiftIn_get(f:Nat→Bool):∀i,i≤32→∀j,j<32→(shiftIn f i).getLsbD j=(decide (32- i≤j)&&f (j- (32- i)))
 |0,_,j,hj=>by simp [shiftIn];omega
 |i+1,hi,j,hj=>by
  have ih:=shiftIn_get f i (by omega)
  simp only [shiftIn]
  rw [BitVec.getLsbD_xor,BitVec.getLsbD_ushiftRight,topB_get _ _ hj]
  by_cases h:j=31
  ·subst h
   rw [BitVec.getLsbD_of_ge _ _ (by omega),show 31- (32- (i+1))=i by omega]
   simp
  ·rw [ih (1+j) (by omega),show 1+j- (32- i)=j- (32- (i+1)) by omega]
   have:(32- i≤1+j)↔(32- (i+1)≤j):=by omega
   simp [h,this]
def wordAt(s:Nat→Bool)(k:Nat):BitVec 32:=shiftIn (fun j=>s (k+j)) 32
theorem wordAt_get(s:Nat→Bool)(k j:Nat)(h:j<32):(wordAt s k).getLsbD j=s (k+j):=by
 unfold wordAt
 rw [shiftIn_get _ 32 (by omega) j h]
 simp
theorem word_next(s:Nat→Bool)(k:Nat):((wordAt s k^^^lowB (s k))>>>1)^^^topB (s (k+32))=wordAt s (k+1):=by
 apply BitVec.eq_of_getLsbD_eq
 intro j hj
 rw [BitVec.getLsbD_xor,BitVec.getLsbD_ushiftRight,BitVec.getLsbD_xor,topB_get _ _ hj,wordAt_get _ _ _ hj]
 by_cases h:j=31
 ·subst h
  have e1:(wordAt s k).getLsbD (1+31)=false:=BitVec.getLsbD_of_ge _ _ (by omega)
  have e2:(lowB (s k)).getLsbD (1+31)=false:=BitVec.getLsbD_of_ge _ _ (by omega)
  rw [e1,e2,show k+1+31=k+32 by omega]
  simp
 ·rw [wordAt_get _ _ _ (by omega),lowB_get _ _ (by omega),show k+(1+j)=k+1+j by omega]
  have:¬(1+j=0):=by omega
  simp [h]
theorem word_even(s:Nat→Bool)(k:Nat):(wordAt s k^^^lowB (s k)).getLsbD 0=false:=by
 rw [BitVec.getLsbD_xor,wordAt_get _ _ _ (by omega),lowB_get _ _ (by omega)]
 simp
def regN(s:Nat→Bool)(n0:BitVec 32):Nat→BitVec 32
 |0=>n0
 |k+1=>crcG (regN s n0 k^^^lowB (s k))
def regQ(c:Nat→Bool):Nat→BitVec 32
 |0=>0#32
 |k+1=>crcG (regQ c k)^^^topB (c k)
theorem regQ_start(c:Nat→Bool):∀i,i≤32→∀j,j<32→(regQ c i).getLsbD j=(decide (32- i≤j)&&c (j- (32- i)))
 |0,_,j,hj=>by simp [regQ];omega
 |i+1,hi,j,hj=>by
  have ih:=regQ_start c i (by omega)
  have h0:(regQ c i).getLsbD 0=false:=by
   rw [ih 0 (by omega)]
   have:¬(32- i≤0):=by omega
   simp [this]
  simp only [regQ]
  rw [crcG_even h0,BitVec.getLsbD_xor,BitVec.getLsbD_ushiftRight,topB_get _ _ hj]
  by_cases h:j=31
  ·subst h
   rw [BitVec.getLsbD_of_ge _ _ (by omega),show 31- (32- (i+1))=i by omega]
   have:32- (i+1)≤31:=by omega
   simp
  ·rw [ih (1+j) (by omega),show 1+j- (32- i)=j- (32- (i+1)) by omega]
   have:(32- i≤1+j)↔(32- (i+1)≤j):=by omega
   simp [h,this]
theorem regQ_step(s c:Nat→Bool)(n0:BitVec 32)(hc:∀k,c (k+32)=s (k+32))(h0:regQ c 32=n0^^^wordAt s 0):∀k,regQ c (k+32)=regN s n0 k^^^wordAt s k
 |0=>by simpa [regN] using h0
 |k+1=>by
  have ih:=regQ_step s c n0 hc h0 k
  rw [show k+1+32=(k+32)+1 by omega]
  show crcG (regQ c (k+32))^^^topB (c (k+32))=crcG (regN s n0 k^^^lowB (s k))^^^wordAt s (k+1)
  rw [ih,hc]
  have e:regN s n0 k^^^wordAt s k=(regN s n0 k^^^lowB (s k))^^^(wordAt s k^^^lowB (s k)):=by
   rw [BitVec.xor_assoc,BitVec.xor_comm (wordAt s k),←BitVec.xor_assoc (lowB (s k)),BitVec.xor_self,BitVec.zero_xor]
  rw [e,crcG_xor,crcG_even (word_even s k),BitVec.xor_assoc,word_next]
theorem crc_agree(s c:Nat→Bool)(m:Nat)(hs:∀k,m≤k→s k=false)(hc:∀k,c k=(if k<32 then !(s k) else s k)):regQ c (m+32)=regN s 0xffffffff#32 m:=by
 have h0:regQ c 32=0xffffffff#32^^^wordAt s 0:=by
  apply BitVec.eq_of_getLsbD_eq
  intro j hj
  rw [regQ_start c 32 (by omega) j hj,BitVec.getLsbD_xor,wordAt_get _ _ _ hj]
  have:∀j:Fin 32,(0xffffffff#32).getLsbD j.val=true:=by decide
  rw [this ⟨j,hj⟩,hc]
  simp [hj]
 rw [regQ_step s c _ (fun k=>by rw [hc,if_neg (by omega)]) h0 m]
 have:wordAt s m=0#32:=by
  apply BitVec.eq_of_getLsbD_eq
  intro j hj
  rw [wordAt_get _ _ _ hj,hs _ (by omega)]
  simp
 rw [this,BitVec.xor_zero]
end
section
set_option maxRecDepth 4000
theorem xor32(a b:BitVec 32):valI (Op.intBits .xor .u32 (a.toNat:Int) (b.toNat:Int))=((a^^^b).toNat:Int):=by
 have:valI (Op.intBits .xor .u32 (a.toNat:Int) (b.toNat:Int))=IntKind.u32.wrap (((BitVec.ofInt 32 (a.toNat:Int))^^^(BitVec.ofInt 32 (b.toNat:Int))).toNat:Int):=rfl
 rw [this,BitVec.ofInt_natCast,BitVec.ofInt_natCast,BitVec.ofNat_toNat,BitVec.ofNat_toNat]
 simp only [BitVec.setWidth_eq]
 rw [IntWalk.u32_in]
 have:=(a^^^b).isLt
 omega
theorem and32(a b:BitVec 32):valI (Op.intBits .and .u32 (a.toNat:Int) (b.toNat:Int))=((a&&&b).toNat:Int):=by
 have:valI (Op.intBits .and .u32 (a.toNat:Int) (b.toNat:Int))=IntKind.u32.wrap (((BitVec.ofInt 32 (a.toNat:Int))&&&(BitVec.ofInt 32 (b.toNat:Int))).toNat:Int):=rfl
 rw [this,BitVec.ofInt_natCast,BitVec.ofInt_natCast,BitVec.ofNat_toNat,BitVec.ofNat_toNat]
 simp only [BitVec.setWidth_eq]
 rw [IntWalk.u32_in]
 have:=(a&&&b).isLt
 omega
theorem shr32(a:BitVec 32):valI (Op.shift .shr .u32 (a.toNat:Int) .u64 1)=((a>>>1).toNat:Int):=by
 have:valI (Op.shift .shr .u32 (a.toNat:Int) .u64 1)=(a.toNat:Int).fdiv (2^1):=rfl
 rw [this,Int.fdiv_eq_ediv_of_nonneg _ (by decide),BitVec.toNat_ushiftRight,Nat.shiftRight_eq_div_pow]
 rfl
theorem neg32(b:Bool):valI (Op.intArith .sub .u32 0 ((lowB b).toNat:Int))=(((bif b then 0xffffffff#32 else 0#32):BitVec 32).toNat:Int):=by
 cases b<;>rfl
theorem crcBit_eq(n:BitVec 32):crcBit (n.toNat:Int)=((crcG n).toNat:Int):=by
 have h1:valI (Op.intBits .and .u32 (n.toNat:Int) 1)=((lowB (n.getLsbD 0)).toNat:Int):=by
  have:=and32 n 1#32
  rw [show ((1#32).toNat:Int)=1 from rfl] at this
  rw [this]
  congr 2
  apply BitVec.eq_of_getLsbD_eq
  intro j hj
  rw [BitVec.getLsbD_and,lowB_get _ _ hj]
  have e:(1#32).getLsbD j=decide (j=0):=by simp
  rw [e]
  by_cases h:j=0
  ·subst h;simp
  ·simp [h]
 unfold crcBit
 rw [h1,neg32,shr32]
 have h2:=and32 (0xedb88320#32) (bif n.getLsbD 0 then 0xffffffff#32 else 0#32)
 rw [show ((0xedb88320#32).toNat:Int)=3988292384 from rfl] at h2
 rw [h2,xor32]
 congr 2
 unfold crcG
 cases n.getLsbD 0
 ·simp
 ·have:(0xedb88320#32&&&0xffffffff#32)=0xedb88320#32:=by decide
  simp [this]
def iterG:Nat→BitVec 32→BitVec 32
 |0,n=>n
 |k+1,n=>iterG k (crcG n)
theorem iter8_eq:∀(k:Nat) (n:BitVec 32),iter8 crcBit k (n.toNat:Int)=((iterG k n).toNat:Int)
 |0,_=>rfl
 |k+1,n=>by simp only [iter8,iterG];rw [crcBit_eq,iter8_eq k]
theorem iterG_succ:∀(k:Nat) (n:BitVec 32),iterG (k+1) n=crcG (iterG k n)
 |0,_=>rfl
 |k+1,n=>by rw [iterG,iterG_succ k (crcG n)];rfl
theorem iterG_bits(n x:BitVec 32):∀k,iterG k (n^^^x)=regN (fun i=>x.getLsbD i) n k^^^(x>>>k)
 |0=>by simp [iterG,regN]
 |k+1=>by
  rw [iterG_succ,iterG_bits n x k]
  show _=crcG (regN (fun i=>x.getLsbD i) n k^^^lowB (x.getLsbD k))^^^(x>>>(k+1))
  generalize regN (fun i=>x.getLsbD i) n k=r
  have e:r^^^(x>>>k)=(r^^^lowB (x.getLsbD k))^^^((x>>>k)^^^lowB (x.getLsbD k)):=by
   rw [BitVec.xor_assoc,BitVec.xor_comm (x>>>k),←BitVec.xor_assoc (lowB _),BitVec.xor_self,BitVec.zero_xor]
  have h0:((x>>>k)^^^lowB (x.getLsbD k)).getLsbD 0=false:=by
   rw [BitVec.getLsbD_xor,BitVec.getLsbD_ushiftRight,lowB_get _ _ (by omega)]
   simp
  rw [e,crcG_xor,crcG_even h0]
  congr 1
  apply BitVec.eq_of_getLsbD_eq
  intro j hj
  rw [BitVec.getLsbD_ushiftRight,BitVec.getLsbD_xor,BitVec.getLsbD_ushiftRight,BitVec.getLsbD_ushiftRight]
  have:(lowB (x.getLsbD k)).getLsbD (1+j)=false:=by
   by_cases h:1+j<32
   ·rw [lowB_get _ _ h]
    have:¬(1+j=0):=by omega
    simp
   ·exact BitVec.getLsbD_of_ge _ _ (by omega)
  rw [this,show k+(1+j)=k+1+j by omega]
  simp
theorem crcByte_eq(n:BitVec 32)(x:Nat)(hx:x<256):crcByte (n.toNat:Int) (x:Int)=((regN (fun i=>x.testBit i) n 8).toNat:Int):=by
 have hw:IntKind.u32.wrap (x:Int)=((BitVec.ofNat 32 x).toNat:Int):=by
  rw [IntWalk.u32_in _ (by omega),BitVec.toNat_ofNat,Nat.mod_eq_of_lt (by omega)]
 unfold crcByte
 rw [hw,xor32,iter8_eq,iterG_bits]
 have h8:BitVec.ofNat 32 x>>>8=0#32:=by
  apply BitVec.eq_of_toNat_eq
  rw [BitVec.toNat_ushiftRight,BitVec.toNat_ofNat,Nat.mod_eq_of_lt (by omega),Nat.shiftRight_eq_div_pow]
  simp
  omega
 rw [h8,BitVec.xor_zero]
 have:∀k,k≤8→regN (fun i=>(BitVec.ofNat 32 x).getLsbD i) n k=regN (fun i=>x.testBit i) n k:=by
  intro k
  induction k with
  |zero=>intro _;rfl
  |succ k ih=>
   intro hk
   show crcG (_^^^lowB ((BitVec.ofNat 32 x).getLsbD k))=crcG (_^^^lowB (x.testBit k))
   rw [ih (by omega),BitVec.getLsbD_ofNat]
   have:k<32:=by omega
   simp [this]
 rw [this 8 (by omega)]
def bitsOf(xs:List Nat)(i:Nat):Bool:=(xs.getD (i/8) 0).testBit (i%8)
theorem regN_add(s:Nat→Bool)(n:BitVec 32)(a:Nat):∀b,regN s n (a+b)=regN (fun i=>s (a+i)) (regN s n a) b
 |0=>rfl
 |b+1=>by
  show crcG (regN s n (a+b)^^^lowB (s (a+b)))=crcG (regN (fun i=>s (a+i)) (regN s n a) b^^^lowB (s (a+b)))
  rw [regN_add s n a b]
theorem regN_congr{s t:Nat→Bool}(n:BitVec 32):∀k,(∀i,i<k→s i=t i)→regN s n k=regN t n k
 |0,_=>rfl
 |k+1,h=>by
  show crcG (_^^^lowB (s k))=crcG (_^^^lowB (t k))
  rw [regN_congr n k fun i hi=>h i (by omega),h k (by omega)]
theorem fold_eq:∀(xs:List Nat) (n:BitVec 32),(∀x∈xs,x<256)→(xs.map Int.ofNat).foldl crcByte (n.toNat:Int)=((regN (bitsOf xs) n (8*xs.length)).toNat:Int)
 | [],n,_=>rfl
 |x::xs,n,h=>by
  have hx:=h x (List.mem_cons_self ..)
  rw [List.map_cons,List.foldl_cons,show Int.ofNat x=(x:Int) from rfl,crcByte_eq n x hx,fold_eq xs _ fun y hy=>h y (List.mem_cons_of_mem _ hy)]
  rw [List.length_cons,show 8*(xs.length+1)=8+8*xs.length by omega,regN_add]
  have e1:regN (bitsOf (x::xs)) n 8=regN (fun i=>x.testBit i) n 8:=regN_congr n 8 fun i hi=>by
   unfold bitsOf
   rw [show i/8=0 by omega,show i%8=i by omega]
   rfl
  have e2:(fun i=>bitsOf (x::xs) (8+i))=bitsOf xs:=by
   funext i
   unfold bitsOf
   rw [show (8+i)/8=i/8+1 by omega,show (8+i)%8=i%8 by omega]
   rfl
  rw [e1,e2]
theorem crcMore_bits(xs:List Nat)(h:∀x∈xs,x<256):crcMore 0 (xs.map Int.ofNat)=((0xffffffff#32^^^regN (bitsOf xs) 0xffffffff#32 (8*xs.length)).toNat:Int):=by
 have h0:valI (Op.intBits .xor .u32 IntKind.u32.max 0)=((0xffffffff#32).toNat:Int):=rfl
 have h1:IntKind.u32.max=((0xffffffff#32).toNat:Int):=rfl
 unfold crcMore
 rw [h0,fold_eq xs _ h,h1,xor32]
end
section
set_option maxRecDepth 4000
def refStep(r:Nat)(b:Bool):Nat:=if (2*r+b.toNat)>>>32=1 then (2*r+b.toNat)^^^0x104c11db7 else 2*r+b.toNat
def refReg(c:Nat→Bool):Nat→Nat
 |0=>0
 |k+1=>refStep (refReg c k) (c k)
def Turned(r:Nat)(q:BitVec 32):Prop:=r<2^32∧∀j,j<32→r.testBit j=q.getLsbD (31- j)
theorem poly_bits:∀j:Fin 32,(0x104c11db7).testBit j.val=(0xedb88320#32).getLsbD (31- j.val):=by decide
theorem turned_step{r:Nat}{q:BitVec 32}(h:Turned r q)(b:Bool):Turned (refStep r b) (crcG q^^^topB b):=by
 obtain ⟨h1,h2⟩:=h
 have hb:b.toNat<2:=by cases b<;>decide
 have t0:(2*r+b.toNat).testBit 0=b:=by cases b<;>simp [Nat.testBit_zero,Nat.add_mod]
 have ts:∀j,(2*r+b.toNat).testBit (j+1)=r.testBit j:=fun j=>by
  rw [Nat.testBit_succ,show (2*r+b.toNat)/2=r by omega]
 have hq0:q.getLsbD 0=r.testBit 31:=by rw [h2 31 (by omega)]
 have bits:∀j,j<32→(crcG q^^^topB b).getLsbD (31- j)=((2*r+b.toNat).testBit j^^(r.testBit 31&&(0x104c11db7).testBit j)):=fun j hj=>by
  rw [BitVec.getLsbD_xor,topB_get _ _ (by omega)]
  unfold crcG
  rw [BitVec.getLsbD_xor,BitVec.getLsbD_ushiftRight,hq0]
  have hp:=poly_bits ⟨j,hj⟩
  simp only at hp
  have e1:(bif r.testBit 31 then 0xedb88320#32 else 0#32).getLsbD (31- j)=(r.testBit 31&&(0x104c11db7).testBit j):=by
   rw [hp];cases r.testBit 31<;>simp
  rw [e1]
  cases j with
  |zero=>
   rw [t0,BitVec.getLsbD_of_ge _ _ (by omega)]
   simp [Bool.xor_comm]
  |succ j=>
   rw [ts,show 1+(31- (j+1))=31- j by omega,←h2 j (by omega)]
   have hne:decide (31- (j+1)=31)=false:=decide_eq_false (by omega)
   rw [hne,Bool.and_false,Bool.xor_false]
 have hlt:2*r+b.toNat<2^33:=by omega
 have h31:(2*r+b.toNat)>>>32=(r.testBit 31).toNat:=by
  rw [Nat.shiftRight_eq_div_pow,Nat.toNat_testBit]
  omega
 unfold refStep
 rw [h31]
 cases hr:r.testBit 31 with
 |false=>
  rw [if_neg (by decide)]
  refine ⟨?_,fun j hj=> ?_⟩
  ·have:(2*r+b.toNat)/2^32=0:=by
    have:=h31;rw [hr,Nat.shiftRight_eq_div_pow] at this;exact this
   omega
  ·rw [bits j hj,hr];simp
 |true=>
  rw [if_pos (by decide)]
  refine ⟨?_,fun j hj=> ?_⟩
  ·apply Nat.lt_pow_two_of_testBit
   intro i hi
   rw [Nat.testBit_xor]
   rcases Nat.eq_or_lt_of_le hi with e|hgt
   ·subst e
    rw [ts 31,hr];decide
   ·have e1:(2*r+b.toNat).testBit i=false:=Nat.testBit_lt_two_pow (Nat.lt_of_lt_of_le hlt (Nat.pow_le_pow_right (by omega) (by omega)))
    have e2:(0x104c11db7).testBit i=false:=Nat.testBit_lt_two_pow (Nat.lt_of_lt_of_le (by decide:0x104c11db7<2^33) (Nat.pow_le_pow_right (by omega) (by omega)))
    rw [e1,e2];rfl
  ·rw [bits j hj,hr,Nat.testBit_xor];simp
theorem turned(c:Nat→Bool):∀k,Turned (refReg c k) (regQ c k)
 |0=>⟨by simp [refReg],fun j hj=>by simp [refReg,regQ]⟩
 |k+1=>turned_step (turned c k) (c k)
def refOut(r:Nat):Nat→Nat
 |0=>0
 |k+1=>refOut r k+(if r.testBit k then 0 else 2^(31- k))
theorem refOut_bits(r:Nat):∀k,k≤32→∃h,refOut r k=h*2^(32- k)∧h<2^k∧∀j,j<k→h.testBit j= !(r.testBit (k- 1- j))
 |0,_=>⟨0,by simp [refOut],by decide,fun j hj=>by omega⟩
 |k+1,hk=>by
  obtain ⟨h,e,hl,hb⟩:=refOut_bits r k (by omega)
  refine ⟨2*h+(if r.testBit k then 0 else 1),?_,?_,fun j hj=> ?_⟩
  ·rw [refOut,e,show 32- k=(32- (k+1))+1 by omega,Nat.pow_succ,show 31- k=32- (k+1) by omega]
   cases r.testBit k<;>simp [Nat.add_mul,Nat.mul_comm,Nat.mul_assoc]
  ·rw [Nat.pow_succ];split<;>omega
  ·cases j with
   |zero=>
    rw [show k+1- 1- 0=k by omega]
    cases r.testBit k<;>simp [Nat.testBit_zero,Nat.add_mod]
   |succ j=>
    rw [Nat.testBit_succ,show (2*h+(if r.testBit k=true then 0 else 1))/2=h by split<;>omega,hb j (by omega),show k+1- 1- (j+1)=k- 1- j by omega]
theorem refOut_eq{r:Nat}{q:BitVec 32}(h:Turned r q):refOut r 32=(0xffffffff#32^^^q).toNat:=by
 obtain ⟨x,e,hl,hb⟩:=refOut_bits r 32 (by omega)
 rw [e,Nat.sub_self,Nat.pow_zero,Nat.mul_one]
 apply Nat.eq_of_testBit_eq
 intro j
 by_cases hj:j<32
 ·rw [hb j hj,h.2 _ (by omega),BitVec.testBit_toNat,BitVec.getLsbD_xor]
  have e1:(0xffffffff#32).getLsbD j=true:=by
   have:∀j:Fin 32,(0xffffffff#32).getLsbD j.val=true:=by decide
   exact this ⟨j,hj⟩
  rw [e1,show 31- (32- 1- j)=j by omega]
  simp
 ·rw [Nat.testBit_lt_two_pow (Nat.lt_of_lt_of_le hl (Nat.pow_le_pow_right (by omega) (by omega))),BitVec.testBit_toNat,BitVec.getLsbD_of_ge _ _ (by omega)]
def refBits(xs:List Nat)(k:Nat):Bool:=if k<32 then !(bitsOf xs k) else bitsOf xs k
theorem sums_agree(xs:List Nat)(h:∀x∈xs,x<256):crcMore 0 (xs.map Int.ofNat)=((refOut (refReg (refBits xs) (8*xs.length+32)) 32:Nat):Int):=by
 rw [crcMore_bits xs h,refOut_eq (turned (refBits xs) _),crc_agree (bitsOf xs) (refBits xs) (8*xs.length) (fun k hk=> ?_) (fun k=>rfl)]
 unfold bitsOf
 rw [List.getD_eq_getElem?_getD,List.getElem?_eq_none (by omega)]
 simp
end
section
set_option maxRecDepth 8000
def BS(st:St)(v:AV)(bs:List Int):Prop:=(v= .nils∧bs= [])∨(∃f,v= .imm 1 bs.length f (bs.map u8))∨
 ∃id off f vs,v= .sl id 1 off bs.length f∧st.get id=some (.row vs 5)∧(vs.drop off).take bs.length=bs.map u8∧off+bs.length≤vs.length
theorem BS.len{st:St}{v:AV}{bs:List Int}(h:BS st v bs):lenA E0 22 v=some (i64 bs.length):=by
 rcases h with ⟨rfl,rfl⟩|⟨f,rfl⟩|⟨id,off,f,vs,rfl,_⟩
 ·exact lenS0 slB
 ·kernel_rfl
 ·exact lenS slB
theorem BS.cells{st:St}{v:AV}{bs:List Int}(h:BS st v bs):sliceCells st v=some (bs.length,bs.map u8):=by
 rcases h with ⟨rfl,rfl⟩|⟨f,rfl⟩|⟨id,off,f,vs,rfl,hg,h1,h2⟩
 ·rfl
 ·rfl
 ·simp only [sliceCells,hg]
  rw [if_pos (by omega),Nat.mul_one,h1]
theorem BS.at{st:St}{v:AV}{bs:List Int}(h:BS st v bs){i:Nat}{x:Int}(hx:bs[i]? =some x):∃q,indexAddrA E0 22 v (i64 i)=some q∧loadA E0 st 5 q=some (u8 x):=by
 have hi:i<bs.length:=(List.getElem?_eq_some_iff.1 hx).1
 rcases h with ⟨_,rfl⟩|⟨f,rfl⟩|⟨id,off,f,vs,rfl,hg,h1,h2⟩
 ·simp at hx
 ·obtain ⟨⟨q,h1,h2⟩,h3⟩:=slB
  refine ⟨.iptr ((bs.map u8).drop (i*1)),?_,?_⟩
  ·simp only [indexAddrA,h1,h2,h3]
   rw [if_pos ⟨trivial,by omega,by omega,by decide⟩];rfl
  ·show partA E0 5 ((bs.map u8).drop (i*1)) 0=some (u8 x)
   exact plainT ty5 rfl (by rw [List.getElem?_drop];simp [hx])
 ·refine ⟨_,idxS slB hi,load_row hg (plainT ty5 rfl ?_)⟩
  have:((vs.drop off).take bs.length)[i]? =some (u8 x):=by rw [h1,List.getElem?_map,hx];rfl
  rw [List.getElem?_take,if_pos hi,List.getElem?_drop] at this
  rw [Nat.mul_one];exact this
theorem BS.rest{st st':St}{v:AV}{bs:List Int}(h:BS st v bs)(hr:Rest st st' []):BS st' v bs:=by
 rcases h with h|h|⟨id,off,f,vs,h,hg,h1,h2⟩
 ·exact .inl h
 ·exact .inr (.inl h)
 ·exact .inr (.inr ⟨id,off,f,vs,h,hr.keep _ _ (by simp) hg,h1,h2⟩)
theorem OwnB.bs{st:St}{v:AV}{bs:List Int}(h:OwnB st v bs):BS st v bs:=by
 rcases h with ⟨rfl,rfl⟩|⟨rfl,i,rfl,hg⟩|⟨_,i,rfl,hg⟩
 ·exact .inl ⟨rfl,rfl⟩
 ·exact .inr (.inr ⟨i,0,true,[],rfl,hg,rfl,by simp⟩)
 ·exact .inr (.inr ⟨i,0,false,_,rfl,hg,by simp [List.take_of_length_le],by simp⟩)
theorem mulN(a b:Nat)(h:a*b≤9000000000000000000):binA E0 .mul 3 (i64 a) (i64 b)=some (i64 ((a*b:Nat):Int)):=by
 rw [Int.natCast_mul];exact mul64 (by rw [←Int.natCast_mul];omega)
theorem addN'(a b:Nat)(h:a+b≤9000000000000000000):binA E0 .add 3 (i64 a) (i64 b)=some (i64 ((a+b:Nat):Int)):=by
 rw [Int.natCast_add];exact add64 (by omega)
theorem remN'(k:IntKind)(x m:Nat)(hm:0<m):pureVal (Op.intDiv .rem k (x:Int) (m:Int))=some (.val (.int k ((x%m:Nat):Int))):=by
 unfold Op.intDiv
 rw [if_neg (by omega)]
 have:((x:Int)).tmod (m:Int)=((x%m:Nat):Int):=by rw [Int.tmod_eq_emod_of_nonneg (by omega)];rfl
 simp only [this]
 rfl
theorem rem3(x m:Nat)(hm:0<m):binA E0 .rem 3 (i64 x) (i64 m)=some (i64 ((x%m:Nat):Int)):=remN' .i64 x m hm
theorem rem79(x m:Nat)(hm:0<m):binA E0 .rem 79 (u64 x) (u64 m)=some (u64 ((x%m:Nat):Int)):=remN' .u64 x m hm
theorem quo3(x m:Nat)(hm:0<m)(h:x≤9000000000000000000):binA E0 .quo 3 (i64 x) (i64 m)=some (i64 ((x/m:Nat):Int)):=by
 show pureVal (Op.intDiv .quo .i64 (x:Int) (m:Int))=_
 unfold Op.intDiv
 rw [if_neg (by omega)]
 have:((x:Int)).tdiv (m:Int)=((x/m:Nat):Int):=by rw [Int.tdiv_eq_ediv_of_nonneg (by omega)];rfl
 have hle:x/m≤x:=Nat.div_le_self _ _
 generalize x/m=d at this hle⊢
 simp only [this]
 rw [IntWalk.i64_in _ (by omega)]
 rfl
theorem quo79(x m:Nat)(hm:0<m)(h:x≤9000000000000000000):binA E0 .quo 79 (u64 x) (u64 m)=some (u64 ((x/m:Nat):Int)):=by
 show pureVal (Op.intDiv .quo .u64 (x:Int) (m:Int))=_
 unfold Op.intDiv
 rw [if_neg (by omega)]
 have:((x:Int)).tdiv (m:Int)=((x/m:Nat):Int):=by rw [Int.tdiv_eq_ediv_of_nonneg (by omega)];rfl
 have hle:x/m≤x:=Nat.div_le_self _ _
 generalize x/m=d at this hle⊢
 simp only [this]
 rw [IntWalk.u64_in _ (by omega)]
 rfl
theorem shr79(a c:Nat)(h:c≤64):binA E0 .shr 79 (u64 a) (u64 c)=some (u64 ((a>>>c:Nat):Int)):=by
 show pureVal (Op.shift .shr .u64 (a:Int) .u64 (c:Int))=_
 unfold Op.shift
 rw [if_neg (by omega)]
 have e:(a:Int).fdiv (2^(min c 64))=((a>>>c:Nat):Int):=by
  rw [Nat.min_eq_left h,Int.fdiv_eq_ediv_of_nonneg _ (Int.le_of_lt (Int.pow_pos (by decide))),Nat.shiftRight_eq_div_pow,Int.natCast_ediv,Int.natCast_pow]
  rfl
 show some (AV.val (.int .u64 ((a:Int).fdiv (2^(min c 64)))))=_
 rw [e]
theorem and79(a:Nat)(h:a<2^64):binA E0 .and 79 (u64 a) (u64 1)=some (u64 ((a%2:Nat):Int)):=by
 show some (AV.val (.int .u64 (IntKind.u64.wrap (((BitVec.ofInt 64 (a:Int))&&&(BitVec.ofInt 64 ((1:Nat):Int))).toNat:Int))))=_
 rw [BitVec.ofInt_natCast,BitVec.ofInt_natCast,BitVec.toNat_and,BitVec.toNat_ofNat,BitVec.toNat_ofNat,Nat.mod_eq_of_lt h,Nat.mod_eq_of_lt (by omega),Nat.and_one_is_mod,IntWalk.u64_in _ (by omega)]
theorem xor79(a b:Nat)(ha:a<2^64)(hb:b<2^64):binA E0 .xor 79 (u64 a) (u64 b)=some (u64 ((a^^^b:Nat):Int)):=by
 show some (AV.val (.int .u64 (IntKind.u64.wrap (((BitVec.ofInt 64 (a:Int))^^^(BitVec.ofInt 64 (b:Int))).toNat:Int))))=_
 have hx:a^^^b<2^64:=Nat.xor_lt_two_pow ha hb
 rw [BitVec.ofInt_natCast,BitVec.ofInt_natCast,BitVec.toNat_xor,BitVec.toNat_ofNat,BitVec.toNat_ofNat,Nat.mod_eq_of_lt ha,Nat.mod_eq_of_lt hb,IntWalk.u64_in _ (by omega)]
theorem mul79(a b:Nat)(h:a*b≤9000000000000000000):binA E0 .mul 79 (u64 a) (u64 b)=some (u64 ((a*b:Nat):Int)):=by
 rw [mulI,←Int.natCast_mul,IntWalk.u64_in _ (by omega)]
theorem add79(a b:Nat)(h:a+b≤9000000000000000000):binA E0 .add 79 (u64 a) (u64 b)=some (u64 ((a+b:Nat):Int)):=by
 rw [addI,←Int.natCast_add,IntWalk.u64_in _ (by omega)]
theorem add80(a b:Nat)(h:a+b<2^32):binA E0 .add 80 (u32 a) (u32 b)=some (u32 ((a+b:Nat):Int)):=by
 rw [addI,←Int.natCast_add,IntWalk.u32_in _ (by omega)]
theorem shl80(k:Nat)(hk:k<32):binA E0 .shl 80 (u32 1) (u64 ((31- k:Nat):Int))=some (u32 ((2^(31- k):Nat):Int)):=by
 show pureVal (Op.shift .shl .u32 1 .u64 (((31- k:Nat)):Int))=_
 unfold Op.shift
 rw [if_neg (by omega)]
 have hp:2^(31- k)≤2^31:=Nat.pow_le_pow_right (by decide) (by omega)
 show some (AV.val (.int .u32 (IntKind.u32.wrap (1*2^(min (31- k) 32)))))=_
 rw [Nat.min_eq_left (by omega),Int.one_mul,show (2:Int)^(31- k)=((2^(31- k):Nat):Int) by rw [Int.natCast_pow];rfl,IntWalk.u32_in _ ⟨Int.natCast_nonneg _,Int.ofNat_le.2 (Nat.le_trans hp (by decide))⟩]
theorem conv5_79(st:St)(k:Nat)(h:k<2^64):convO E0 st 5 79 (u8 k)=some (u64 (k:Nat),st):=by
 have:convO E0 st 5 79 (u8 k)=some (u64 (IntKind.u64.wrap (k:Int)),st):=by kernel_rfl
 rw [this,IntWalk.u64_in _ (by omega)]
theorem conv3_79(st:St)(k:Nat)(h:k<2^64):convO E0 st 3 79 (i64 k)=some (u64 (k:Nat),st):=by
 have:convO E0 st 3 79 (i64 k)=some (u64 (IntKind.u64.wrap (k:Int)),st):=by kernel_rfl
 rw [this,IntWalk.u64_in _ (by omega)]
theorem conv80_79(st:St)(k:Nat)(h:k<2^64):convO E0 st 80 79 (u32 k)=some (u64 (k:Nat),st):=by
 have:convO E0 st 80 79 (u32 k)=some (u64 (IntKind.u64.wrap (k:Int)),st):=by kernel_rfl
 rw [this,IntWalk.u64_in _ (by omega)]
theorem conv79_5(st:St)(k:Nat)(h:k<256):convO E0 st 79 5 (u64 k)=some (u8 (k:Nat),st):=by
 have:convO E0 st 79 5 (u64 k)=some (u8 (IntKind.u8.wrap (k:Int)),st):=by kernel_rfl
 rw [this,IntWalk.u8_in _ (by omega)]
theorem conv3_53(st:St)(k:Nat)(h:k<2^64):convO E0 st 3 53 (i64 k)=some (u64 (k:Nat),st):=by
 have:convO E0 st 3 53 (i64 k)=some (u64 (IntKind.u64.wrap (k:Int)),st):=by kernel_rfl
 rw [this,IntWalk.u64_in _ (by omega)]
theorem conv5_3(st:St)(k:Nat)(h:k<256):convO E0 st 5 3 (u8 k)=some (i64 (k:Nat),st):=by
 have:convO E0 st 5 3 (u8 k)=some (i64 (IntKind.i64.wrap (k:Int)),st):=by kernel_rfl
 rw [this,IntWalk.i64_in _ (by omega)]
end
section
set_option maxRecDepth 8000
theorem refReg_lt(c:Nat→Bool)(k:Nat):refReg c k<2^32:=(turned c k).1
theorem step_red{r:Nat}{b:Bool}(h:(2*r+b.toNat)>>>32=1):refStep r b=(2*r+b.toNat)^^^0x104c11db7:=by unfold refStep;rw [if_pos h]
theorem step_not{r:Nat}{b:Bool}(h:¬(2*r+b.toNat)>>>32=1):refStep r b=2*r+b.toNat:=by unfold refStep;rw [if_neg h]
theorem refOut_lt{r:Nat}{q:BitVec 32}(_h:Turned r q){k:Nat}(hk:k≤32):refOut r k<2^32:=by
 obtain ⟨x,e,hl,_⟩:=refOut_bits r k hk
 rw [e]
 calc x*2^(32- k)<2^k*2^(32- k):=Nat.mul_lt_mul_of_pos_right hl (Nat.pow_pos (by decide))
  _=2^32:=by rw [←Nat.pow_add];congr 1;omega
theorem bit_and(x j:Nat):x>>>j%2=(x.testBit j).toNat:=by
 rw [Nat.shiftRight_eq_div_pow,Nat.toNat_testBit]
theorem xor_bit(b:Bool):b.toNat^^^1=(!b).toNat:=by cases b<;>rfl
theorem sum_turn{st:St}{v:AV}{xs:List Nat}(hv:BS st v (xs.map Int.ofNat))(h256:∀x∈xs,x<256)(hl:xs.length≤1000000000000){k:Nat}(hk:k<8*xs.length+32):
  ∀T,f43L2 T v (u64 ((refReg (refBits xs) k:Nat):Int)) (i64 k)→AW Tryz.prog (f43P 3) (fun ex T' z=>ex= .normal∧f43L2 T' v (u64 ((refReg (refBits xs) (k+1):Nat):Int)) (i64 (k+1:Nat))∧z=st) T st:=by
 intro T hT
 have hlen:=hv.len
 rw [List.length_map] at hlen
 have hr:=refReg_lt (refBits xs) k
 have m1:binA E0 .mul 3 (i64 8) (i64 xs.length)=some (i64 ((8*xs.length:Nat):Int)):=mulN 8 xs.length (by omega)
 have a1:binA E0 .add 3 (i64 ((8*xs.length:Nat):Int)) (i64 32)=some (i64 ((8*xs.length+32:Nat):Int)):=addN' (8*xs.length) 32 (by omega)
 have l1:binA E0 .lss 3 (i64 k) (i64 ((8*xs.length+32:Nat):Int))=some TT:=lssT (by omega)
 have m2:binA E0 .mul 79 (u64 2) (u64 ((refReg (refBits xs) k:Nat):Int))=some (u64 ((2*refReg (refBits xs) k:Nat):Int)):=mul79 2 _ (by omega)
 have ak:binA E0 .add 3 (i64 k) (i64 1)=some (i64 ((k+1:Nat):Int)):=addN' k 1 (by omega)
 have hb01:∀b:Bool,b.toNat≤1:=fun b=>by cases b<;>decide
 have a2:∀b:Bool,binA E0 .add 79 (u64 ((2*refReg (refBits xs) k:Nat):Int)) (u64 ((b.toNat:Nat):Int))=some (u64 ((2*refReg (refBits xs) k+b.toNat:Nat):Int)):=fun b=>add79 _ _ (by have:=hb01 b;omega)
 have sh:∀b:Bool,binA E0 .shr 79 (u64 ((2*refReg (refBits xs) k+b.toNat:Nat):Int)) (u64 32)=some (u64 (((2*refReg (refBits xs) k+b.toNat)>>>32:Nat):Int)):=fun b=>shr79 _ 32 (by omega)
 have xr:∀b:Bool,binA E0 .xor 79 (u64 ((2*refReg (refBits xs) k+b.toNat:Nat):Int)) (u64 4374732215)=some (u64 (((2*refReg (refBits xs) k+b.toNat)^^^0x104c11db7:Nat):Int)):=fun b=>xor79 _ 0x104c11db7 (by have:=hb01 b;omega) (by decide)
 have xb:∀b:Bool,binA E0 .xor 79 (u64 ((b.toNat:Nat):Int)) (u64 1)=some (u64 (((!b).toNat:Nat):Int)):=fun b=>by
  have:=xor79 b.toNat 1 (by have:=hb01 b;omega) (by decide)
  rw [xor_bit] at this;exact this
 have hstep:refReg (refBits xs) (k+1)=refStep (refReg (refBits xs) k) (refBits xs k):=rfl
 by_cases hb:k<8*xs.length
 ·have l2:binA E0 .lss 3 (i64 k) (i64 ((8*xs.length:Nat):Int))=some TT:=lssT (by omega)
  have hi:k/8<xs.length:=by omega
  have hx:xs[k/8]? =some xs[k/8]:=List.getElem?_eq_getElem hi
  have hx256:=h256 _ (List.getElem_mem hi)
  have hbits:bitsOf xs k=xs[k/8].testBit (k%8):=by unfold bitsOf;rw [List.getD_eq_getElem?_getD,hx];rfl
  generalize xs[k/8]=x at hx hx256 hbits
  obtain ⟨q,i1,i2⟩:=hv.at (i:=k/8) (x:=Int.ofNat x) (by rw [List.getElem?_map,hx];rfl)
  have s1:binA E0 .shr 79 (u64 (x:Nat)) (u64 ((k%8:Nat):Int))=some (u64 ((x>>>(k%8):Nat):Int)):=shr79 x (k%8) (by omega)
  have n1:binA E0 .and 79 (u64 ((x>>>(k%8):Nat):Int)) (u64 1)=some (u64 (((bitsOf xs k).toNat:Nat):Int)):=by
   have:=and79 (x>>>(k%8)) (by rw [Nat.shiftRight_eq_div_pow];exact Nat.lt_of_le_of_lt (Nat.div_le_self _ _) (by omega))
   rw [bit_and,←hbits] at this;exact this
  have q1:=quo3 k 8 (by decide) (by omega)
  have r1:=rem3 k 8 (by decide)
  have c1:=conv5_79 st x (by omega)
  have c2:=conv3_53 st (k%8) (by omega)
  by_cases hv32:k<32
  ·have hc:refBits xs k= !(bitsOf xs k):=by unfold refBits;rw [if_pos hv32]
   by_cases hr1:(2*refReg (refBits xs) k+(!(bitsOf xs k)).toNat)>>>32=1
   ·rw [hstep,hc,step_red hr1]
    exact f43_3_TTTT hlen m1 a1 l1 hlen m1 l2 q1 i1 i2 c1 r1 c2 s1 n1 (lssT (by omega)) (xb _) m2 (a2 _) (sh _) (eqlT (by rw [hr1];rfl)) (xr _) ak hT
   ·rw [hstep,hc,step_not hr1]
    exact f43_3_TTTF hlen m1 a1 l1 hlen m1 l2 q1 i1 i2 c1 r1 c2 s1 n1 (lssT (by omega)) (xb _) m2 (a2 _) (sh _) (eqlF (fun e=>hr1 (by exact_mod_cast e))) ak hT
  ·have hc:refBits xs k=bitsOf xs k:=by unfold refBits;rw [if_neg hv32]
   by_cases hr1:(2*refReg (refBits xs) k+(bitsOf xs k).toNat)>>>32=1
   ·rw [hstep,hc,step_red hr1]
    exact f43_3_TTFT hlen m1 a1 l1 hlen m1 l2 q1 i1 i2 c1 r1 c2 s1 n1 (lssF (by omega)) m2 (a2 _) (sh _) (eqlT (by rw [hr1];rfl)) (xr _) ak hT
   ·rw [hstep,hc,step_not hr1]
    exact f43_3_TTFF hlen m1 a1 l1 hlen m1 l2 q1 i1 i2 c1 r1 c2 s1 n1 (lssF (by omega)) m2 (a2 _) (sh _) (eqlF (fun e=>hr1 (by exact_mod_cast e))) ak hT
 ·have l2:binA E0 .lss 3 (i64 k) (i64 ((8*xs.length:Nat):Int))=some FF:=lssF (by omega)
  have h0:bitsOf xs k=false:=by
   unfold bitsOf
   rw [List.getD_eq_getElem?_getD,List.getElem?_eq_none (by omega)]
   simp
  have m0:(u64 0:AV)=u64 (((false:Bool).toNat:Nat):Int):=rfl
  by_cases hv32:k<32
  ·have hc:refBits xs k= !false:=by unfold refBits;rw [if_pos hv32,h0]
   have x0:binA E0 .xor 79 (u64 0) (u64 1)=some (u64 (((!false).toNat:Nat):Int)):=xb false
   by_cases hr1:(2*refReg (refBits xs) k+(!false).toNat)>>>32=1
   ·rw [hstep,hc,step_red hr1]
    exact f43_3_TFTT hlen m1 a1 l1 hlen m1 l2 (lssT (by omega)) x0 m2 (a2 _) (sh _) (eqlT (by rw [hr1];rfl)) (xr _) ak hT
   ·rw [hstep,hc,step_not hr1]
    exact f43_3_TFTF hlen m1 a1 l1 hlen m1 l2 (lssT (by omega)) x0 m2 (a2 _) (sh _) (eqlF (fun e=>hr1 (by exact_mod_cast e))) ak hT
  ·have hc:refBits xs k=false:=by unfold refBits;rw [if_neg hv32,h0]
   have a0:binA E0 .add 79 (u64 ((2*refReg (refBits xs) k:Nat):Int)) (u64 0)=some (u64 ((2*refReg (refBits xs) k+(false:Bool).toNat:Nat):Int)):=a2 false
   by_cases hr1:(2*refReg (refBits xs) k+(false:Bool).toNat)>>>32=1
   ·rw [hstep,hc,step_red hr1]
    exact f43_3_TFFT hlen m1 a1 l1 hlen m1 l2 (lssF (by omega)) m2 a0 (sh _) (eqlT (by rw [hr1];rfl)) (xr _) ak hT
   ·rw [hstep,hc,step_not hr1]
    exact f43_3_TFFF hlen m1 a1 l1 hlen m1 l2 (lssF (by omega)) m2 a0 (sh _) (eqlF (fun e=>hr1 (by exact_mod_cast e))) ak hT
theorem out_turn{st:St}{r:Nat}{q:BitVec 32}(h:Turned r q){k:Nat}(hk:k<32):
  ∀T,f43L5 T (u64 (r:Nat)) (u32 ((refOut r k:Nat):Int)) (i64 k)→AW Tryz.prog (f43P 6) (fun ex T' z=>ex= .normal∧f43L5 T' (u64 (r:Nat)) (u32 ((refOut r (k+1):Nat):Int)) (i64 (k+1:Nat))∧z=st) T st:=by
 intro T hT
 have hr:=h.1
 have s1:binA E0 .shr 79 (u64 (r:Nat)) (u64 (k:Nat))=some (u64 ((r>>>k:Nat):Int)):=shr79 r k (by omega)
 have n1:binA E0 .and 79 (u64 ((r>>>k:Nat):Int)) (u64 1)=some (u64 (((r.testBit k).toNat:Nat):Int)):=by
  have:=and79 (r>>>k) (by rw [Nat.shiftRight_eq_div_pow];exact Nat.lt_of_le_of_lt (Nat.div_le_self _ _) (by omega))
  rw [bit_and] at this;exact this
 have ak:binA E0 .add 3 (i64 k) (i64 1)=some (i64 ((k+1:Nat):Int)):=addN' k 1 (by omega)
 have ho:=refOut_lt h (k:=k+1) (by omega)
 cases hb:r.testBit k with
 |true=>
  have e:refOut r (k+1)=refOut r k:=by simp [refOut,hb]
  rw [hb] at n1
  rw [e]
  exact f43_6_TF (lssT (by omega)) (conv3_53 st k (by omega)) s1 n1 (eqlF (by decide)) ak hT
 |false=>
  have e:refOut r (k+1)=refOut r k+2^(31- k):=by simp [refOut,hb]
  rw [hb] at n1
  rw [e] at ho⊢
  have sb:binA E0 .sub 3 (i64 31) (i64 k)=some (i64 ((31- k:Nat):Int)):=by
   rw [show ((31- k:Nat):Int)=31- (k:Int) by omega]
   exact sub64 (by omega)
  exact f43_6_TT (lssT (by omega)) (conv3_53 st k (by omega)) s1 n1 (eqlT rfl) sb (conv3_53 st (31- k) (by omega)) (shl80 k hk) (add80 _ _ ho) ak hT
theorem sumR_ok{st:St}{v:AV}{xs:List Nat}(hv:BS st v (xs.map Int.ofNat))(h256:∀x∈xs,x<256)(hl:xs.length≤1000000000000):obC 43 [v] st (u32 (crcMore 0 (xs.map Int.ofNat))) st:=by
 rw [sums_agree xs h256]
 have hlen:=hv.len
 rw [List.length_map] at hlen
 have m1:binA E0 .mul 3 (i64 8) (i64 xs.length)=some (i64 ((8*xs.length:Nat):Int)):=mulN 8 xs.length (by omega)
 have a1:binA E0 .add 3 (i64 ((8*xs.length:Nat):Int)) (i64 32)=some (i64 ((8*xs.length+32:Nat):Int)):=addN' (8*xs.length) 32 (by omega)
 have ht:=turned (refBits xs) (8*xs.length+32)
 refine ACalls.body (E:=E0) hE Tryz.func43 f43body ?_
 refine AW.andThen (f43_0 ⟨rfl,rfl⟩) fun T1 q1=> ?_
 refine AW.andThen (f43_1 q1) fun T2 q2=> ?_
 refine AW.andThen (AW.andThen (f43_2 q2) fun T3 q3=>AW.turns (In:=fun k T=>f43L2 T v (u64 ((refReg (refBits xs) k:Nat):Int)) (i64 k)) (L:=fun T=>f43L3 T (u64 ((refReg (refBits xs) (8*xs.length+32):Nat):Int))) (c:=fun _=>st) (n:=8*xs.length+32) (sf:=st) rfl q3 (fun k hk T hT=>sum_turn hv h256 hl hk T hT) (fun T hT=>f43_3_F hlen m1 a1 (lssF (by omega)) hT)) fun T4 q4=> ?_
 refine AW.andThen (f43_4 q4) fun T5 q5=> ?_
 refine AW.andThen (AW.andThen (f43_5 q5) fun T6 q6=>AW.turns (In:=fun k T=>f43L5 T (u64 ((refReg (refBits xs) (8*xs.length+32):Nat):Int)) (u32 ((refOut (refReg (refBits xs) (8*xs.length+32)) k:Nat):Int)) (i64 k)) (L:=fun T=>f43L6 T (u32 ((refOut (refReg (refBits xs) (8*xs.length+32)) 32:Nat):Int))) (c:=fun _=>st) (n:=32) (sf:=st) rfl q6 (fun k hk T hT=>out_turn ht hk T hT) (fun T hT=>f43_6_F (lssF (by omega)) hT)) fun T7 q7=> ?_
 refine AW.atRet (f43_7 q7) fun T8 q8=> ?_
 refine ⟨[T8.get 2],rfl,?_⟩
 simp only [oneOrTup]
 rw [q8.2]
 exact ⟨rfl,trivial⟩
end
section
set_option maxRecDepth 8000
def FreshB(st:St)(v:AV):Prop:=∀i o l f,v= .sl i 1 o l f→st.next≤i
theorem app_ownR{st0 st:St}{v x:AV}{bs c:List Int}(hw0:st0.wf)(hl:st0.lock= [])(hr:Rest st0 st [])(hv:OwnB st v bs)(hf:FreshB st0 v)(hx:sliceCells st x=some (c.length,c.map u8))(hb:bs.length+c.length≤big):
  ∃v' st',appendA E0 st 22 22 v x=some (v',st')∧OwnB st' v' (bs++c)∧Rest st0 st' []∧FreshB st0 v'∧(∀i,(∀o l f,v≠ .sl i 1 o l f)→∀p,st.get i=some p→st'.get i=some p):=by
 obtain ⟨v',st',a1,a2,a3,a4,a5,a6,a7,a8⟩:=app_own hv hr.wf (hr.lock.trans hl) hx hb
 refine ⟨v',st',a1,a2,⟨fun i o hi ho=>a3 i (fun o' l f e=> ?_) o (hr.keep i o hi ho),Nat.le_trans hr.next a4,a5.trans hl.symm,a6.trans hr.gl,a7⟩,?_,a3⟩
 ·have:=hf _ _ _ _ e
  have:=hw0 _ _ ho
  omega
 ·rcases a8 with ⟨rfl,rfl⟩|⟨l,f,rfl⟩
  ·exact hf
  ·intro i o l' f' e
   cases e
   exact hr.next
theorem sz4(st:St):obC 84 [i64 4] st TT st:=ACalls.run hE noOv_ok (show evC [] 84 [i64 4] st []=some (TT,st,[],[]) by kernel_rfl) Ob.ok_nil
theorem make4(st:St):makeSliceA E0 st 22 (i64 4) (i64 4)=some (.sl st.next 1 0 4 true,st.push (.row ((List.replicate 4 (0:Int)).map u8) 5)):=by kernel_rfl
def rowQ(n i:Nat):List Int:=List.replicate (4- i) 0++ [((n/256^3%256:Nat):Int),((n/256^2%256:Nat):Int),((n/256^1%256:Nat):Int),((n/256^0%256:Nat):Int)].drop (4- i)
theorem rowQ_succ(n:Nat){i:Nat}(h:i<4):(rowQ n i).set (3- i) ((n/256^i%256:Nat):Int)=rowQ n (i+1):=by
 match i,h with
 |0,_=>rfl
 |1,_=>rfl
 |2,_=>rfl
 |3,_=>rfl
theorem rowQ_len(n:Nat){i:Nat}(h:i≤4):(rowQ n i).length=4:=by
 match i,h with
 |0,_=>rfl
 |1,_=>rfl
 |2,_=>rfl
 |3,_=>rfl
 |4,_=>rfl
theorem rowQ4(n:Nat):rowQ n 4=be4 n:=by
 have b24:=byteAt_div n 24 (by omega)
 have b16:=byteAt_div n 16 (by omega)
 have b8:=byteAt_div n 8 (by omega)
 have b0:=byteAt_div n 0 (by omega)
 unfold be4
 rw [show (24:Int)=((24:Nat):Int) from rfl,show (16:Int)=((16:Nat):Int) from rfl,show (byteAt (n:Int) 8)=byteAt (n:Int) ((8:Nat):Int) from rfl,show (0:Int)=((0:Nat):Int) from rfl,b24,b16,b8,b0]
 rfl
theorem own_nil(st:St):obC 85 [.nils] st .nils st:=f85 (app_zero (.inl rfl) rfl rfl)
theorem conv_mod(σ:St)(x:Nat):convO E0 σ 79 5 (u64 ((x%256:Nat):Int))=some (u8 ((x%256:Nat):Int),σ):=conv79_5 σ _ (Nat.mod_lt _ (by decide))
theorem numR_ok{st:St}(hw:st.wf)(hl:st.lock= []){n:Nat}(hn:n<2^32):
  ∃v st',obC 42 [.nils,u64 n,i64 4] st (.tup [v,i64 0]) st'∧OwnB st' v (be4 n)∧Rest st st' []∧FreshB st v:=by
 have R0:Rest st (st.push (.row ((List.replicate 4 (0:Int)).map u8) 5)) []:=Rest.push hw _ _
 let Inv:Nat→St→Prop:=fun i σ=>σ.get st.next=some (.row ((rowQ n i).map u8) 5)∧Rest st σ []
 obtain ⟨c,c0,inv,step⟩:=chain_seq Inv (fun i σ σ'=>∀T,f42L3 T .nils (u64 ((n/256^i:Nat):Int)) (.sl st.next 1 0 4 true) (i64 (3- (i:Nat):Int))→AW Tryz.prog (f42P 4) (fun ex T' z=>ex= .normal∧f42L3 T' .nils (u64 ((n/256^(i+1):Nat):Int)) (.sl st.next 1 0 4 true) (i64 (3- ((i+1:Nat):Int)))∧z=σ') T σ) 4 _ ⟨by rw [St.get_push,if_pos rfl];rfl,R0⟩ (fun i σ hi ⟨hg,hR⟩=>by
  have hst:=store_u8 (k:=3- i) hg (hR.lock.trans hl) (by rw [rowQ_len n (by omega)];omega) ((n/256^i%256:Nat):Int)
  rw [rowQ_succ n hi] at hst
  refine ⟨_,⟨by rw [St.get_set,if_pos rfl],hR.fresh (Rest.set (S:= [st.next]) hR.wf (hR.wf _ _ hg) _ (by simp)) (by simp) hw⟩,fun T hT=> ?_⟩
  have hq:n/256^(i+1)=n/256^i/256:=by rw [Nat.pow_succ,Nat.div_div_eq_div_mul]
  rw [hq,show (3- ((i+1:Nat):Int))=(3- (i:Int))- 1 by omega]
  have hidx:indexAddrA E0 22 (.sl st.next 1 0 4 true) (i64 (3- (i:Nat):Int))=some (.ptr st.next (3- i)):=by
   rw [show (3- (i:Nat):Int)=((3- i:Nat):Int) by omega]
   exact idx22 (by omega)
  have hle:n/256^i≤9000000000000000000:=Nat.le_trans (Nat.div_le_self _ _) (by omega)
  exact f42_4_T (geqT (by omega)) (rem79 _ 256 (by decide)) (conv_mod σ _) hidx hst (quo79 _ 256 (by decide) hle) (sub64 (by omega)) hT)
 obtain ⟨g4,R4⟩:=inv 4 (Nat.le_refl _)
 rw [rowQ4] at g4
 have hx:sliceCells (c 4) (.sl st.next 1 0 4 true)=some ((be4 n).length,(be4 n).map u8):=by
  simp only [sliceCells,g4]
  rw [if_pos (by simp [be4])]
  rfl
 obtain ⟨v,st',a1,a2,a3,a4,_⟩:=app_ownR hw hl R4 (v:= .nils) (.inl ⟨rfl,rfl⟩) (fun i o l f e=>by cases e) hx (by simp [be4,big])
 refine ⟨v,st',?_,by simpa using a2,a3,a4⟩
 refine ACalls.body (E:=E0) hE Tryz.func42 f42body ?_
 refine AW.andThen (f42_0 (v0:= .nils) (n1:=n) (n2:=4) ⟨rfl,rfl,rfl,rfl⟩) fun T1 q1=> ?_
 refine AW.andThen (f42_1_T (sz4 st) q1) fun T2 q2=> ?_
 refine AW.andThen (f42_2 (make4 st) q2) fun T3 q3=> ?_
 have z0:n/256^4=0:=Nat.div_eq_of_lt (by omega)
 refine AW.andThen (AW.andThen (f42_3 (sub64 (a:=4) (b:=1) (by omega)) q3) fun T4 q4=>AW.turns (In:=fun i T=>f42L3 T .nils (u64 ((n/256^i:Nat):Int)) (.sl st.next 1 0 4 true) (i64 (3- (i:Nat):Int))) (L:=fun T=>f42L4 T .nils (u64 ((n/256^4:Nat):Int)) (.sl st.next 1 0 4 true)) (c:=c) (n:=4) (sf:=c 4) (by rw [c0]) (by simpa using q4) (fun i hi T hT=>step i hi T hT) (fun T hT=>f42_4_F (geqF (by omega)) hT)) fun T5 q5=> ?_
 rw [z0] at q5
 refine AW.atRet (f42_5_F (n1:=((0:Nat):Int)) (by kernel_rfl) (own_nil _) a1 q5) fun T6 q6=> ?_
 refine ⟨[T6.get 6,T6.get 7],rfl,?_⟩
 simp only [oneOrTup]
 rw [q6.2.1,q6.2.2]
 exact ⟨rfl,trivial⟩
theorem frameR_0{st:St}{v:AV}(hv:BS st v []):obC 8 [v] st (.tup [.nils,i64 1]) st:=f8_T hv.len (eqlT rfl)
theorem frameR_long{st:St}{v:AV}{d:List Int}(hv:BS st v d)(h:4096<d.length):obC 8 [v] st (.tup [.nils,i64 3]) st:=f8_FT hv.len (eqlF (by omega)) hv.len (gtrT (by omega))
theorem frameR_ok{st:St}(hw:st.wf)(hl:st.lock= []){v:AV}{xs:List Nat}(hv:BS st v (xs.map Int.ofNat))(h256:∀x∈xs,x<256)(h1:1≤xs.length)(h2:xs.length≤4096):
  ∃v' st',obC 8 [v] st (.tup [v',i64 0]) st'∧OwnB st' v' (frameL (xs.map Int.ofNat))∧Rest st st' []∧FreshB st v':=by
 have hlen:=hv.len
 rw [List.length_map] at hlen
 obtain ⟨a,s1,c1,o1,r1,f1⟩:=numR_ok hw hl (n:=xs.length) (by omega)
 have hc:=crc_range (xs.map Int.ofNat)
 obtain ⟨m,hm⟩:=Int.eq_ofNat_of_zero_le hc.1
 have hs:=sumR_ok (hv.rest r1) h256 (by omega)
 rw [hm] at hs hc
 obtain ⟨b,s2,c2,o2,r2,f2⟩:=numR_ok r1.wf (r1.lock.trans hl) (n:=m) (by omega)
 have o1':OwnB s2 a (be4 xs.length):=by
  rcases o1 with h|⟨h,i,e,hg⟩|⟨h,i,e,hg⟩
  ·exact .inl h
  ·exact .inr (.inl ⟨h,i,e,r2.keep _ _ (by simp) hg⟩)
  ·exact .inr (.inr ⟨h,i,e,r2.keep _ _ (by simp) hg⟩)
 have r12:=r1.trans r2
 obtain ⟨e,s3,a3,o3,r3,f3,_⟩:=app_ownR hw hl r12 o1' f1 o2.bs.cells (by simp [be4,big])
 have hx:=(hv.rest r3).cells
 obtain ⟨g,s4,a4,o4,r4,f4,_⟩:=app_ownR hw hl r3 o3 f3 hx (by simp [be4,big];omega)
 have hU:crcU (xs.map Int.ofNat)=(m:Int):=by rw [crcU_eq,hm]
 refine ⟨g,s4,f8_FF hlen (eqlF (by omega)) hlen (gtrF (by omega)) hlen (conv3_79 st _ (by omega)) c1 hs (conv80_79 s1 m (by omega)) c2 a3 a4,?_,r4,f4⟩
 unfold frameL
 rw [hU,List.length_map]
 exact o4
end
section
set_option maxRecDepth 8000
def val4(xs:List Nat):Nat:=(xs.take 4).foldl (fun n b=>256*n+b) 0
theorem fold4(a b c d:Nat)(ha:a<256)(hb:b<256)(hc:c<256)(hd:d<256):foldN [(a:Int),(b:Int),(c:Int),(d:Int)]=(((256*(256*(256*(256*0+a)+b)+c)+d:Nat)):Int):=by
 unfold foldN
 simp only [List.foldl_cons,List.foldl_nil]
 have e:∀(m b:Nat),m<2^56→b<256→orU (shlU (m:Int) 8) (IntKind.u64.wrap (b:Int))=((m*256+b:Nat):Int):=orU_nat
 rw [show (0:Int)=((0:Nat):Int) from rfl,e 0 _ (by omega) (by omega),e _ _ (by omega) (by omega),e _ _ (by omega) (by omega),e _ _ (by omega) (by omega)]
 congr 1
 omega
theorem be4_val(a b c d:Nat)(ha:a<256)(hb:b<256)(hc:c<256)(hd:d<256):be4 ((256*(256*(256*(256*0+a)+b)+c)+d:Nat):Int)= [(a:Int),(b:Int),(c:Int),(d:Int)]:=by
 generalize hn:256*(256*(256*(256*0+a)+b)+c)+d=n
 have b24:=byteAt_div n 24 (by omega)
 have b16:=byteAt_div n 16 (by omega)
 have b8:=byteAt_div n 8 (by omega)
 have b0:=byteAt_div n 0 (by omega)
 unfold be4
 rw [show (24:Int)=((24:Nat):Int) from rfl,show (16:Int)=((16:Nat):Int) from rfl,show (byteAt (n:Int) 8)=byteAt (n:Int) ((8:Nat):Int) from rfl,show (0:Int)=((0:Nat):Int) from rfl,b24,b16,b8,b0]
 have e1:n/2^24%256=a:=by omega
 have e2:n/2^16%256=b:=by omega
 have e3:n/2^8%256=c:=by omega
 have e4:n/2^0%256=d:=by omega
 rw [e1,e2,e3,e4]
theorem parse_short{bs:List Int}(h:bs.length<8):parse1 bs=none:=by
 unfold parse1
 by_cases h1:bs.length<4
 ·rw [if_pos h1]
 rw [if_neg h1]
 split
 ·rfl
 split
 ·rfl
 rw [if_pos (by rw [List.length_drop];omega)]
theorem parse_ref{xs:List Nat}(h256:∀x∈xs,x<256)(hl:8≤xs.length):
  parse1 (xs.map Int.ofNat)=if val4 xs<1 then none else if 4096<val4 xs then none else if xs.length- 8<val4 xs then none else
   if frameL (((xs.drop 8).take (val4 xs)).map Int.ofNat)=(xs.take (8+val4 xs)).map Int.ofNat then some (((xs.drop 8).take (val4 xs)).map Int.ofNat,(xs.drop (8+val4 xs)).map Int.ofNat) else none:=by
 match xs,hl,h256 with
 |a::b::c::d::e::f::g::h::r,_,h256=>
  have ha:=h256 a (by simp)
  have hb:=h256 b (by simp)
  have hc:=h256 c (by simp)
  have hd:=h256 d (by simp)
  have he:=h256 e (by simp)
  have hf:=h256 f (by simp)
  have hg:=h256 g (by simp)
  have hh:=h256 h (by simp)
  have hv:val4 (a::b::c::d::e::f::g::h::r)=256*(256*(256*(256*0+a)+b)+c)+d:=rfl
  have bv:=be4_val a b c d ha hb hc hd
  have n1:num4 ((a::b::c::d::e::f::g::h::r).map Int.ofNat)=_:=fold4 a b c d ha hb hc hd
  have n2:num4 (((a::b::c::d::e::f::g::h::r).map Int.ofNat).drop 4)=_:=fold4 e f g h he hf hg hh
  have sv:=be4_val e f g h he hf hg hh
  rw [←hv] at n1 bv
  generalize val4 (a::b::c::d::e::f::g::h::r)=n at n1 bv hv
  have d8:((a::b::c::d::e::f::g::h::r).map Int.ofNat).drop 8=r.map Int.ofNat:=rfl
  have x8:(a::b::c::d::e::f::g::h::r).drop 8=r:=rfl
  have ln:(a::b::c::d::e::f::g::h::r).length=r.length+8:=rfl
  unfold parse1
  rw [if_neg (by rw [List.length_map,ln];omega),n1,n2,d8,x8,ln]
  by_cases h1:n<1
  ·rw [if_pos (by omega),if_pos h1]
  rw [if_neg (by omega),if_neg h1]
  by_cases h2:4096<n
  ·rw [if_pos (by omega),if_pos h2]
  rw [if_neg (by omega),if_neg h2,if_neg (by rw [List.length_drop,List.length_map,ln];omega),Int.toNat_natCast,List.length_map]
  by_cases h3:r.length<n
  ·rw [if_pos h3,if_pos (show r.length+8- 8<n by omega)]
  rw [if_neg h3,if_neg (show¬r.length+8- 8<n by omega),←List.map_take,←List.map_drop]
  have hlen:((r.take n).map Int.ofNat).length=n:=by rw [List.length_map,List.length_take];omega
  have hk:(a::b::c::d::e::f::g::h::r).take (8+n)=a::b::c::d::e::f::g::h::r.take n:=by rw [Nat.add_comm];rfl
  have hk2:(a::b::c::d::e::f::g::h::r).drop (8+n)=r.drop n:=by rw [Nat.add_comm];rfl
  rw [hk,hk2]
  have hcr:=crc_range ((r.take n).map Int.ofNat)
  rw [←crcU_eq] at hcr
  have hfr:frameL ((r.take n).map Int.ofNat)=(a::b::c::d::e::f::g::h::r.take n).map Int.ofNat↔crcU ((r.take n).map Int.ofNat)=((256*(256*(256*(256*0+e)+f)+g)+h:Nat):Int):=by
   unfold frameL
   rw [hlen,bv]
   constructor
   ·intro q
    have q2:be4 (crcU ((r.take n).map Int.ofNat))= [(e:Int),(f:Int),(g:Int),(h:Int)]:=by
     have:=congrArg (fun l=>(l.drop 4).take 4) q
     exact this
    have q3:=congrArg foldN q2
    obtain ⟨m,hm⟩:=Int.eq_ofNat_of_zero_le hcr.1
    rw [hm] at q3 hcr
    rw [foldN_be4 m (by omega),fold4 e f g h he hf hg hh] at q3
    rw [hm,q3]
   ·intro q
    rw [q,sv]
    rfl
  by_cases h4:crcU ((r.take n).map Int.ofNat)=((256*(256*(256*(256*0+e)+f)+g)+h:Nat):Int)
  ·rw [if_neg (fun x=>x h4),if_pos (hfr.2 h4)]
  ·rw [if_pos h4,if_neg (fun x=>h4 (hfr.1 x))]
end
section
set_option maxRecDepth 8000
def vsOf(f:Bool)(js:List Nat)(R:List (List Int)):List AV:=List.zipWith (fun j d=>AV.sl j 1 0 d.length f) js R
structure LO (st:St) (f:Bool) (l:AV) (js:List Nat) (R:List (List Int)):Prop where
 len:js.length=R.length
 row:(R= []∧l= .nils)∨(R≠ []∧∃id,l= .sl id 1 0 R.length false∧st.get id=some (.row (vsOf f js R) 22))
 each:∀(k j:Nat) (d:List Int),js[k]? =some j→R[k]? =some d→st.get j=some (.row (d.map u8) 5)
 nodup:js.Nodup
def FreshL(n0:Nat)(l:AV)(js:List Nat):Prop:=(∀j∈js,n0≤j)∧∀i sz o k f,l= .sl i sz o k f→n0≤i
theorem vsOf_len{f:Bool}{js:List Nat}{R:List (List Int)}(h:js.length=R.length):(vsOf f js R).length=R.length:=by
 unfold vsOf;rw [List.length_zipWith,h,Nat.min_self]
theorem vsOf_app{f:Bool}{js:List Nat}{R:List (List Int)}(h:js.length=R.length)(j:Nat)(d:List Int):vsOf f (js++ [j]) (R++ [d])=vsOf f js R++ [.sl j 1 0 d.length f]:=by
 unfold vsOf;rw [List.zipWith_append h];rfl
theorem LO.nil(st:St)(f:Bool):LO st f .nils [] []:=⟨rfl,.inl ⟨rfl,rfl⟩,fun k j d h=>by simp at h,List.nodup_nil⟩
theorem LO.rest{st st':St}{f:Bool}{l:AV}{js:List Nat}{R:List (List Int)}(h:LO st f l js R)(hr:Rest st st' []):LO st' f l js R:=by
 refine ⟨h.len,?_,fun k j d hj hd=>hr.keep _ _ (by simp) (h.each k j d hj hd),h.nodup⟩
 rcases h.row with h1|⟨h1,id,h2,h3⟩
 ·exact .inl h1
 ·exact .inr ⟨h1,id,h2,hr.keep _ _ (by simp) h3⟩
theorem LO.app{st0 st:St}{f:Bool}{l:AV}{js:List Nat}{R:List (List Int)}(h:LO st f l js R)(hr:Rest st0 st [])(hw0:st0.wf)(hl:st0.lock= [])(hf:FreshL st0.next l js){j:Nat}{d:List Int}(hj:st.get j=some (.row (d.map u8) 5))(hjn:st0.next≤j)(hnj:j∉js)(hb:R.length+1≤1000000):
  ∃st',appendA E0 (st.push (.row [.sl j 1 0 d.length f] 22)) 32 32 l (.sl st.next 1 0 1 true)=some (.sl (st.next+1) 1 0 (R.length+1) false,st')∧LO st' f (.sl (st.next+1) 1 0 (R.length+1) false) (js++ [j]) (R++ [d])∧Rest st0 st' []∧FreshL st0.next (.sl (st.next+1) 1 0 (R.length+1) false) (js++ [j])∧∀i vs ty,st.get i=some (.row vs ty)→ty≠22→st'.get i=some (.row vs ty):=by
 have hw:=hr.wf
 have hlk:st.lock= []:=hr.lock.trans hl
 have hx:sliceCells (st.push (.row [.sl j 1 0 d.length f] 22)) (.sl st.next 1 0 1 true)=some (1,[.sl j 1 0 d.length f]):=by
  rw [cells_sl (by rw [St.get_push,if_pos rfl]) (by simp)]
  rfl
 have hnx:=hr.next
 have hfr:FreshL st0.next (.sl (st.next+1) 1 0 (R.length+1) false) (js++ [j]):=⟨fun k hk=>by
  rcases List.mem_append.1 hk with hk|hk
  ·exact hf.1 k hk
  ·rw [List.mem_singleton.1 hk];exact hjn,fun i sz o k g e=>by cases e;omega⟩
 have hnd:(js++ [j]).Nodup:=List.nodup_append.2 ⟨h.nodup,by simp,fun a ha b hb' e=>by
  rw [List.mem_singleton.1 hb'] at e;subst e;exact hnj ha⟩
 have fin:∀st':St,st'.get (st.next+1)=some (.row (vsOf f js R++ [.sl j 1 0 d.length f]) 22)→(∀i o,st.get i=some o→(∀k g,l≠ .sl i 1 0 k g)→st'.get i=some o)→st'.next=st.next+2→st'.lock= []→st'.gl=st.gl→st'.wf→
   LO st' f (.sl (st.next+1) 1 0 (R.length+1) false) (js++ [j]) (R++ [d])∧Rest st0 st' []∧FreshL st0.next (.sl (st.next+1) 1 0 (R.length+1) false) (js++ [j])∧∀i vs ty,st.get i=some (.row vs ty)→ty≠22→st'.get i=some (.row vs ty):=fun st' hg hk hn hlk' hgl' hw'=>by
  have h5':∀i vs ty,st.get i=some (.row vs ty)→ty≠22→∀k g,l≠ .sl i 1 0 k g:=fun i vs ty hi hty k g e=>by
   rcases h.row with ⟨_,e2⟩|⟨_,id,e2,e3⟩
   ·rw [e2] at e;cases e
   ·rw [e2] at e;cases e
    rw [hi] at e3
    simp only [Option.some.injEq,AObj.row.injEq] at e3
    exact hty e3.2
  have h5:∀i vs,st.get i=some (.row vs 5)→∀k g,l≠ .sl i 1 0 k g:=fun i vs hi=>h5' i vs 5 hi (by decide)
  refine ⟨⟨by simp [h.len],.inr ⟨by simp,st.next+1,by simp,?_⟩,fun k j' d' h1 h2=> ?_,hnd⟩,⟨fun i o hi ho=>hk i o (hr.keep i o hi ho) fun k g e=> ?_,by omega,hlk'.trans hl.symm,hgl'.trans hr.gl,hw'⟩,hfr,fun i vs ty hi hty=>hk i _ hi (h5' i vs ty hi hty)⟩
  ·rw [hg,vsOf_app h.len]
  ·by_cases hlt:k<js.length
   ·rw [List.getElem?_append_left hlt] at h1
    rw [List.getElem?_append_left (by rw [←h.len];exact hlt)] at h2
    have:=h.each k j' d' h1 h2
    exact hk _ _ this (h5 _ _ this)
   ·have e1:k=js.length:=by
     have:=(List.getElem?_eq_some_iff.1 h1).1
     simp at this;omega
    subst e1
    rw [List.getElem?_append_right (Nat.le_refl _),Nat.sub_self] at h1
    rw [h.len,List.getElem?_append_right (Nat.le_refl _),Nat.sub_self] at h2
    simp only [List.getElem?_cons_zero,Option.some.injEq] at h1 h2
    subst h1;subst h2
    exact hk _ _ hj (h5 _ _ hj)
  ·have:=hf.2 _ _ _ _ _ e
   have:=hw0 _ _ ho
   omega
 rcases h.row with ⟨hR,hl'⟩|⟨hne,id,hl',hg⟩
 ·subst hl'
  have hv0:vsOf f js R= []:=by subst hR;unfold vsOf;simp
  have hR0:R.length=0:=by rw [hR];rfl
  refine ⟨(st.push (.row [.sl j 1 0 d.length f] 22)).push (.row [.sl j 1 0 d.length f] 22),?_,fin _ ?_ ?_ ?_ ?_ ?_ ?_⟩
  ·rw [lapp_nil hx rfl (by omega) (by omega),hR0];rfl
  ·rw [hv0,St.get_push,if_pos (by simp)];rfl
  ·intro i o ho _
   have:=hw _ _ ho
   rw [St.get_push,if_neg (by rw [St.next_push];omega),St.get_push,if_neg (by omega)];exact ho
  ·rfl
  ·simpa using hlk
  ·rfl
  ·exact push_wf (push_wf hw _) _
 ·subst hl'
  have hid:=hw _ _ hg
  have hg':(st.push (.row [.sl j 1 0 d.length f] 22)).get id=some (.row (vsOf f js R) 22):=by rw [St.get_push,if_neg (by omega)];exact hg
  refine ⟨_,lapp_row hg' (by simpa using hlk) (vsOf_len h.len).symm hx rfl (by omega) hb,fin _ ?_ ?_ ?_ ?_ ?_ ?_⟩
  ·rw [St.get_push,if_pos (by simp)]
  ·intro i o ho hne'
   have:=hw _ _ ho
   rw [St.get_push,if_neg (by rw [St.next_del,St.next_push];omega),St.get_del,if_neg (fun e=>hne' _ _ (by rw [e])),St.get_push,if_neg (by omega)];exact ho
  ·rfl
  ·simpa using hlk
  ·rfl
  ·exact push_wf (del_wf (push_wf hw _) _) _
end
end Go.Proofs.YtalchcdenhfmiaaGreatDoor.E
