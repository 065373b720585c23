/- Part 7 of the proof, over the abstract machine: contracts of the functions that the statement reaches, joined out of several texts. Condition: none beyond those that the lemmas name. -/
import Derived.Test.YtalchcdenhfmiaaGreatDoorP6
namespace Go.Proofs.YtalchcdenhfmiaaGreatDoor.E
open Go Go.Proofs
section
set_option maxRecDepth 8000
theorem Byts.app{a b:List Int}(h:Byts a)(k:Byts b):Byts (a++b):=fun x hx=>(List.mem_append.1 hx).elim (h x) (k x)
theorem Byts.left{a b:List Int}(h:Byts (a++b)):Byts a:=fun x hx=>h x (List.mem_append_left _ hx)
theorem Byts.right{a b:List Int}(h:Byts (a++b)):Byts b:=fun x hx=>h x (List.mem_append_right _ hx)
theorem BytR.set{r:RS}(h:BytR r){i:Nat}{g:RF}(hg:Byts (g.lb++g.ob)):∀f∈r.F.set i g,Byts (f.lb++f.ob):=fun f hf=>by
 rcases List.mem_or_eq_of_mem_set hf with h1|h1
 ·exact h f h1
 ·rw [h1];exact hg
theorem byt_create{r:RS}(h:BytR r)(n:ByteArray):BytR (rCreate r n).2:=by
 have h0:Byts ([]++ []):=fun x hx=>by simp at hx
 unfold rCreate
 split
 ·exact h
 split
 ·exact h
 split
 ·exact h
 split
 ·exact h
 ·intro f hf
  have hf:f∈putF r.F ⟨n,.nils,.nils,[],[]⟩:=hf
  unfold putF at hf
  split at hf
  ·exact h.set h0 f hf
  ·rcases List.mem_append.1 hf with h1|h1
   ·exact h f (List.mem_of_mem_take h1)
   ·rcases List.mem_cons.1 h1 with h2|h2
    ·rw [h2];exact h0
    ·exact h f (List.mem_of_mem_drop h2)
theorem byt_remove{r:RS}(h:BytR r)(n:ByteArray):BytR (rRemove r n).2:=by
 unfold rRemove
 split
 ·exact h
 split
 ·exact h
 ·exact fun f hf=>h f ((List.eraseIdx_sublist _ _).subset hf)
theorem byt_sync{r r':RS}(h:BytR r){n:ByteArray}(hr:RSync r n r'):BytR r':=by
 unfold RSync at hr
 split at hr
 ·subst hr;exact h
 split at hr
 ·subst hr;exact h
 ·obtain ⟨g,g',h1,_,h3,h4,_,_,rfl⟩:=hr
  exact h.set (by rw [h3,h4,List.append_nil];exact h g (List.mem_of_getElem? h1))
theorem byt_app{r r':RS}(h:BytR r){n:ByteArray}{c:List Int}(hc:Byts c)(hr:RApp r n c r'):BytR r':=by
 unfold RApp at hr
 split at hr
 ·subst hr;exact h
 split at hr
 ·subst hr;exact h
 split at hr
 ·subst hr;exact h
 ·obtain ⟨g,g',h1,_,h3,h4,_,_,rfl⟩:=hr
  exact h.set (by rw [h3,h4,←List.append_assoc];exact (h g (List.mem_of_getElem? h1)).app hc)
theorem byt_crL(ps:List Int):∀(M:List K) (k:Nat),(∀m∈M,Byts (m.2.1++m.2.2))→∀m∈crL ps k M,Byts (m.2.1++m.2.2)
 | [],_,_,m,hm=>by simp [crL] at hm
 |f::M,k,h,m,hm=>by
  have hf:=h f (by simp)
  rcases List.mem_cons.1 hm with h1|h1
  ·rw [h1]
   unfold crK
   split
   ·exact hf
   ·simp only [List.append_nil]
    exact hf.left.app fun x hx=>hf.right x (List.mem_of_mem_take hx)
  ·exact byt_crL ps M _ (fun q hq=>h q (List.mem_cons_of_mem _ hq)) m h1
theorem byt_crash{F F':List RF}{ps:List Int}{q fu q' fu':Int}{o o':Bool}(h:BytR ⟨F,q,fu,o⟩)(h2:F'.map key=crL ps 0 (F.map key)):BytR ⟨F',q',fu',o'⟩:=fun f hf=>by
 have h3:key f∈crL ps 0 (F.map key):=by rw [←h2];exact List.mem_map.2 ⟨f,hf,rfl⟩
 exact byt_crL ps _ 0 (fun m hm=>by
  obtain ⟨g,hg,rfl⟩:=List.mem_map.1 hm
  exact h g hg) _ h3
theorem byt_beg{r:RS}(h:BytR r)(nx:Nat):BytR (rBeg r nx).2:=by
 unfold rBeg;split
 ·exact h
 ·exact byt_create h _
theorem byt_gsync{r r':RS}(h:BytR r){op:Nat}(hr:RGSync r op r'):BytR r':=by
 unfold RGSync at hr
 split at hr
 ·subst hr;exact h
 ·exact byt_sync h hr
theorem byt_ret(op:Nat)(bf:Int):∀(K:List Nat) {r:RS},BytR r→BytR (rRet op bf K r).2
 | [],r,h=>h
 |k::K,r,h=>by
  unfold rRet
  split
  ·exact byt_ret op bf K h
  split
  ·exact byt_remove h _
  ·exact byt_ret op bf K (byt_remove h _)
theorem pre_facts{s:PS}{r r1:RS}(hS:Sim s r)(hB:BytR r){nx op ct nx1 op1 ct1:Nat}{e1:Int}(hn:1≤nx∧nx≤100000000)(ho:op≤99999999)(hct:ct≤8)(hr:RPre r nx op ct e1 r1 nx1 op1 ct1):
  BytR r1∧usedR r1.F≤usedR r.F∧(1≤nx1∧nx1≤100000000)∧op1≤99999999∧ct1≤8∧(e1=0→ct1≤7):=by
 have hbeg:∀(r0:RS),(rBeg r0 nx).1=0→nx≤99999999:=fun r0 h=>by
  unfold rBeg at h;split at h
  ·cases h
  ·omega
 unfold RPre at hr
 by_cases hf:0<op∧ct=8
 ·rw [if_pos hf] at hr
  obtain ⟨ra,h1,h2⟩:=hr
  have hSa:=(sim_sync hS _ h1).2
  have hBa:=byt_sync hB h1
  have hua:=used_rSync h1
  split at h2
  ·rename_i he
   obtain ⟨q,rfl⟩:=h2
   simp only [Prod.mk.injEq] at q
   obtain ⟨rfl,rfl,rfl,rfl⟩:=q
   exact ⟨hBa,hua,hn,ho,hct,fun e=>absurd e he⟩
  split at h2
  ·rename_i hb
   obtain ⟨q,rfl⟩:=h2
   simp only [Prod.mk.injEq] at q
   obtain ⟨rfl,rfl,rfl,rfl⟩:=q
   exact ⟨byt_beg hBa _,Nat.le_trans (used_rBeg hSa _) hua,hn,by omega,hct,fun e=>absurd e hb⟩
  ·rename_i hb
   obtain ⟨q,rfl⟩:=h2
   simp only [Prod.mk.injEq] at q
   obtain ⟨rfl,rfl,rfl,rfl⟩:=q
   have:=hbeg ra (Classical.not_not.1 hb)
   exact ⟨byt_beg hBa _,Nat.le_trans (used_rBeg hSa _) hua,by omega,this,by omega,fun _=>by omega⟩
 ·rw [if_neg hf] at hr
  split at hr
  ·split at hr
   ·rename_i hb
    obtain ⟨q,rfl⟩:=hr
    simp only [Prod.mk.injEq] at q
    obtain ⟨rfl,rfl,rfl,rfl⟩:=q
    exact ⟨byt_beg hB _,used_rBeg hS _,hn,by omega,hct,fun e=>absurd e hb⟩
   ·rename_i hb
    obtain ⟨q,rfl⟩:=hr
    simp only [Prod.mk.injEq] at q
    obtain ⟨rfl,rfl,rfl,rfl⟩:=q
    have:=hbeg r (Classical.not_not.1 hb)
    exact ⟨byt_beg hB _,used_rBeg hS _,by omega,this,by omega,fun _=>by omega⟩
  ·obtain ⟨q,rfl⟩:=hr
   simp only [Prod.mk.injEq] at q
   obtain ⟨rfl,rfl,rfl,rfl⟩:=q
   exact ⟨hB,Nat.le_refl _,hn,ho,hct,fun _=>by omega⟩
theorem byt_nat{xs:List Nat}(h:∀x∈xs,x<256):Byts (xs.map Int.ofNat):=fun b hb=>by
 obtain ⟨x,hx,rfl⟩:=List.mem_map.1 hb
 have:=h x hx
 simp only [Int.ofNat_eq_natCast];omega
end
section
set_option maxRecDepth 8000
mutual
theorem ren_id:∀a:AV,ren (fun i=>i) a=a
 | .val _=>rfl
 | .nilp=>rfl
 | .nilm=>rfl
 | .nilf=>rfl
 | .nili=>rfl
 | .ptr _ _=>rfl
 | .iptr cs=>by simp only [ren,renL_id cs]
 | .nils=>rfl
 | .sl _ _ _ _ _=>rfl
 | .imm _ _ _ cs=>by simp only [ren,renL_id cs]
 | .mp _=>rfl
 | .fn _ a b=>by simp only [ren,renL_id a,renL_id b]
 | .agg cs=>by simp only [ren,renL_id cs]
 | .tup cs=>by simp only [ren,renL_id cs]
 | .ifc _ v=>by simp only [ren,ren_id v]
 | .undef=>rfl
theorem renL_id:∀l:List AV,renL (fun i=>i) l=l
 | []=>rfl
 |a::r=>by simp only [renL,ren_id a,renL_id r]
end
theorem renO_id(o:AObj):o.ren (fun i=>i)=o:=by
 cases o<;>simp [AObj.ren,renL_id,ren_id]
theorem del_emb{st:St}(hw:st.wf)(hl:st.lock= [])(hgl:∀p∈st.gl,∀a∈p.2,∃v,a= .val v){a:Nat}{I:List Nat}(hI:∀x∈I,x=a):Emb (st.del a) (st.hide I) (fun i=>i) := {
 new:=fun i hi=>by
  have hi:st.next≤i:=hi
  show i=st.next+(i- st.next);omega
 lt:=fun i hi=>hi
 inj:=fun i j o o' _ _ h=>h
 get:=fun id o h=>by
  rw [St.get_del] at h
  split at h
  ·cases h
  ·rw [renO_id];exact h
 wf:=fun id o h=>by
  rw [St.get_del] at h
  split at h
  ·cases h
  ·exact hw _ _ h
 lock:=fun id o h=>by
  rw [St.get_del] at h
  split at h
  ·cases h
  ·rename_i hne
   constructor
   ·intro h'
    have h':id∈st.lock:=h'
    rw [hl] at h';cases h'
   ·intro h'
    have h':id∈I++st.lock:=h'
    rw [hl,List.append_nil] at h'
    exact absurd (hI id h') hne
 gl:=fun p hp=>⟨hp,hgl p hp⟩ }
theorem hid_ok{f:Nat}{args:List AV}{r:AV}{st s1:St}{a:Nat}{I:List Nat}{o:AObj}(hw:st.wf)(hl:st.lock= [])(hgl:∀p∈st.gl,∀a∈p.2,∃v,a= .val v)(hI:∀x∈I,x=a)(ho:st.get a=some o)(h:obC f args (st.del a) r s1){S:List Nat}(hR:RestF (st.del a) s1 S)(ha:a∉S):
  ∃s',obC f args (st.hide I) r s'∧RestF st (s'.show st I) S∧(∀k,k≠a→((∃o,st.get k=some o)∨st.next≤k)→(s'.show st I).get k=s1.get k)∧(s'.show st I).get a=some o:=by
 have hE:=del_emb hw hl hgl hI
 have hfr:=h.frame hE
 have hrun:obC f args (st.hide I) r (mergeSt s1 (st.hide I) (st.del a) (fun i=>i)):=by
  have e:renL (fun i=>i) args=args:=renL_id args
  rw [e] at hfr
  refine hfr.mono fun r' st' hq=> ?_
  obtain ⟨r0,st0',⟨h1,h2⟩,h3,h4,_,_⟩:=hq
  subst h1;subst h2
  exact ⟨by rw [h3,ren_id],h4⟩
 have hnx:(st.del a).next=st.next:=rfl
 have hn1:st.next≤s1.next:=hR.next
 have hz:∀k,((mergeSt s1 (st.hide I) (st.del a) (fun i=>i)).show st I).get k=if k∈I∧(st.get k).isSome=true then st.get k else (mergeSt s1 (st.hide I) (st.del a) (fun i=>i)).get k:=fun k=>St.show_get _ _ _ _
 have hma:(mergeSt s1 (st.hide I) (st.del a) (fun i=>i)).get a=some o:=by
  rw [merge_out hE]
  ·exact ho
  ·intro i hi hh e
   have e:i=a:=e
   subst e
   have hlt:=hw _ _ ho
   simp only [St.had,Bool.or_eq_true,decide_eq_true_eq,St.get_del] at hh
   rcases hh with hh|hh
   ·have hh:st.next≤i:=hh
    omega
   ·simp at hh
 have hza:((mergeSt s1 (st.hide I) (st.del a) (fun i=>i)).show st I).get a=some o:=by
  rw [hz];split
  ·exact ho
  ·exact hma
 have hzk:∀k,k≠a→((∃o,st.get k=some o)∨st.next≤k)→((mergeSt s1 (st.hide I) (st.del a) (fun i=>i)).show st I).get k=s1.get k:=fun k hk hor=>by
  rw [hz,if_neg (fun h=>hk (hI k h.1))]
  have hhad:(st.del a).had k=true:=by
   simp only [St.had,Bool.or_eq_true,decide_eq_true_eq,St.get_del,if_neg hk]
   rcases hor with ⟨o',h⟩|h
   ·right;rw [h];rfl
   ·left;exact h
  by_cases hlt:k<s1.next
  ·have:=merge_in hE (i:=k) hlt hhad
   rw [this]
   cases hg:s1.get k with
   |none=>rfl
   |some o'=>simp only [Option.map_some,renO_id]
  ·have h1:(mergeSt s1 (st.hide I) (st.del a) (fun i=>i)).get k=(st.hide I).get k:=merge_out hE (k:=k) fun i hi _ e=>hlt (by rw [←e];exact hi)
   rw [h1]
   have hn:s1.get k=none:=by
    cases hg:s1.get k with
    |none=>rfl
    |some o'=>exact absurd (hR.wf _ _ hg) hlt
   rw [hn]
   show st.get k=none
   cases hg:st.get k with
   |none=>rfl
   |some o'=>have:=hw _ _ hg;omega
 refine ⟨_,hrun,⟨fun i o' hi ho' hc=> ?_,?_,rfl,?_,fun i o' hi=> ?_⟩,hzk,hza⟩
 ·by_cases e:i=a
  ·subst e
   rw [hza];rw [ho] at ho';exact ho'
  ·rw [hzk i e (.inl ⟨o',ho'⟩)]
   exact hR.keep i o' hi (by rw [St.get_del,if_neg e];exact ho') hc
 ·rw [St.show_next];show st.next≤st.next+(s1.next- st.next);omega
 ·rw [St.show_gl];rfl
 ·rw [St.show_next]
  show i<st.next+(s1.next- st.next)
  rw [hz] at hi
  split at hi
  ·have:=hw _ _ hi;omega
  ·rcases merge_cases hE hi with ⟨j,o0,h1,h2,h3,_⟩|⟨h1,_⟩
   ·have h2:j=i:=h2
    omega
   ·have:=hw _ _ h1;omega
theorem gt_vals{st:St}(h:GT st):∀p∈st.gl,∀a∈p.2,∃v,a= .val v:=fun p hp a ha=>by
 rw [h] at hp
 obtain ⟨t,_,rfl⟩:=List.mem_map.1 hp
 obtain ⟨x,_,rfl⟩:=List.mem_map.1 ha
 exact ⟨_,rfl⟩
theorem frame_byts{d:List Int}(h:Byts d):Byts (frameL d):=by
 have hb:∀n k,0≤byteAt n k∧byteAt n k<256:=fun n k=>by
  unfold byteAt
  generalize shrU n k=x
  show 0≤x%256∧x%256<256
  omega
 have h4:∀n,Byts (be4 n):=fun n x hx=>by
  simp only [be4,List.mem_cons,List.not_mem_nil,or_false] at hx
  rcases hx with rfl|rfl|rfl|rfl<;>exact hb _ _
 exact ((h4 _).app (h4 _)).app h
end
section
set_option maxRecDepth 100000
noncomputable def f4P(i:Nat):Code:=match Tryz.f4.body with
 |some (.seq x0 (.seq x1 (.seq x2 (.seq x3 (.seq x4 (.seq x5 (.seq (.seq x6 (.block 0 (.loop (.seq x7 (.seq x8 (.seq (.block 1 (.seq x9 (.seq x10 (.seq x11 (.seq (.seq x12 (.block 2 (.seq x13 (.cond _ (.seq x14 (.seq x15 (.seq x16 (.block 3 (.loop (.seq x17 (.seq x18 (.seq (.block 4 (.seq x19 (.seq x20 (.seq x21 (.seq x22 (.seq x23 (.seq x24 (.block 5 (.loop x25))))))))) x26)))))))) x27)))) (.seq x28 (.seq x29 (.seq x30 (.seq x31 (.block 7 (.loop x32))))))))))) x33)))))) x34)))))))=> [x0,x1,x2,x3,x4,x5,x6,x7,x8,x9,x10,x11,x12,x13,x14,x15,x16,x17,x18,x19,x20,x21,x22,x23,x24,x25,x26,x27,x28,x29,x30,x31,x32,x33,x34].getD i .skip
 |_=> .skip
theorem f4body:Tryz.f4.body=some (.seq (f4P 0) (.seq (f4P 1) (.seq (f4P 2) (.seq (f4P 3) (.seq (f4P 4) (.seq (f4P 5) (.seq (.seq (f4P 6) (.block 0 (.loop (.seq (f4P 7) (.seq (f4P 8) (.seq (.block 1 (.seq (f4P 9) (.seq (f4P 10) (.seq (f4P 11) (.seq (.seq (f4P 12) (.block 2 (.seq (f4P 13) (.cond (.tmp 64) (.seq (f4P 14) (.seq (f4P 15) (.seq (f4P 16) (.block 3 (.loop (.seq (f4P 17) (.seq (f4P 18) (.seq (.block 4 (.seq (f4P 19) (.seq (f4P 20) (.seq (f4P 21) (.seq (f4P 22) (.seq (f4P 23) (.seq (f4P 24) (.block 5 (.loop (f4P 25)))))))))) (f4P 26))))))))) (f4P 27))))) (.seq (f4P 28) (.seq (f4P 29) (.seq (f4P 30) (.seq (f4P 31) (.block 7 (.loop (f4P 32)))))))))))) (f4P 33))))))) (f4P 34)))))))):=by kernel_rfl
def f4L0(T:Tm)(a0:AV):Prop:=T.n=269∧T.get 0=a0
theorem f4_0_e(v0:AV)(st:St):evR gA0 [] (f4P 0) ⟨269,[(0,v0)],[]⟩ st []=some (.normal,269,[v0],st,[]):=by kernel_rfl
theorem f4_0{v0:AV}{st:St}{T:Tm}(hT:f4L0 T v0):AW Tryz.prog (f4P 0) (fun ex T' st'=>ex= .normal∧f4L0 T' v0∧st'=st) T st:=by
 obtain ⟨hn,g0⟩:=hT
 exact genR (f4_0_e v0 st) Ob.ok_nil hn (one g0) fun T' q2 q3=>by simp only [gA0,List.cons.injEq,and_true] at q3;exact ⟨rfl,⟨q2,q3⟩,rfl⟩
theorem f4_1_T_e(v0:AV)(st s1:St):evR gA0 [6012] (f4P 1) ⟨269,[(0,v0)],[]⟩ st [.eff TT (fun _=>s1)]=some (.normal,269,[v0],s1,[obC 12 [] st TT s1]):=by kernel_rfl
theorem f4_1_T{v0:AV}{st s1:St}(h1:obC 12 [] st TT s1){T:Tm}(hT:f4L0 T v0):AW Tryz.prog (f4P 1) (fun ex T' st'=>ex= .normal∧f4L0 T' v0∧st'=s1) T st:=by
 obtain ⟨hn,g0⟩:=hT
 exact genR (f4_1_T_e v0 st s1) (kk h1 Ob.ok_nil) hn (one g0) fun T' q2 q3=>by simp only [gA0,List.cons.injEq,and_true] at q3;exact ⟨rfl,⟨q2,q3⟩,rfl⟩
def f4L1(T:Tm)(a2:AV):Prop:=T.n=269∧T.get 2=a2
def f4L2(T:Tm)(a0 a3 a4:AV):Prop:=T.n=269∧T.get 0=a0∧T.get 3=a3∧T.get 4=a4
theorem f4_2_e(v0:AV)(st s1:St)(p32a p32b:Nat):evR gA29 [6013] (f4P 2) ⟨269,[(0,v0)],[]⟩ st [.eff (.tup [(pt p32a),(pt p32b)]) (fun _=>s1)]=some (.normal,269,[v0,(pt p32a),(pt p32b)],s1,[obC 13 [(i64 1048576)] st (.tup [(pt p32a),(pt p32b)]) s1]):=by kernel_rfl
theorem f4_2{v0:AV}{st s1:St}{p32a p32b:Nat}(h1:obC 13 [(i64 1048576)] st (.tup [(pt p32a),(pt p32b)]) s1){T:Tm}(hT:f4L0 T v0):AW Tryz.prog (f4P 2) (fun ex T' st'=>ex= .normal∧f4L2 T' v0 (pt p32a) (pt p32b)∧st'=s1) T st:=by
 obtain ⟨hn,g0⟩:=hT
 exact genR (f4_2_e v0 st s1 p32a p32b) (kk h1 Ob.ok_nil) hn (one g0) fun T' q2 q3=>by simp only [gA29,List.cons.injEq,and_true] at q3;exact ⟨rfl,⟨q2,q3⟩,rfl⟩
def f4L3(T:Tm)(a0 a3 a4 a5 a7:AV):Prop:=T.n=269∧T.get 0=a0∧T.get 3=a3∧T.get 4=a4∧T.get 5=a5∧T.get 7=a7
abbrev gA51(T:Tm):List AV:= [T.get 0,T.get 3,T.get 4,T.get 5,T.get 7]
theorem f4_3_e(v0 v37b:AV)(p3 p4 p37a:Nat)(st s1:St)(n37c:Int):evR gA51 [6014] (f4P 3) ⟨269,[(0,v0),(3,(pt p3)),(4,(pt p4))],[]⟩ st [.eff (.tup [(pt p37a),v37b,(i64 n37c)]) (fun _=>s1)]=some (.normal,269,[v0,(pt p3),(pt p4),(pt p37a),(i64 n37c)],s1,[obC 14 [(pt p3)] st (.tup [(pt p37a),v37b,(i64 n37c)]) s1]):=by kernel_rfl
theorem f4_3{v0 v37b:AV}{p3 p4 p37a:Nat}{st s1:St}{n37c:Int}(h1:obC 14 [(pt p3)] st (.tup [(pt p37a),v37b,(i64 n37c)]) s1){T:Tm}(hT:f4L2 T v0 (pt p3) (pt p4)):AW Tryz.prog (f4P 3) (fun ex T' st'=>ex= .normal∧f4L3 T' v0 (pt p3) (pt p4) (pt p37a) (i64 n37c)∧st'=s1) T st:=by
 obtain ⟨hn,g0,g3,g4⟩:=hT
 exact genR (f4_3_e v0 v37b p3 p4 p37a st s1 n37c) (kk h1 Ob.ok_nil) hn (conz g0 (conz g3 (one g4))) fun T' q2 q3=>by simp only [gA51,List.cons.injEq,and_true] at q3;exact ⟨rfl,⟨q2,q3⟩,rfl⟩
def f4L4(T:Tm)(a0 a3 a4 a5 a7 a8 a10:AV):Prop:=T.n=269∧T.get 0=a0∧T.get 3=a3∧T.get 4=a4∧T.get 5=a5∧T.get 7=a7∧T.get 8=a8∧T.get 10=a10
abbrev gA52(T:Tm):List AV:= [T.get 0,T.get 3,T.get 4,T.get 5,T.get 7,T.get 8,T.get 10]
theorem f4_4_e(v0 v43b:AV)(p3 p4 p5 p43a:Nat)(n7 n43c:Int)(st s1:St):evR gA52 [6015] (f4P 4) ⟨269,[(0,v0),(3,(pt p3)),(4,(pt p4)),(5,(pt p5)),(7,(i64 n7))],[]⟩ st [.eff (.tup [(pt p43a),v43b,(i64 n43c)]) (fun _=>s1)]=some (.normal,269,[v0,(pt p3),(pt p4),(pt p5),(i64 n7),(pt p43a),(i64 n43c)],s1,[obC 15 [(pt p4)] st (.tup [(pt p43a),v43b,(i64 n43c)]) s1]):=by kernel_rfl
theorem f4_4{v0 v43b:AV}{p3 p4 p5 p43a:Nat}{n7 n43c:Int}{st s1:St}(h1:obC 15 [(pt p4)] st (.tup [(pt p43a),v43b,(i64 n43c)]) s1){T:Tm}(hT:f4L3 T v0 (pt p3) (pt p4) (pt p5) (i64 n7)):AW Tryz.prog (f4P 4) (fun ex T' st'=>ex= .normal∧f4L4 T' v0 (pt p3) (pt p4) (pt p5) (i64 n7) (pt p43a) (i64 n43c)∧st'=s1) T st:=by
 obtain ⟨hn,g0,g3,g4,g5,g7⟩:=hT
 exact genR (f4_4_e v0 v43b p3 p4 p5 p43a n7 n43c st s1) (kk h1 Ob.ok_nil) hn (conz g0 (conz g3 (conz g4 (conz g5 (one g7))))) fun T' q2 q3=>by simp only [gA52,List.cons.injEq,and_true] at q3;exact ⟨rfl,⟨q2,q3⟩,rfl⟩
def f4L5(T:Tm)(a0 a3 a4 a5 a8:AV):Prop:=T.n=269∧T.get 0=a0∧T.get 3=a3∧T.get 4=a4∧T.get 5=a5∧T.get 8=a8
abbrev gA53(T:Tm):List AV:= [T.get 0,T.get 3,T.get 4,T.get 5,T.get 8]
theorem f4_5_FF_e(v0:AV)(p3 p4 p5 p8:Nat)(n7 n10:Int)(st:St):evR gA53 [7048,7051] (f4P 5) ⟨269,[(0,v0),(3,(pt p3)),(4,(pt p4)),(5,(pt p5)),(7,(i64 n7)),(8,(pt p8)),(10,(i64 n10))],[]⟩ st [.av FF,.av FF]=some (.normal,269,[v0,(pt p3),(pt p4),(pt p5),(pt p8)],st,[Bt 23 .neq n7 0 FF,Bt 3 .neq n10 0 FF]):=by kernel_rfl
theorem f4_5_FF{v0:AV}{p3 p4 p5 p8:Nat}{n7 n10:Int}{st:St}(h1:Bt 23 .neq n7 0 FF)(h2:Bt 3 .neq n10 0 FF){T:Tm}(hT:f4L4 T v0 (pt p3) (pt p4) (pt p5) (i64 n7) (pt p8) (i64 n10)):AW Tryz.prog (f4P 5) (fun ex T' st'=>ex= .normal∧f4L5 T' v0 (pt p3) (pt p4) (pt p5) (pt p8)∧st'=st) T st:=by
 obtain ⟨hn,g0,g3,g4,g5,g7,g8,g10⟩:=hT
 exact genR (f4_5_FF_e v0 p3 p4 p5 p8 n7 n10 st) (kk h1 (kk h2 Ob.ok_nil)) hn (conz g0 (conz g3 (conz g4 (conz g5 (conz g7 (conz g8 (one g10))))))) fun T' q2 q3=>by simp only [gA53,List.cons.injEq,and_true] at q3;exact ⟨rfl,⟨q2,q3⟩,rfl⟩
def f4L6(T:Tm)(a3 a4 a5 a8 a53 a54 a55:AV):Prop:=T.n=269∧T.get 3=a3∧T.get 4=a4∧T.get 5=a5∧T.get 8=a8∧T.get 53=a53∧T.get 54=a54∧T.get 55=a55
abbrev gA54(T:Tm):List AV:= [T.get 3,T.get 4,T.get 5,T.get 8,T.get 53,T.get 54,T.get 55]
theorem f4_6_e(v0:AV)(p3 p4 p5 p8:Nat)(st:St)(n54:Int):evR gA54 [7054] (f4P 6) ⟨269,[(0,v0),(3,(pt p3)),(4,(pt p4)),(5,(pt p5)),(8,(pt p8))],[]⟩ st [.av (i64 n54)]=some (.normal,269,[(pt p3),(pt p4),(pt p5),(pt p8),v0,(i64 n54),(i64 0)],st,[lenA E0 37 v0=some (i64 n54)]):=by kernel_rfl
theorem f4_6{v0:AV}{p3 p4 p5 p8:Nat}{st:St}{n54:Int}(h1:lenA E0 37 v0=some (i64 n54)){T:Tm}(hT:f4L5 T v0 (pt p3) (pt p4) (pt p5) (pt p8)):AW Tryz.prog (f4P 6) (fun ex T' st'=>ex= .normal∧f4L6 T' (pt p3) (pt p4) (pt p5) (pt p8) v0 (i64 n54) (i64 0)∧st'=st) T st:=by
 obtain ⟨hn,g0,g3,g4,g5,g8⟩:=hT
 exact genR (f4_6_e v0 p3 p4 p5 p8 st n54) (kk h1 Ob.ok_nil) hn (conz g0 (conz g3 (conz g4 (conz g5 (one g8))))) fun T' q2 q3=>by simp only [gA54,List.cons.injEq,and_true] at q3;exact ⟨rfl,⟨q2,q3⟩,rfl⟩
def f4L7(T:Tm)(a3 a4 a5 a8 a53 a54 a55 a56:AV):Prop:=T.n=269∧T.get 3=a3∧T.get 4=a4∧T.get 5=a5∧T.get 8=a8∧T.get 53=a53∧T.get 54=a54∧T.get 55=a55∧T.get 56=a56
abbrev gA55(T:Tm):List AV:= [T.get 3,T.get 4,T.get 5,T.get 8,T.get 53,T.get 54,T.get 55,T.get 56]
theorem f4_7_T_e(p3 p4 p5 p8:Nat)(v53:AV)(n54 n55:Int)(st:St):evR gA55 [7056] (f4P 7) ⟨269,[(3,(pt p3)),(4,(pt p4)),(5,(pt p5)),(8,(pt p8)),(53,v53),(54,(i64 n54)),(55,(i64 n55))],[]⟩ st [.av TT]=some (.normal,269,[(pt p3),(pt p4),(pt p5),(pt p8),v53,(i64 n54),(i64 n55),TT],st,[Bt 3 .lss n55 n54 TT]):=by kernel_rfl
theorem f4_7_T{p3 p4 p5 p8:Nat}{v53:AV}{n54 n55:Int}{st:St}(h1:Bt 3 .lss n55 n54 TT){T:Tm}(hT:f4L6 T (pt p3) (pt p4) (pt p5) (pt p8) v53 (i64 n54) (i64 n55)):AW Tryz.prog (f4P 7) (fun ex T' st'=>ex= .normal∧f4L7 T' (pt p3) (pt p4) (pt p5) (pt p8) v53 (i64 n54) (i64 n55) TT∧st'=st) T st:=by
 obtain ⟨hn,g3,g4,g5,g8,g53,g54,g55⟩:=hT
 exact genR (f4_7_T_e p3 p4 p5 p8 v53 n54 n55 st) (kk h1 Ob.ok_nil) hn (conz g3 (conz g4 (conz g5 (conz g8 (conz g53 (conz g54 (one g55))))))) fun T' q2 q3=>by simp only [gA55,List.cons.injEq,and_true] at q3;exact ⟨rfl,⟨q2,q3⟩,rfl⟩
theorem f4_7_F_e(p3 p4 p5 p8:Nat)(v53:AV)(n54 n55:Int)(st:St):evR gA55 [7056] (f4P 7) ⟨269,[(3,(pt p3)),(4,(pt p4)),(5,(pt p5)),(8,(pt p8)),(53,v53),(54,(i64 n54)),(55,(i64 n55))],[]⟩ st [.av FF]=some (.normal,269,[(pt p3),(pt p4),(pt p5),(pt p8),v53,(i64 n54),(i64 n55),FF],st,[Bt 3 .lss n55 n54 FF]):=by kernel_rfl
theorem f4_7_F{p3 p4 p5 p8:Nat}{v53:AV}{n54 n55:Int}{st:St}(h1:Bt 3 .lss n55 n54 FF){T:Tm}(hT:f4L6 T (pt p3) (pt p4) (pt p5) (pt p8) v53 (i64 n54) (i64 n55)):AW Tryz.prog (f4P 7) (fun ex T' st'=>ex= .normal∧f4L7 T' (pt p3) (pt p4) (pt p5) (pt p8) v53 (i64 n54) (i64 n55) FF∧st'=st) T st:=by
 obtain ⟨hn,g3,g4,g5,g8,g53,g54,g55⟩:=hT
 exact genR (f4_7_F_e p3 p4 p5 p8 v53 n54 n55 st) (kk h1 Ob.ok_nil) hn (conz g3 (conz g4 (conz g5 (conz g8 (conz g53 (conz g54 (one g55))))))) fun T' q2 q3=>by simp only [gA55,List.cons.injEq,and_true] at q3;exact ⟨rfl,⟨q2,q3⟩,rfl⟩
theorem f4_8_T_e(p3 p4 p5 p8:Nat)(v53:AV)(n54 n55:Int)(st:St):evR gA54 [] (f4P 8) ⟨269,[(3,(pt p3)),(4,(pt p4)),(5,(pt p5)),(8,(pt p8)),(53,v53),(54,(i64 n54)),(55,(i64 n55)),(56,TT)],[]⟩ st []=some (.normal,269,[(pt p3),(pt p4),(pt p5),(pt p8),v53,(i64 n54),(i64 n55)],st,[]):=by kernel_rfl
theorem f4_8_T{p3 p4 p5 p8:Nat}{v53:AV}{n54 n55:Int}{st:St}{T:Tm}(hT:f4L7 T (pt p3) (pt p4) (pt p5) (pt p8) v53 (i64 n54) (i64 n55) TT):AW Tryz.prog (f4P 8) (fun ex T' st'=>ex= .normal∧f4L6 T' (pt p3) (pt p4) (pt p5) (pt p8) v53 (i64 n54) (i64 n55)∧st'=st) T st:=by
 obtain ⟨hn,g3,g4,g5,g8,g53,g54,g55,g56⟩:=hT
 exact genR (f4_8_T_e p3 p4 p5 p8 v53 n54 n55 st) Ob.ok_nil hn (conz g3 (conz g4 (conz g5 (conz g8 (conz g53 (conz g54 (conz g55 (one g56)))))))) fun T' q2 q3=>by simp only [gA54,List.cons.injEq,and_true] at q3;exact ⟨rfl,⟨q2,q3⟩,rfl⟩
def f4L8(T:Tm):Prop:=T.n=269
theorem f4_8_F_e(p3 p4 p5 p8:Nat)(v53:AV)(n54 n55:Int)(st:St):evR gA8 [] (f4P 8) ⟨269,[(3,(pt p3)),(4,(pt p4)),(5,(pt p5)),(8,(pt p8)),(53,v53),(54,(i64 n54)),(55,(i64 n55)),(56,FF)],[]⟩ st []=some ((.exit 0),269,[],st,[]):=by kernel_rfl
theorem f4_8_F{p3 p4 p5 p8:Nat}{v53:AV}{n54 n55:Int}{st:St}{T:Tm}(hT:f4L7 T (pt p3) (pt p4) (pt p5) (pt p8) v53 (i64 n54) (i64 n55) FF):AW Tryz.prog (f4P 8) (fun ex T' st'=>ex=(.exit 0)∧f4L8 T'∧st'=st) T st:=by
 obtain ⟨hn,g3,g4,g5,g8,g53,g54,g55,g56⟩:=hT
 exact (gen_run (G:=fun T=>([]:List AV)) hE (f4_8_F_e p3 p4 p5 p8 v53 n54 n55 st) Ob.ok_nil hn (conz g3 (conz g4 (conz g5 (conz g8 (conz g53 (conz g54 (conz g55 (one g56))))))))).mono fun ex T' st' ⟨q1,q2,q3,q4⟩=>by exact ⟨q1,q2,q4⟩
def f4L9(T:Tm)(a3 a4 a5 a8 a11 a12 a53 a54 a55:AV):Prop:=T.n=269∧T.get 3=a3∧T.get 4=a4∧T.get 5=a5∧T.get 8=a8∧T.get 11=a11∧T.get 12=a12∧T.get 53=a53∧T.get 54=a54∧T.get 55=a55
abbrev gA56(T:Tm):List AV:= [T.get 3,T.get 4,T.get 5,T.get 8,T.get 11,T.get 12,T.get 53,T.get 54,T.get 55]
abbrev sL37:List Nat:= [2012,2059,5000,7058]
theorem f4_9_e(p3 p4 p5 p8 a12:Nat)(v53 q58 v59:AV)(n54 n55:Int)(st s1 s2:St):evR gA56 sL37 (f4P 9) ⟨269,[(3,(pt p3)),(4,(pt p4)),(5,(pt p5)),(8,(pt p8)),(53,v53),(54,(i64 n54)),(55,(i64 n55))],[]⟩ st [.av q58,.eff v59 id,.eff (pt a12) (fun _=>s1),.eff .undef (fun _=>s2)]=some (.normal,269,[(pt p3),(pt p4),(pt p5),(pt p8),(i64 n55),(pt a12),v53,(i64 n54),(i64 n55)],s2,[indexAddrA E0 37 v53 (i64 n55)=some q58,loadA E0 st 52 q58=some v59∧st=st,allocA E0 st 52=some ((pt a12),s1),storeA E0 s1 52 (pt a12) v59=some s2]):=by kernel_rfl
theorem f4_9{p3 p4 p5 p8 a12:Nat}{v53 q58 v59:AV}{n54 n55:Int}{st s1 s2:St}(h1:indexAddrA E0 37 v53 (i64 n55)=some q58)(h2:loadA E0 st 52 q58=some v59)(h3:allocA E0 st 52=some ((pt a12),s1))(h4:storeA E0 s1 52 (pt a12) v59=some s2){T:Tm}(hT:f4L6 T (pt p3) (pt p4) (pt p5) (pt p8) v53 (i64 n54) (i64 n55)):AW Tryz.prog (f4P 9) (fun ex T' st'=>ex= .normal∧f4L9 T' (pt p3) (pt p4) (pt p5) (pt p8) (i64 n55) (pt a12) v53 (i64 n54) (i64 n55)∧st'=s2) T st:=by
 obtain ⟨hn,g3,g4,g5,g8,g53,g54,g55⟩:=hT
 exact genR (f4_9_e p3 p4 p5 p8 a12 v53 q58 v59 n54 n55 st s1 s2) (kk h1 (kk ⟨h2,rfl⟩ (kk h3 (kk h4 Ob.ok_nil)))) hn (conz g3 (conz g4 (conz g5 (conz g8 (conz g53 (conz g54 (one g55))))))) fun T' q2 q3=>by simp only [gA56,List.cons.injEq,and_true] at q3;exact ⟨rfl,⟨q2,q3⟩,rfl⟩
theorem f4_10_T_e(p3 p4 p5 p8 p12:Nat)(n11 n54 n55:Int)(v53:AV)(st:St):evR gA8 [7061] (f4P 10) ⟨269,[(3,(pt p3)),(4,(pt p4)),(5,(pt p5)),(8,(pt p8)),(11,(i64 n11)),(12,(pt p12)),(53,v53),(54,(i64 n54)),(55,(i64 n55))],[]⟩ st [.av TT]=some ((.exit 0),269,[],st,[Bt 3 .eql n11 60 TT]):=by kernel_rfl
theorem f4_10_T{p3 p4 p5 p8 p12:Nat}{n11 n54 n55:Int}{v53:AV}{st:St}(h1:Bt 3 .eql n11 60 TT){T:Tm}(hT:f4L9 T (pt p3) (pt p4) (pt p5) (pt p8) (i64 n11) (pt p12) v53 (i64 n54) (i64 n55)):AW Tryz.prog (f4P 10) (fun ex T' st'=>ex=(.exit 0)∧f4L8 T'∧st'=st) T st:=by
 obtain ⟨hn,g3,g4,g5,g8,g11,g12,g53,g54,g55⟩:=hT
 exact (gen_run (G:=fun T=>([]:List AV)) hE (f4_10_T_e p3 p4 p5 p8 p12 n11 n54 n55 v53 st) (kk h1 Ob.ok_nil) hn (conz g3 (conz g4 (conz g5 (conz g8 (conz g11 (conz g12 (conz g53 (conz g54 (one g55)))))))))).mono fun ex T' st' ⟨q1,q2,q3,q4⟩=>by exact ⟨q1,q2,q4⟩
def f4L10(T:Tm)(a3 a4 a5 a8 a12 a53 a54 a55:AV):Prop:=T.n=269∧T.get 3=a3∧T.get 4=a4∧T.get 5=a5∧T.get 8=a8∧T.get 12=a12∧T.get 53=a53∧T.get 54=a54∧T.get 55=a55
abbrev gA57(T:Tm):List AV:= [T.get 3,T.get 4,T.get 5,T.get 8,T.get 12,T.get 53,T.get 54,T.get 55]
theorem f4_10_F_e(p3 p4 p5 p8 p12:Nat)(n11 n54 n55:Int)(v53:AV)(st:St):evR gA57 [7061] (f4P 10) ⟨269,[(3,(pt p3)),(4,(pt p4)),(5,(pt p5)),(8,(pt p8)),(11,(i64 n11)),(12,(pt p12)),(53,v53),(54,(i64 n54)),(55,(i64 n55))],[]⟩ st [.av FF]=some (.normal,269,[(pt p3),(pt p4),(pt p5),(pt p8),(pt p12),v53,(i64 n54),(i64 n55)],st,[Bt 3 .eql n11 60 FF]):=by kernel_rfl
theorem f4_10_F{p3 p4 p5 p8 p12:Nat}{n11 n54 n55:Int}{v53:AV}{st:St}(h1:Bt 3 .eql n11 60 FF){T:Tm}(hT:f4L9 T (pt p3) (pt p4) (pt p5) (pt p8) (i64 n11) (pt p12) v53 (i64 n54) (i64 n55)):AW Tryz.prog (f4P 10) (fun ex T' st'=>ex= .normal∧f4L10 T' (pt p3) (pt p4) (pt p5) (pt p8) (pt p12) v53 (i64 n54) (i64 n55)∧st'=st) T st:=by
 obtain ⟨hn,g3,g4,g5,g8,g11,g12,g53,g54,g55⟩:=hT
 exact genR (f4_10_F_e p3 p4 p5 p8 p12 n11 n54 n55 v53 st) (kk h1 Ob.ok_nil) hn (conz g3 (conz g4 (conz g5 (conz g8 (conz g11 (conz g12 (conz g53 (conz g54 (one g55))))))))) fun T' q2 q3=>by simp only [gA57,List.cons.injEq,and_true] at q3;exact ⟨rfl,⟨q2,q3⟩,rfl⟩
def f4L11(T:Tm)(a3 a4 a5 a8 a12 a13 a14 a53 a54 a55:AV):Prop:=T.n=269∧T.get 3=a3∧T.get 4=a4∧T.get 5=a5∧T.get 8=a8∧T.get 12=a12∧T.get 13=a13∧T.get 14=a14∧T.get 53=a53∧T.get 54=a54∧T.get 55=a55
abbrev gA58(T:Tm):List AV:= [T.get 3,T.get 4,T.get 5,T.get 8,T.get 12,T.get 13,T.get 14,T.get 53,T.get 54,T.get 55]
theorem f4_11_e(p3 p4 p5 p8 p12:Nat)(v53:AV)(n54 n55:Int)(st:St):evR gA58 [] (f4P 11) ⟨269,[(3,(pt p3)),(4,(pt p4)),(5,(pt p5)),(8,(pt p8)),(12,(pt p12)),(53,v53),(54,(i64 n54)),(55,(i64 n55))],[]⟩ st []=some (.normal,269,[(pt p3),(pt p4),(pt p5),(pt p8),(pt p12),(i64 0),(i64 0),v53,(i64 n54),(i64 n55)],st,[]):=by kernel_rfl
theorem f4_11{p3 p4 p5 p8 p12:Nat}{v53:AV}{n54 n55:Int}{st:St}{T:Tm}(hT:f4L10 T (pt p3) (pt p4) (pt p5) (pt p8) (pt p12) v53 (i64 n54) (i64 n55)):AW Tryz.prog (f4P 11) (fun ex T' st'=>ex= .normal∧f4L11 T' (pt p3) (pt p4) (pt p5) (pt p8) (pt p12) (i64 0) (i64 0) v53 (i64 n54) (i64 n55)∧st'=st) T st:=by
 obtain ⟨hn,g3,g4,g5,g8,g12,g53,g54,g55⟩:=hT
 exact genR (f4_11_e p3 p4 p5 p8 p12 v53 n54 n55 st) Ob.ok_nil hn (conz g3 (conz g4 (conz g5 (conz g8 (conz g12 (conz g53 (conz g54 (one g55)))))))) fun T' q2 q3=>by simp only [gA58,List.cons.injEq,and_true] at q3;exact ⟨rfl,⟨q2,q3⟩,rfl⟩
def f4L12(T:Tm)(a3 a4 a5 a8 a12 a13 a14 a53 a54 a55 a63:AV):Prop:=T.n=269∧T.get 3=a3∧T.get 4=a4∧T.get 5=a5∧T.get 8=a8∧T.get 12=a12∧T.get 13=a13∧T.get 14=a14∧T.get 53=a53∧T.get 54=a54∧T.get 55=a55∧T.get 63=a63
abbrev gA59(T:Tm):List AV:= [T.get 3,T.get 4,T.get 5,T.get 8,T.get 12,T.get 13,T.get 14,T.get 53,T.get 54,T.get 55,T.get 63]
theorem f4_12_e(p3 p4 p5 p8 p12:Nat)(n13 n14 n54 n55 n63:Int)(v53:AV)(st:St):evR gA59 [2063] (f4P 12) ⟨269,[(3,(pt p3)),(4,(pt p4)),(5,(pt p5)),(8,(pt p8)),(12,(pt p12)),(13,(i64 n13)),(14,(i64 n14)),(53,v53),(54,(i64 n54)),(55,(i64 n55))],[]⟩ st [.eff (i64 n63) id]=some (.normal,269,[(pt p3),(pt p4),(pt p5),(pt p8),(pt p12),(i64 n13),(i64 n14),v53,(i64 n54),(i64 n55),(i64 n63)],st,[LI st p12 0 n63∧st=st]):=by kernel_rfl
theorem f4_12{p3 p4 p5 p8 p12:Nat}{n13 n14 n54 n55 n63:Int}{v53:AV}{st:St}(h1:LI st p12 0 n63){T:Tm}(hT:f4L11 T (pt p3) (pt p4) (pt p5) (pt p8) (pt p12) (i64 n13) (i64 n14) v53 (i64 n54) (i64 n55)):AW Tryz.prog (f4P 12) (fun ex T' st'=>ex= .normal∧f4L12 T' (pt p3) (pt p4) (pt p5) (pt p8) (pt p12) (i64 n13) (i64 n14) v53 (i64 n54) (i64 n55) (i64 n63)∧st'=st) T st:=by
 obtain ⟨hn,g3,g4,g5,g8,g12,g13,g14,g53,g54,g55⟩:=hT
 exact genR (f4_12_e p3 p4 p5 p8 p12 n13 n14 n54 n55 n63 v53 st) (kk ⟨h1,rfl⟩ Ob.ok_nil) hn (conz g3 (conz g4 (conz g5 (conz g8 (conz g12 (conz g13 (conz g14 (conz g53 (conz g54 (one g55)))))))))) fun T' q2 q3=>by simp only [gA59,List.cons.injEq,and_true] at q3;exact ⟨rfl,⟨q2,q3⟩,rfl⟩
def f4L13(T:Tm)(a3 a4 a5 a8 a12 a13 a14 a53 a54 a55 a63 a64:AV):Prop:=T.n=269∧T.get 3=a3∧T.get 4=a4∧T.get 5=a5∧T.get 8=a8∧T.get 12=a12∧T.get 13=a13∧T.get 14=a14∧T.get 53=a53∧T.get 54=a54∧T.get 55=a55∧T.get 63=a63∧T.get 64=a64
abbrev gA60(T:Tm):List AV:= [T.get 3,T.get 4,T.get 5,T.get 8,T.get 12,T.get 13,T.get 14,T.get 53,T.get 54,T.get 55,T.get 63,T.get 64]
theorem f4_13_T_e(p3 p4 p5 p8 p12:Nat)(n13 n14 n54 n55 n63:Int)(v53:AV)(st:St):evR gA60 [7065,7066] (f4P 13) ⟨269,[(3,(pt p3)),(4,(pt p4)),(5,(pt p5)),(8,(pt p8)),(12,(pt p12)),(13,(i64 n13)),(14,(i64 n14)),(53,v53),(54,(i64 n54)),(55,(i64 n55)),(63,(i64 n63))],[]⟩ st [.av TT]=some (.normal,269,[(pt p3),(pt p4),(pt p5),(pt p8),(pt p12),(i64 n13),(i64 n14),v53,(i64 n54),(i64 n55),(i64 n63),TT],st,[Bt 3 .eql n63 0 TT]):=by kernel_rfl
theorem f4_13_T{p3 p4 p5 p8 p12:Nat}{n13 n14 n54 n55 n63:Int}{v53:AV}{st:St}(h1:Bt 3 .eql n63 0 TT){T:Tm}(hT:f4L12 T (pt p3) (pt p4) (pt p5) (pt p8) (pt p12) (i64 n13) (i64 n14) v53 (i64 n54) (i64 n55) (i64 n63)):AW Tryz.prog (f4P 13) (fun ex T' st'=>ex= .normal∧f4L13 T' (pt p3) (pt p4) (pt p5) (pt p8) (pt p12) (i64 n13) (i64 n14) v53 (i64 n54) (i64 n55) (i64 n63) TT∧st'=st) T st:=by
 obtain ⟨hn,g3,g4,g5,g8,g12,g13,g14,g53,g54,g55,g63⟩:=hT
 exact genR (f4_13_T_e p3 p4 p5 p8 p12 n13 n14 n54 n55 n63 v53 st) (kk h1 Ob.ok_nil) hn (conz g3 (conz g4 (conz g5 (conz g8 (conz g12 (conz g13 (conz g14 (conz g53 (conz g54 (conz g55 (one g63))))))))))) fun T' q2 q3=>by simp only [gA60,List.cons.injEq,and_true] at q3;exact ⟨rfl,⟨q2,q3⟩,rfl⟩
theorem f4_13_FT_e(p3 p4 p5 p8 p12:Nat)(n13 n14 n54 n55 n63:Int)(v53:AV)(st:St):evR gA60 [7065,7066] (f4P 13) ⟨269,[(3,(pt p3)),(4,(pt p4)),(5,(pt p5)),(8,(pt p8)),(12,(pt p12)),(13,(i64 n13)),(14,(i64 n14)),(53,v53),(54,(i64 n54)),(55,(i64 n55)),(63,(i64 n63))],[]⟩ st [.av FF,.av TT]=some (.normal,269,[(pt p3),(pt p4),(pt p5),(pt p8),(pt p12),(i64 n13),(i64 n14),v53,(i64 n54),(i64 n55),(i64 n63),TT],st,[Bt 3 .eql n63 0 FF,Bt 3 .eql n63 8 TT]):=by kernel_rfl
theorem f4_13_FT{p3 p4 p5 p8 p12:Nat}{n13 n14 n54 n55 n63:Int}{v53:AV}{st:St}(h1:Bt 3 .eql n63 0 FF)(h2:Bt 3 .eql n63 8 TT){T:Tm}(hT:f4L12 T (pt p3) (pt p4) (pt p5) (pt p8) (pt p12) (i64 n13) (i64 n14) v53 (i64 n54) (i64 n55) (i64 n63)):AW Tryz.prog (f4P 13) (fun ex T' st'=>ex= .normal∧f4L13 T' (pt p3) (pt p4) (pt p5) (pt p8) (pt p12) (i64 n13) (i64 n14) v53 (i64 n54) (i64 n55) (i64 n63) TT∧st'=st) T st:=by
 obtain ⟨hn,g3,g4,g5,g8,g12,g13,g14,g53,g54,g55,g63⟩:=hT
 exact genR (f4_13_FT_e p3 p4 p5 p8 p12 n13 n14 n54 n55 n63 v53 st) (kk h1 (kk h2 Ob.ok_nil)) hn (conz g3 (conz g4 (conz g5 (conz g8 (conz g12 (conz g13 (conz g14 (conz g53 (conz g54 (conz g55 (one g63))))))))))) fun T' q2 q3=>by simp only [gA60,List.cons.injEq,and_true] at q3;exact ⟨rfl,⟨q2,q3⟩,rfl⟩
theorem f4_13_FF_e(p3 p4 p5 p8 p12:Nat)(n13 n14 n54 n55 n63:Int)(v53:AV)(st:St):evR gA60 [7065,7066] (f4P 13) ⟨269,[(3,(pt p3)),(4,(pt p4)),(5,(pt p5)),(8,(pt p8)),(12,(pt p12)),(13,(i64 n13)),(14,(i64 n14)),(53,v53),(54,(i64 n54)),(55,(i64 n55)),(63,(i64 n63))],[]⟩ st [.av FF,.av FF]=some (.normal,269,[(pt p3),(pt p4),(pt p5),(pt p8),(pt p12),(i64 n13),(i64 n14),v53,(i64 n54),(i64 n55),(i64 n63),FF],st,[Bt 3 .eql n63 0 FF,Bt 3 .eql n63 8 FF]):=by kernel_rfl
theorem f4_13_FF{p3 p4 p5 p8 p12:Nat}{n13 n14 n54 n55 n63:Int}{v53:AV}{st:St}(h1:Bt 3 .eql n63 0 FF)(h2:Bt 3 .eql n63 8 FF){T:Tm}(hT:f4L12 T (pt p3) (pt p4) (pt p5) (pt p8) (pt p12) (i64 n13) (i64 n14) v53 (i64 n54) (i64 n55) (i64 n63)):AW Tryz.prog (f4P 13) (fun ex T' st'=>ex= .normal∧f4L13 T' (pt p3) (pt p4) (pt p5) (pt p8) (pt p12) (i64 n13) (i64 n14) v53 (i64 n54) (i64 n55) (i64 n63) FF∧st'=st) T st:=by
 obtain ⟨hn,g3,g4,g5,g8,g12,g13,g14,g53,g54,g55,g63⟩:=hT
 exact genR (f4_13_FF_e p3 p4 p5 p8 p12 n13 n14 n54 n55 n63 v53 st) (kk h1 (kk h2 Ob.ok_nil)) hn (conz g3 (conz g4 (conz g5 (conz g8 (conz g12 (conz g13 (conz g14 (conz g53 (conz g54 (conz g55 (one g63))))))))))) fun T' q2 q3=>by simp only [gA60,List.cons.injEq,and_true] at q3;exact ⟨rfl,⟨q2,q3⟩,rfl⟩
def f4L14(T:Tm)(a3 a4 a5 a8 a12 a13 a14 a15 a53 a54 a55:AV):Prop:=T.n=269∧T.get 3=a3∧T.get 4=a4∧T.get 5=a5∧T.get 8=a8∧T.get 12=a12∧T.get 13=a13∧T.get 14=a14∧T.get 15=a15∧T.get 53=a53∧T.get 54=a54∧T.get 55=a55
abbrev gA61(T:Tm):List AV:= [T.get 3,T.get 4,T.get 5,T.get 8,T.get 12,T.get 13,T.get 14,T.get 15,T.get 53,T.get 54,T.get 55]
theorem f4_14_e(p3 p4 p5 p8 p12:Nat)(n13 n14 n54 n55:Int)(v53:AV)(st:St):evR gA61 [] (f4P 14) ⟨269,[(3,(pt p3)),(4,(pt p4)),(5,(pt p5)),(8,(pt p8)),(12,(pt p12)),(13,(i64 n13)),(14,(i64 n14)),(53,v53),(54,(i64 n54)),(55,(i64 n55))],[]⟩ st []=some (.normal,269,[(pt p3),(pt p4),(pt p5),(pt p8),(pt p12),(i64 n13),(i64 n14),(i64 1),v53,(i64 n54),(i64 n55)],st,[]):=by kernel_rfl
theorem f4_14{p3 p4 p5 p8 p12:Nat}{n13 n14 n54 n55:Int}{v53:AV}{st:St}{T:Tm}(hT:f4L11 T (pt p3) (pt p4) (pt p5) (pt p8) (pt p12) (i64 n13) (i64 n14) v53 (i64 n54) (i64 n55)):AW Tryz.prog (f4P 14) (fun ex T' st'=>ex= .normal∧f4L14 T' (pt p3) (pt p4) (pt p5) (pt p8) (pt p12) (i64 n13) (i64 n14) (i64 1) v53 (i64 n54) (i64 n55)∧st'=st) T st:=by
 obtain ⟨hn,g3,g4,g5,g8,g12,g13,g14,g53,g54,g55⟩:=hT
 exact genR (f4_14_e p3 p4 p5 p8 p12 n13 n14 n54 n55 v53 st) Ob.ok_nil hn (conz g3 (conz g4 (conz g5 (conz g8 (conz g12 (conz g13 (conz g14 (conz g53 (conz g54 (one g55)))))))))) fun T' q2 q3=>by simp only [gA61,List.cons.injEq,and_true] at q3;exact ⟨rfl,⟨q2,q3⟩,rfl⟩
abbrev sL38:List Nat:= [2068,2071,2072,2074,7069,7073]
theorem f4_15_T_e(p3 p4 p5 p8 p12:Nat)(n13 n14 n15 n54 n55 n68 n71 n72 n73 n74:Int)(v53:AV)(st:St):evR gA61 sL38 (f4P 15) ⟨269,[(3,(pt p3)),(4,(pt p4)),(5,(pt p5)),(8,(pt p8)),(12,(pt p12)),(13,(i64 n13)),(14,(i64 n14)),(15,(i64 n15)),(53,v53),(54,(i64 n54)),(55,(i64 n55))],[]⟩ st [.eff (i64 n68) id,.av TT,.eff (i64 n71) id,.eff (u64 n72) id,.av (u64 n73),.eff (i64 n74) id]=some (.normal,269,[(pt p3),(pt p4),(pt p5),(pt p8),(pt p12),(i64 n13),(i64 n14),(i64 n74),v53,(i64 n54),(i64 n55)],st,[LI st p12 0 n68∧st=st,Bt 3 .eql n68 8 TT,LI st p12 1 n71∧st=st,convO E0 st 3 53 (i64 n71)=some ((u64 n72),st),binA E0 .rem 53 (u64 n72) (u64 20)=some (u64 n73),convO E0 st 53 3 (u64 n73)=some ((i64 n74),st)]):=by kernel_rfl
theorem f4_15_T{p3 p4 p5 p8 p12:Nat}{n13 n14 n15 n54 n55 n68 n71 n72 n73 n74:Int}{v53:AV}{st:St}(h1:LI st p12 0 n68)(h2:Bt 3 .eql n68 8 TT)(h3:LI st p12 1 n71)(h4:convO E0 st 3 53 (i64 n71)=some ((u64 n72),st))(h5:binA E0 .rem 53 (u64 n72) (u64 20)=some (u64 n73))(h6:convO E0 st 53 3 (u64 n73)=some ((i64 n74),st)){T:Tm}(hT:f4L14 T (pt p3) (pt p4) (pt p5) (pt p8) (pt p12) (i64 n13) (i64 n14) (i64 n15) v53 (i64 n54) (i64 n55)):AW Tryz.prog (f4P 15) (fun ex T' st'=>ex= .normal∧f4L14 T' (pt p3) (pt p4) (pt p5) (pt p8) (pt p12) (i64 n13) (i64 n14) (i64 n74) v53 (i64 n54) (i64 n55)∧st'=st) T st:=by
 obtain ⟨hn,g3,g4,g5,g8,g12,g13,g14,g15,g53,g54,g55⟩:=hT
 exact genR (f4_15_T_e p3 p4 p5 p8 p12 n13 n14 n15 n54 n55 n68 n71 n72 n73 n74 v53 st) (kk ⟨h1,rfl⟩ (kk h2 (kk ⟨h3,rfl⟩ (kk h4 (kk h5 (kk h6 Ob.ok_nil)))))) hn (conz g3 (conz g4 (conz g5 (conz g8 (conz g12 (conz g13 (conz g14 (conz g15 (conz g53 (conz g54 (one g55))))))))))) fun T' q2 q3=>by simp only [gA61,List.cons.injEq,and_true] at q3;exact ⟨rfl,⟨q2,q3⟩,rfl⟩
theorem f4_15_F_e(p3 p4 p5 p8 p12:Nat)(n13 n14 n15 n54 n55 n68:Int)(v53:AV)(st:St):evR gA61 sL38 (f4P 15) ⟨269,[(3,(pt p3)),(4,(pt p4)),(5,(pt p5)),(8,(pt p8)),(12,(pt p12)),(13,(i64 n13)),(14,(i64 n14)),(15,(i64 n15)),(53,v53),(54,(i64 n54)),(55,(i64 n55))],[]⟩ st [.eff (i64 n68) id,.av FF]=some (.normal,269,[(pt p3),(pt p4),(pt p5),(pt p8),(pt p12),(i64 n13),(i64 n14),(i64 n15),v53,(i64 n54),(i64 n55)],st,[LI st p12 0 n68∧st=st,Bt 3 .eql n68 8 FF]):=by kernel_rfl
theorem f4_15_F{p3 p4 p5 p8 p12:Nat}{n13 n14 n15 n54 n55 n68:Int}{v53:AV}{st:St}(h1:LI st p12 0 n68)(h2:Bt 3 .eql n68 8 FF){T:Tm}(hT:f4L14 T (pt p3) (pt p4) (pt p5) (pt p8) (pt p12) (i64 n13) (i64 n14) (i64 n15) v53 (i64 n54) (i64 n55)):AW Tryz.prog (f4P 15) (fun ex T' st'=>ex= .normal∧f4L14 T' (pt p3) (pt p4) (pt p5) (pt p8) (pt p12) (i64 n13) (i64 n14) (i64 n15) v53 (i64 n54) (i64 n55)∧st'=st) T st:=by
 obtain ⟨hn,g3,g4,g5,g8,g12,g13,g14,g15,g53,g54,g55⟩:=hT
 exact genR (f4_15_F_e p3 p4 p5 p8 p12 n13 n14 n15 n54 n55 n68 v53 st) (kk ⟨h1,rfl⟩ (kk h2 Ob.ok_nil)) hn (conz g3 (conz g4 (conz g5 (conz g8 (conz g12 (conz g13 (conz g14 (conz g15 (conz g53 (conz g54 (one g55))))))))))) fun T' q2 q3=>by simp only [gA61,List.cons.injEq,and_true] at q3;exact ⟨rfl,⟨q2,q3⟩,rfl⟩
def f4L15(T:Tm)(a3 a4 a5 a8 a12 a13 a14 a53 a54 a55 a75 a76:AV):Prop:=T.n=269∧T.get 3=a3∧T.get 4=a4∧T.get 5=a5∧T.get 8=a8∧T.get 12=a12∧T.get 13=a13∧T.get 14=a14∧T.get 53=a53∧T.get 54=a54∧T.get 55=a55∧T.get 75=a75∧T.get 76=a76
abbrev gA62(T:Tm):List AV:= [T.get 3,T.get 4,T.get 5,T.get 8,T.get 12,T.get 13,T.get 14,T.get 53,T.get 54,T.get 55,T.get 75,T.get 76]
theorem f4_16_e(p3 p4 p5 p8 p12:Nat)(n13 n14 n15 n54 n55:Int)(v53:AV)(st:St):evR gA62 [] (f4P 16) ⟨269,[(3,(pt p3)),(4,(pt p4)),(5,(pt p5)),(8,(pt p8)),(12,(pt p12)),(13,(i64 n13)),(14,(i64 n14)),(15,(i64 n15)),(53,v53),(54,(i64 n54)),(55,(i64 n55))],[]⟩ st []=some (.normal,269,[(pt p3),(pt p4),(pt p5),(pt p8),(pt p12),(i64 n13),(i64 n14),v53,(i64 n54),(i64 n55),(i64 n15),(i64 0)],st,[]):=by kernel_rfl
theorem f4_16{p3 p4 p5 p8 p12:Nat}{n13 n14 n15 n54 n55:Int}{v53:AV}{st:St}{T:Tm}(hT:f4L14 T (pt p3) (pt p4) (pt p5) (pt p8) (pt p12) (i64 n13) (i64 n14) (i64 n15) v53 (i64 n54) (i64 n55)):AW Tryz.prog (f4P 16) (fun ex T' st'=>ex= .normal∧f4L15 T' (pt p3) (pt p4) (pt p5) (pt p8) (pt p12) (i64 n13) (i64 n14) v53 (i64 n54) (i64 n55) (i64 n15) (i64 0)∧st'=st) T st:=by
 obtain ⟨hn,g3,g4,g5,g8,g12,g13,g14,g15,g53,g54,g55⟩:=hT
 exact genR (f4_16_e p3 p4 p5 p8 p12 n13 n14 n15 n54 n55 v53 st) Ob.ok_nil hn (conz g3 (conz g4 (conz g5 (conz g8 (conz g12 (conz g13 (conz g14 (conz g15 (conz g53 (conz g54 (one g55))))))))))) fun T' q2 q3=>by simp only [gA62,List.cons.injEq,and_true] at q3;exact ⟨rfl,⟨q2,q3⟩,rfl⟩
def f4L16(T:Tm)(a3 a4 a5 a8 a12 a13 a14 a53 a54 a55 a75 a76 a77:AV):Prop:=T.n=269∧T.get 3=a3∧T.get 4=a4∧T.get 5=a5∧T.get 8=a8∧T.get 12=a12∧T.get 13=a13∧T.get 14=a14∧T.get 53=a53∧T.get 54=a54∧T.get 55=a55∧T.get 75=a75∧T.get 76=a76∧T.get 77=a77
abbrev gA63(T:Tm):List AV:= [T.get 3,T.get 4,T.get 5,T.get 8,T.get 12,T.get 13,T.get 14,T.get 53,T.get 54,T.get 55,T.get 75,T.get 76,T.get 77]
theorem f4_17_T_e(p3 p4 p5 p8 p12:Nat)(n13 n14 n54 n55 n75 n76:Int)(v53:AV)(st:St):evR gA63 [7077] (f4P 17) ⟨269,[(3,(pt p3)),(4,(pt p4)),(5,(pt p5)),(8,(pt p8)),(12,(pt p12)),(13,(i64 n13)),(14,(i64 n14)),(53,v53),(54,(i64 n54)),(55,(i64 n55)),(75,(i64 n75)),(76,(i64 n76))],[]⟩ st [.av TT]=some (.normal,269,[(pt p3),(pt p4),(pt p5),(pt p8),(pt p12),(i64 n13),(i64 n14),v53,(i64 n54),(i64 n55),(i64 n75),(i64 n76),TT],st,[Bt 3 .lss n76 n75 TT]):=by kernel_rfl
theorem f4_17_T{p3 p4 p5 p8 p12:Nat}{n13 n14 n54 n55 n75 n76:Int}{v53:AV}{st:St}(h1:Bt 3 .lss n76 n75 TT){T:Tm}(hT:f4L15 T (pt p3) (pt p4) (pt p5) (pt p8) (pt p12) (i64 n13) (i64 n14) v53 (i64 n54) (i64 n55) (i64 n75) (i64 n76)):AW Tryz.prog (f4P 17) (fun ex T' st'=>ex= .normal∧f4L16 T' (pt p3) (pt p4) (pt p5) (pt p8) (pt p12) (i64 n13) (i64 n14) v53 (i64 n54) (i64 n55) (i64 n75) (i64 n76) TT∧st'=st) T st:=by
 obtain ⟨hn,g3,g4,g5,g8,g12,g13,g14,g53,g54,g55,g75,g76⟩:=hT
 exact genR (f4_17_T_e p3 p4 p5 p8 p12 n13 n14 n54 n55 n75 n76 v53 st) (kk h1 Ob.ok_nil) hn (conz g3 (conz g4 (conz g5 (conz g8 (conz g12 (conz g13 (conz g14 (conz g53 (conz g54 (conz g55 (conz g75 (one g76)))))))))))) fun T' q2 q3=>by simp only [gA63,List.cons.injEq,and_true] at q3;exact ⟨rfl,⟨q2,q3⟩,rfl⟩
theorem f4_17_F_e(p3 p4 p5 p8 p12:Nat)(n13 n14 n54 n55 n75 n76:Int)(v53:AV)(st:St):evR gA63 [7077] (f4P 17) ⟨269,[(3,(pt p3)),(4,(pt p4)),(5,(pt p5)),(8,(pt p8)),(12,(pt p12)),(13,(i64 n13)),(14,(i64 n14)),(53,v53),(54,(i64 n54)),(55,(i64 n55)),(75,(i64 n75)),(76,(i64 n76))],[]⟩ st [.av FF]=some (.normal,269,[(pt p3),(pt p4),(pt p5),(pt p8),(pt p12),(i64 n13),(i64 n14),v53,(i64 n54),(i64 n55),(i64 n75),(i64 n76),FF],st,[Bt 3 .lss n76 n75 FF]):=by kernel_rfl
theorem f4_17_F{p3 p4 p5 p8 p12:Nat}{n13 n14 n54 n55 n75 n76:Int}{v53:AV}{st:St}(h1:Bt 3 .lss n76 n75 FF){T:Tm}(hT:f4L15 T (pt p3) (pt p4) (pt p5) (pt p8) (pt p12) (i64 n13) (i64 n14) v53 (i64 n54) (i64 n55) (i64 n75) (i64 n76)):AW Tryz.prog (f4P 17) (fun ex T' st'=>ex= .normal∧f4L16 T' (pt p3) (pt p4) (pt p5) (pt p8) (pt p12) (i64 n13) (i64 n14) v53 (i64 n54) (i64 n55) (i64 n75) (i64 n76) FF∧st'=st) T st:=by
 obtain ⟨hn,g3,g4,g5,g8,g12,g13,g14,g53,g54,g55,g75,g76⟩:=hT
 exact genR (f4_17_F_e p3 p4 p5 p8 p12 n13 n14 n54 n55 n75 n76 v53 st) (kk h1 Ob.ok_nil) hn (conz g3 (conz g4 (conz g5 (conz g8 (conz g12 (conz g13 (conz g14 (conz g53 (conz g54 (conz g55 (conz g75 (one g76)))))))))))) fun T' q2 q3=>by simp only [gA63,List.cons.injEq,and_true] at q3;exact ⟨rfl,⟨q2,q3⟩,rfl⟩
def f4L17(T:Tm)(a3 a4 a5 a8 a12 a53 a54 a55 a75 a76:AV):Prop:=T.n=269∧T.get 3=a3∧T.get 4=a4∧T.get 5=a5∧T.get 8=a8∧T.get 12=a12∧T.get 53=a53∧T.get 54=a54∧T.get 55=a55∧T.get 75=a75∧T.get 76=a76
abbrev gA64(T:Tm):List AV:= [T.get 3,T.get 4,T.get 5,T.get 8,T.get 12,T.get 53,T.get 54,T.get 55,T.get 75,T.get 76]
theorem f4_18_T_e(p3 p4 p5 p8 p12:Nat)(n13 n14 n54 n55 n75 n76:Int)(v53:AV)(st:St):evR gA64 [] (f4P 18) ⟨269,[(3,(pt p3)),(4,(pt p4)),(5,(pt p5)),(8,(pt p8)),(12,(pt p12)),(13,(i64 n13)),(14,(i64 n14)),(53,v53),(54,(i64 n54)),(55,(i64 n55)),(75,(i64 n75)),(76,(i64 n76)),(77,TT)],[]⟩ st []=some (.normal,269,[(pt p3),(pt p4),(pt p5),(pt p8),(pt p12),v53,(i64 n54),(i64 n55),(i64 n75),(i64 n76)],st,[]):=by kernel_rfl
theorem f4_18_T{p3 p4 p5 p8 p12:Nat}{n13 n14 n54 n55 n75 n76:Int}{v53:AV}{st:St}{T:Tm}(hT:f4L16 T (pt p3) (pt p4) (pt p5) (pt p8) (pt p12) (i64 n13) (i64 n14) v53 (i64 n54) (i64 n55) (i64 n75) (i64 n76) TT):AW Tryz.prog (f4P 18) (fun ex T' st'=>ex= .normal∧f4L17 T' (pt p3) (pt p4) (pt p5) (pt p8) (pt p12) v53 (i64 n54) (i64 n55) (i64 n75) (i64 n76)∧st'=st) T st:=by
 obtain ⟨hn,g3,g4,g5,g8,g12,g13,g14,g53,g54,g55,g75,g76,g77⟩:=hT
 exact genR (f4_18_T_e p3 p4 p5 p8 p12 n13 n14 n54 n55 n75 n76 v53 st) Ob.ok_nil hn (conz g3 (conz g4 (conz g5 (conz g8 (conz g12 (conz g13 (conz g14 (conz g53 (conz g54 (conz g55 (conz g75 (conz g76 (one g77))))))))))))) fun T' q2 q3=>by simp only [gA64,List.cons.injEq,and_true] at q3;exact ⟨rfl,⟨q2,q3⟩,rfl⟩
theorem f4_18_F_e(p3 p4 p5 p8 p12:Nat)(n13 n14 n54 n55 n75 n76:Int)(v53:AV)(st:St):evR gA58 [] (f4P 18) ⟨269,[(3,(pt p3)),(4,(pt p4)),(5,(pt p5)),(8,(pt p8)),(12,(pt p12)),(13,(i64 n13)),(14,(i64 n14)),(53,v53),(54,(i64 n54)),(55,(i64 n55)),(75,(i64 n75)),(76,(i64 n76)),(77,FF)],[]⟩ st []=some ((.exit 3),269,[(pt p3),(pt p4),(pt p5),(pt p8),(pt p12),(i64 n13),(i64 n14),v53,(i64 n54),(i64 n55)],st,[]):=by kernel_rfl
theorem f4_18_F{p3 p4 p5 p8 p12:Nat}{n13 n14 n54 n55 n75 n76:Int}{v53:AV}{st:St}{T:Tm}(hT:f4L16 T (pt p3) (pt p4) (pt p5) (pt p8) (pt p12) (i64 n13) (i64 n14) v53 (i64 n54) (i64 n55) (i64 n75) (i64 n76) FF):AW Tryz.prog (f4P 18) (fun ex T' st'=>ex=(.exit 3)∧f4L11 T' (pt p3) (pt p4) (pt p5) (pt p8) (pt p12) (i64 n13) (i64 n14) v53 (i64 n54) (i64 n55)∧st'=st) T st:=by
 obtain ⟨hn,g3,g4,g5,g8,g12,g13,g14,g53,g54,g55,g75,g76,g77⟩:=hT
 exact genR (f4_18_F_e p3 p4 p5 p8 p12 n13 n14 n54 n55 n75 n76 v53 st) Ob.ok_nil hn (conz g3 (conz g4 (conz g5 (conz g8 (conz g12 (conz g13 (conz g14 (conz g53 (conz g54 (conz g55 (conz g75 (conz g76 (one g77))))))))))))) fun T' q2 q3=>by simp only [gA58,List.cons.injEq,and_true] at q3;exact ⟨rfl,⟨q2,q3⟩,rfl⟩
def f4L18(T:Tm)(a3 a4 a5 a8 a12 a16 a53 a54 a55 a75 a76:AV):Prop:=T.n=269∧T.get 3=a3∧T.get 4=a4∧T.get 5=a5∧T.get 8=a8∧T.get 12=a12∧T.get 16=a16∧T.get 53=a53∧T.get 54=a54∧T.get 55=a55∧T.get 75=a75∧T.get 76=a76
abbrev gA65(T:Tm):List AV:= [T.get 3,T.get 4,T.get 5,T.get 8,T.get 12,T.get 16,T.get 53,T.get 54,T.get 55,T.get 75,T.get 76]
abbrev sL39:List Nat:= [2078,2080,2081]
theorem f4_19_e(p3 p4 p5 p8 p12:Nat)(v53 v78 v80 v81:AV)(n54 n55 n75 n76:Int)(st s1 s2:St):evR gA65 sL39 (f4P 19) ⟨269,[(3,(pt p3)),(4,(pt p4)),(5,(pt p5)),(8,(pt p8)),(12,(pt p12)),(53,v53),(54,(i64 n54)),(55,(i64 n55)),(75,(i64 n75)),(76,(i64 n76))],[]⟩ st [.eff v78 (fun _=>s1),.eff v80 id,.eff v81 (fun _=>s2)]=some (.normal,269,[(pt p3),(pt p4),(pt p5),(pt p8),(pt p12),v81,v53,(i64 n54),(i64 n55),(i64 n75),(i64 n76)],s2,[buildSliceA E0 st 22 0 []=some (v78,s1),loadA E0 s1 22 (.ptr p12 2)=some v80∧s1=s1,appendA E0 s1 22 22 v78 v80=some (v81,s2)]):=by kernel_rfl
theorem f4_19{p3 p4 p5 p8 p12:Nat}{v53 v78 v80 v81:AV}{n54 n55 n75 n76:Int}{st s1 s2:St}(h1:buildSliceA E0 st 22 0 []=some (v78,s1))(h2:loadA E0 s1 22 (.ptr p12 2)=some v80)(h3:appendA E0 s1 22 22 v78 v80=some (v81,s2)){T:Tm}(hT:f4L17 T (pt p3) (pt p4) (pt p5) (pt p8) (pt p12) v53 (i64 n54) (i64 n55) (i64 n75) (i64 n76)):AW Tryz.prog (f4P 19) (fun ex T' st'=>ex= .normal∧f4L18 T' (pt p3) (pt p4) (pt p5) (pt p8) (pt p12) v81 v53 (i64 n54) (i64 n55) (i64 n75) (i64 n76)∧st'=s2) T st:=by
 obtain ⟨hn,g3,g4,g5,g8,g12,g53,g54,g55,g75,g76⟩:=hT
 exact genR (f4_19_e p3 p4 p5 p8 p12 v53 v78 v80 v81 n54 n55 n75 n76 st s1 s2) (kk h1 (kk ⟨h2,rfl⟩ (kk h3 Ob.ok_nil))) hn (conz g3 (conz g4 (conz g5 (conz g8 (conz g12 (conz g53 (conz g54 (conz g55 (conz g75 (one g76)))))))))) fun T' q2 q3=>by simp only [gA65,List.cons.injEq,and_true] at q3;exact ⟨rfl,⟨q2,q3⟩,rfl⟩
theorem f4_20_e(p3 p4 p5 p8 p12:Nat)(v16 v53:AV)(n54 n55 n75 n76:Int)(st:St):evR gA65 [] (f4P 20) ⟨269,[(3,(pt p3)),(4,(pt p4)),(5,(pt p5)),(8,(pt p8)),(12,(pt p12)),(16,v16),(53,v53),(54,(i64 n54)),(55,(i64 n55)),(75,(i64 n75)),(76,(i64 n76))],[]⟩ st []=some (.normal,269,[(pt p3),(pt p4),(pt p5),(pt p8),(pt p12),v16,v53,(i64 n54),(i64 n55),(i64 n75),(i64 n76)],st,[]):=by kernel_rfl
theorem f4_20{p3 p4 p5 p8 p12:Nat}{v16 v53:AV}{n54 n55 n75 n76:Int}{st:St}{T:Tm}(hT:f4L18 T (pt p3) (pt p4) (pt p5) (pt p8) (pt p12) v16 v53 (i64 n54) (i64 n55) (i64 n75) (i64 n76)):AW Tryz.prog (f4P 20) (fun ex T' st'=>ex= .normal∧f4L18 T' (pt p3) (pt p4) (pt p5) (pt p8) (pt p12) v16 v53 (i64 n54) (i64 n55) (i64 n75) (i64 n76)∧st'=st) T st:=by
 obtain ⟨hn,g3,g4,g5,g8,g12,g16,g53,g54,g55,g75,g76⟩:=hT
 exact genR (f4_20_e p3 p4 p5 p8 p12 v16 v53 n54 n55 n75 n76 st) Ob.ok_nil hn (conz g3 (conz g4 (conz g5 (conz g8 (conz g12 (conz g16 (conz g53 (conz g54 (conz g55 (conz g75 (one g76))))))))))) fun T' q2 q3=>by simp only [gA65,List.cons.injEq,and_true] at q3;exact ⟨rfl,⟨q2,q3⟩,rfl⟩
def f4L19(T:Tm)(a3 a4 a5 a8 a12 a13 a16 a17 a53 a54 a55 a75 a76:AV):Prop:=T.n=269∧T.get 3=a3∧T.get 4=a4∧T.get 5=a5∧T.get 8=a8∧T.get 12=a12∧T.get 13=a13∧T.get 16=a16∧T.get 17=a17∧T.get 53=a53∧T.get 54=a54∧T.get 55=a55∧T.get 75=a75∧T.get 76=a76
abbrev gA66(T:Tm):List AV:= [T.get 3,T.get 4,T.get 5,T.get 8,T.get 12,T.get 13,T.get 16,T.get 17,T.get 53,T.get 54,T.get 55,T.get 75,T.get 76]
theorem f4_21_e(p3 p4 p5 p8 p12:Nat)(v16 v53:AV)(n54 n55 n75 n76 n85a n85b:Int)(st s1:St):evR gA66 [6016] (f4P 21) ⟨269,[(3,(pt p3)),(4,(pt p4)),(5,(pt p5)),(8,(pt p8)),(12,(pt p12)),(16,v16),(53,v53),(54,(i64 n54)),(55,(i64 n55)),(75,(i64 n75)),(76,(i64 n76))],[]⟩ st [.eff (.tup [(i64 n85a),(i64 n85b)]) (fun _=>s1)]=some (.normal,269,[(pt p3),(pt p4),(pt p5),(pt p8),(pt p12),(i64 n85b),v16,(i64 n85a),v53,(i64 n54),(i64 n55),(i64 n75),(i64 n76)],s1,[obC 16 [(pt p5),v16] st (.tup [(i64 n85a),(i64 n85b)]) s1]):=by kernel_rfl
theorem f4_21{p3 p4 p5 p8 p12:Nat}{v16 v53:AV}{n54 n55 n75 n76 n85a n85b:Int}{st s1:St}(h1:obC 16 [(pt p5),v16] st (.tup [(i64 n85a),(i64 n85b)]) s1){T:Tm}(hT:f4L18 T (pt p3) (pt p4) (pt p5) (pt p8) (pt p12) v16 v53 (i64 n54) (i64 n55) (i64 n75) (i64 n76)):AW Tryz.prog (f4P 21) (fun ex T' st'=>ex= .normal∧f4L19 T' (pt p3) (pt p4) (pt p5) (pt p8) (pt p12) (i64 n85b) v16 (i64 n85a) v53 (i64 n54) (i64 n55) (i64 n75) (i64 n76)∧st'=s1) T st:=by
 obtain ⟨hn,g3,g4,g5,g8,g12,g16,g53,g54,g55,g75,g76⟩:=hT
 exact genR (f4_21_e p3 p4 p5 p8 p12 v16 v53 n54 n55 n75 n76 n85a n85b st s1) (kk h1 Ob.ok_nil) hn (conz g3 (conz g4 (conz g5 (conz g8 (conz g12 (conz g16 (conz g53 (conz g54 (conz g55 (conz g75 (one g76))))))))))) fun T' q2 q3=>by simp only [gA66,List.cons.injEq,and_true] at q3;exact ⟨rfl,⟨q2,q3⟩,rfl⟩
def f4L20(T:Tm)(a3 a4 a5 a8 a12 a13 a14 a16 a17 a18 a53 a54 a55 a75 a76:AV):Prop:=T.n=269∧T.get 3=a3∧T.get 4=a4∧T.get 5=a5∧T.get 8=a8∧T.get 12=a12∧T.get 13=a13∧T.get 14=a14∧T.get 16=a16∧T.get 17=a17∧T.get 18=a18∧T.get 53=a53∧T.get 54=a54∧T.get 55=a55∧T.get 75=a75∧T.get 76=a76
abbrev gA67(T:Tm):List AV:= [T.get 3,T.get 4,T.get 5,T.get 8,T.get 12,T.get 13,T.get 14,T.get 16,T.get 17,T.get 18,T.get 53,T.get 54,T.get 55,T.get 75,T.get 76]
theorem f4_22_e(p3 p4 p5 p8 p12:Nat)(n13 n17 n54 n55 n75 n76 n92a n92b:Int)(v16 v53 v91:AV)(st s1:St):evR gA67 [2091,6017] (f4P 22) ⟨269,[(3,(pt p3)),(4,(pt p4)),(5,(pt p5)),(8,(pt p8)),(12,(pt p12)),(13,(i64 n13)),(16,v16),(17,(i64 n17)),(53,v53),(54,(i64 n54)),(55,(i64 n55)),(75,(i64 n75)),(76,(i64 n76))],[]⟩ st [.eff v91 id,.eff (.tup [(i64 n92a),(i64 n92b)]) (fun _=>s1)]=some (.normal,269,[(pt p3),(pt p4),(pt p5),(pt p8),(pt p12),(i64 n13),(i64 n92b),v16,(i64 n17),(i64 n92a),v53,(i64 n54),(i64 n55),(i64 n75),(i64 n76)],s1,[loadA E0 st 22 (.ptr p12 2)=some v91∧st=st,obC 17 [(pt p8),v91] st (.tup [(i64 n92a),(i64 n92b)]) s1]):=by kernel_rfl
theorem f4_22{p3 p4 p5 p8 p12:Nat}{n13 n17 n54 n55 n75 n76 n92a n92b:Int}{v16 v53 v91:AV}{st s1:St}(h1:loadA E0 st 22 (.ptr p12 2)=some v91)(h2:obC 17 [(pt p8),v91] st (.tup [(i64 n92a),(i64 n92b)]) s1){T:Tm}(hT:f4L19 T (pt p3) (pt p4) (pt p5) (pt p8) (pt p12) (i64 n13) v16 (i64 n17) v53 (i64 n54) (i64 n55) (i64 n75) (i64 n76)):AW Tryz.prog (f4P 22) (fun ex T' st'=>ex= .normal∧f4L20 T' (pt p3) (pt p4) (pt p5) (pt p8) (pt p12) (i64 n13) (i64 n92b) v16 (i64 n17) (i64 n92a) v53 (i64 n54) (i64 n55) (i64 n75) (i64 n76)∧st'=s1) T st:=by
 obtain ⟨hn,g3,g4,g5,g8,g12,g13,g16,g17,g53,g54,g55,g75,g76⟩:=hT
 exact genR (f4_22_e p3 p4 p5 p8 p12 n13 n17 n54 n55 n75 n76 n92a n92b v16 v53 v91 st s1) (kk ⟨h1,rfl⟩ (kk h2 Ob.ok_nil)) hn (conz g3 (conz g4 (conz g5 (conz g8 (conz g12 (conz g13 (conz g16 (conz g17 (conz g53 (conz g54 (conz g55 (conz g75 (one g76))))))))))))) fun T' q2 q3=>by simp only [gA67,List.cons.injEq,and_true] at q3;exact ⟨rfl,⟨q2,q3⟩,rfl⟩
def f4L21(T:Tm)(a3 a4 a5 a8 a12 a13 a14 a16 a53 a54 a55 a75 a76:AV):Prop:=T.n=269∧T.get 3=a3∧T.get 4=a4∧T.get 5=a5∧T.get 8=a8∧T.get 12=a12∧T.get 13=a13∧T.get 14=a14∧T.get 16=a16∧T.get 53=a53∧T.get 54=a54∧T.get 55=a55∧T.get 75=a75∧T.get 76=a76
abbrev gA68(T:Tm):List AV:= [T.get 3,T.get 4,T.get 5,T.get 8,T.get 12,T.get 13,T.get 14,T.get 16,T.get 53,T.get 54,T.get 55,T.get 75,T.get 76]
theorem f4_23_FF_e(p3 p4 p5 p8 p12:Nat)(n13 n14 n17 n18 n54 n55 n75 n76:Int)(v16 v53:AV)(st:St):evR gA68 [7097,7101] (f4P 23) ⟨269,[(3,(pt p3)),(4,(pt p4)),(5,(pt p5)),(8,(pt p8)),(12,(pt p12)),(13,(i64 n13)),(14,(i64 n14)),(16,v16),(17,(i64 n17)),(18,(i64 n18)),(53,v53),(54,(i64 n54)),(55,(i64 n55)),(75,(i64 n75)),(76,(i64 n76))],[]⟩ st [.av FF,.av FF]=some (.normal,269,[(pt p3),(pt p4),(pt p5),(pt p8),(pt p12),(i64 n13),(i64 n14),v16,v53,(i64 n54),(i64 n55),(i64 n75),(i64 n76)],st,[Bt 3 .neq n17 n18 FF,Bt 3 .neq n13 n14 FF]):=by kernel_rfl
theorem f4_23_FF{p3 p4 p5 p8 p12:Nat}{n13 n14 n17 n18 n54 n55 n75 n76:Int}{v16 v53:AV}{st:St}(h1:Bt 3 .neq n17 n18 FF)(h2:Bt 3 .neq n13 n14 FF){T:Tm}(hT:f4L20 T (pt p3) (pt p4) (pt p5) (pt p8) (pt p12) (i64 n13) (i64 n14) v16 (i64 n17) (i64 n18) v53 (i64 n54) (i64 n55) (i64 n75) (i64 n76)):AW Tryz.prog (f4P 23) (fun ex T' st'=>ex= .normal∧f4L21 T' (pt p3) (pt p4) (pt p5) (pt p8) (pt p12) (i64 n13) (i64 n14) v16 v53 (i64 n54) (i64 n55) (i64 n75) (i64 n76)∧st'=st) T st:=by
 obtain ⟨hn,g3,g4,g5,g8,g12,g13,g14,g16,g17,g18,g53,g54,g55,g75,g76⟩:=hT
 exact genR (f4_23_FF_e p3 p4 p5 p8 p12 n13 n14 n17 n18 n54 n55 n75 n76 v16 v53 st) (kk h1 (kk h2 Ob.ok_nil)) hn (conz g3 (conz g4 (conz g5 (conz g8 (conz g12 (conz g13 (conz g14 (conz g16 (conz g17 (conz g18 (conz g53 (conz g54 (conz g55 (conz g75 (one g76))))))))))))))) fun T' q2 q3=>by simp only [gA68,List.cons.injEq,and_true] at q3;exact ⟨rfl,⟨q2,q3⟩,rfl⟩
def f4L22(T:Tm)(a3 a4 a5 a8 a12 a13 a14 a16 a53 a54 a55 a75 a76 a104 a105:AV):Prop:=T.n=269∧T.get 3=a3∧T.get 4=a4∧T.get 5=a5∧T.get 8=a8∧T.get 12=a12∧T.get 13=a13∧T.get 14=a14∧T.get 16=a16∧T.get 53=a53∧T.get 54=a54∧T.get 55=a55∧T.get 75=a75∧T.get 76=a76∧T.get 104=a104∧T.get 105=a105
abbrev gA69(T:Tm):List AV:= [T.get 3,T.get 4,T.get 5,T.get 8,T.get 12,T.get 13,T.get 14,T.get 16,T.get 53,T.get 54,T.get 55,T.get 75,T.get 76,T.get 104,T.get 105]
theorem f4_24_e(p3 p4 p5 p8 p12:Nat)(n13 n14 n54 n55 n75 n76 n104:Int)(v16 v53:AV)(st:St):evR gA69 [7104] (f4P 24) ⟨269,[(3,(pt p3)),(4,(pt p4)),(5,(pt p5)),(8,(pt p8)),(12,(pt p12)),(13,(i64 n13)),(14,(i64 n14)),(16,v16),(53,v53),(54,(i64 n54)),(55,(i64 n55)),(75,(i64 n75)),(76,(i64 n76))],[]⟩ st [.av (i64 n104)]=some (.normal,269,[(pt p3),(pt p4),(pt p5),(pt p8),(pt p12),(i64 n13),(i64 n14),v16,v53,(i64 n54),(i64 n55),(i64 n75),(i64 n76),(i64 n104),(i64 0)],st,[lenA E0 22 v16=some (i64 n104)]):=by kernel_rfl
theorem f4_24{p3 p4 p5 p8 p12:Nat}{n13 n14 n54 n55 n75 n76 n104:Int}{v16 v53:AV}{st:St}(h1:lenA E0 22 v16=some (i64 n104)){T:Tm}(hT:f4L21 T (pt p3) (pt p4) (pt p5) (pt p8) (pt p12) (i64 n13) (i64 n14) v16 v53 (i64 n54) (i64 n55) (i64 n75) (i64 n76)):AW Tryz.prog (f4P 24) (fun ex T' st'=>ex= .normal∧f4L22 T' (pt p3) (pt p4) (pt p5) (pt p8) (pt p12) (i64 n13) (i64 n14) v16 v53 (i64 n54) (i64 n55) (i64 n75) (i64 n76) (i64 n104) (i64 0)∧st'=st) T st:=by
 obtain ⟨hn,g3,g4,g5,g8,g12,g13,g14,g16,g53,g54,g55,g75,g76⟩:=hT
 exact genR (f4_24_e p3 p4 p5 p8 p12 n13 n14 n54 n55 n75 n76 n104 v16 v53 st) (kk h1 Ob.ok_nil) hn (conz g3 (conz g4 (conz g5 (conz g8 (conz g12 (conz g13 (conz g14 (conz g16 (conz g53 (conz g54 (conz g55 (conz g75 (one g76))))))))))))) fun T' q2 q3=>by simp only [gA69,List.cons.injEq,and_true] at q3;exact ⟨rfl,⟨q2,q3⟩,rfl⟩
abbrev sL40:List Nat:= [2111,5000,7106,7110,7112,7113,7114]
theorem f4_25_T_e(p3 p4 p5 p8 p12:Nat)(n13 n14 n54 n55 n75 n76 n104 n105 n111 n112 n114:Int)(v16 v53 q110 q113:AV)(st s1:St):evR gA69 sL40 (f4P 25) ⟨269,[(3,(pt p3)),(4,(pt p4)),(5,(pt p5)),(8,(pt p8)),(12,(pt p12)),(13,(i64 n13)),(14,(i64 n14)),(16,v16),(53,v53),(54,(i64 n54)),(55,(i64 n55)),(75,(i64 n75)),(76,(i64 n76)),(104,(i64 n104)),(105,(i64 n105))],[]⟩ st [.av TT,.av q110,.eff (u8 n111) id,.av (u8 n112),.av q113,.eff .undef (fun _=>s1),.av (i64 n114)]=some (.normal,269,[(pt p3),(pt p4),(pt p5),(pt p8),(pt p12),(i64 n13),(i64 n14),v16,v53,(i64 n54),(i64 n55),(i64 n75),(i64 n76),(i64 n104),(i64 n114)],s1,[Bt 3 .lss n105 n104 TT,indexAddrA E0 22 v16 (i64 n105)=some q110,loadA E0 st 5 q110=some (u8 n111)∧st=st,binA E0 .xor 5 (u8 n111) (u8 255)=some (u8 n112),indexAddrA E0 22 v16 (i64 n105)=some q113,storeA E0 st 5 q113 (u8 n112)=some s1,Bt 3 .add n105 1 (i64 n114)]):=by kernel_rfl
theorem f4_25_T{p3 p4 p5 p8 p12:Nat}{n13 n14 n54 n55 n75 n76 n104 n105 n111 n112 n114:Int}{v16 v53 q110 q113:AV}{st s1:St}(h1:Bt 3 .lss n105 n104 TT)(h2:indexAddrA E0 22 v16 (i64 n105)=some q110)(h3:loadA E0 st 5 q110=some (u8 n111))(h4:binA E0 .xor 5 (u8 n111) (u8 255)=some (u8 n112))(h5:indexAddrA E0 22 v16 (i64 n105)=some q113)(h6:storeA E0 st 5 q113 (u8 n112)=some s1)(h7:Bt 3 .add n105 1 (i64 n114)){T:Tm}(hT:f4L22 T (pt p3) (pt p4) (pt p5) (pt p8) (pt p12) (i64 n13) (i64 n14) v16 v53 (i64 n54) (i64 n55) (i64 n75) (i64 n76) (i64 n104) (i64 n105)):AW Tryz.prog (f4P 25) (fun ex T' st'=>ex= .normal∧f4L22 T' (pt p3) (pt p4) (pt p5) (pt p8) (pt p12) (i64 n13) (i64 n14) v16 v53 (i64 n54) (i64 n55) (i64 n75) (i64 n76) (i64 n104) (i64 n114)∧st'=s1) T st:=by
 obtain ⟨hn,g3,g4,g5,g8,g12,g13,g14,g16,g53,g54,g55,g75,g76,g104,g105⟩:=hT
 exact genR (f4_25_T_e p3 p4 p5 p8 p12 n13 n14 n54 n55 n75 n76 n104 n105 n111 n112 n114 v16 v53 q110 q113 st s1) (kk h1 (kk h2 (kk ⟨h3,rfl⟩ (kk h4 (kk h5 (kk h6 (kk h7 Ob.ok_nil))))))) hn (conz g3 (conz g4 (conz g5 (conz g8 (conz g12 (conz g13 (conz g14 (conz g16 (conz g53 (conz g54 (conz g55 (conz g75 (conz g76 (conz g104 (one g105))))))))))))))) fun T' q2 q3=>by simp only [gA69,List.cons.injEq,and_true] at q3;exact ⟨rfl,⟨q2,q3⟩,rfl⟩
theorem f4_25_F_e(p3 p4 p5 p8 p12:Nat)(n13 n14 n54 n55 n75 n76 n104 n105:Int)(v16 v53:AV)(st:St):evR gA62 sL40 (f4P 25) ⟨269,[(3,(pt p3)),(4,(pt p4)),(5,(pt p5)),(8,(pt p8)),(12,(pt p12)),(13,(i64 n13)),(14,(i64 n14)),(16,v16),(53,v53),(54,(i64 n54)),(55,(i64 n55)),(75,(i64 n75)),(76,(i64 n76)),(104,(i64 n104)),(105,(i64 n105))],[]⟩ st [.av FF]=some ((.exit 5),269,[(pt p3),(pt p4),(pt p5),(pt p8),(pt p12),(i64 n13),(i64 n14),v53,(i64 n54),(i64 n55),(i64 n75),(i64 n76)],st,[Bt 3 .lss n105 n104 FF]):=by kernel_rfl
theorem f4_25_F{p3 p4 p5 p8 p12:Nat}{n13 n14 n54 n55 n75 n76 n104 n105:Int}{v16 v53:AV}{st:St}(h1:Bt 3 .lss n105 n104 FF){T:Tm}(hT:f4L22 T (pt p3) (pt p4) (pt p5) (pt p8) (pt p12) (i64 n13) (i64 n14) v16 v53 (i64 n54) (i64 n55) (i64 n75) (i64 n76) (i64 n104) (i64 n105)):AW Tryz.prog (f4P 25) (fun ex T' st'=>ex=(.exit 5)∧f4L15 T' (pt p3) (pt p4) (pt p5) (pt p8) (pt p12) (i64 n13) (i64 n14) v53 (i64 n54) (i64 n55) (i64 n75) (i64 n76)∧st'=st) T st:=by
 obtain ⟨hn,g3,g4,g5,g8,g12,g13,g14,g16,g53,g54,g55,g75,g76,g104,g105⟩:=hT
 exact genR (f4_25_F_e p3 p4 p5 p8 p12 n13 n14 n54 n55 n75 n76 n104 n105 v16 v53 st) (kk h1 Ob.ok_nil) hn (conz g3 (conz g4 (conz g5 (conz g8 (conz g12 (conz g13 (conz g14 (conz g16 (conz g53 (conz g54 (conz g55 (conz g75 (conz g76 (conz g104 (one g105))))))))))))))) fun T' q2 q3=>by simp only [gA62,List.cons.injEq,and_true] at q3;exact ⟨rfl,⟨q2,q3⟩,rfl⟩
theorem f4_26_e(p3 p4 p5 p8 p12:Nat)(n13 n14 n54 n55 n75 n76 n115:Int)(v53:AV)(st:St):evR gA62 [7115] (f4P 26) ⟨269,[(3,(pt p3)),(4,(pt p4)),(5,(pt p5)),(8,(pt p8)),(12,(pt p12)),(13,(i64 n13)),(14,(i64 n14)),(53,v53),(54,(i64 n54)),(55,(i64 n55)),(75,(i64 n75)),(76,(i64 n76))],[]⟩ st [.av (i64 n115)]=some (.normal,269,[(pt p3),(pt p4),(pt p5),(pt p8),(pt p12),(i64 n13),(i64 n14),v53,(i64 n54),(i64 n55),(i64 n75),(i64 n115)],st,[Bt 3 .add n76 1 (i64 n115)]):=by kernel_rfl
theorem f4_26{p3 p4 p5 p8 p12:Nat}{n13 n14 n54 n55 n75 n76 n115:Int}{v53:AV}{st:St}(h1:Bt 3 .add n76 1 (i64 n115)){T:Tm}(hT:f4L15 T (pt p3) (pt p4) (pt p5) (pt p8) (pt p12) (i64 n13) (i64 n14) v53 (i64 n54) (i64 n55) (i64 n75) (i64 n76)):AW Tryz.prog (f4P 26) (fun ex T' st'=>ex= .normal∧f4L15 T' (pt p3) (pt p4) (pt p5) (pt p8) (pt p12) (i64 n13) (i64 n14) v53 (i64 n54) (i64 n55) (i64 n75) (i64 n115)∧st'=st) T st:=by
 obtain ⟨hn,g3,g4,g5,g8,g12,g13,g14,g53,g54,g55,g75,g76⟩:=hT
 exact genR (f4_26_e p3 p4 p5 p8 p12 n13 n14 n54 n55 n75 n76 n115 v53 st) (kk h1 Ob.ok_nil) hn (conz g3 (conz g4 (conz g5 (conz g8 (conz g12 (conz g13 (conz g14 (conz g53 (conz g54 (conz g55 (conz g75 (one g76)))))))))))) fun T' q2 q3=>by simp only [gA62,List.cons.injEq,and_true] at q3;exact ⟨rfl,⟨q2,q3⟩,rfl⟩
abbrev sL41:List Nat:= [2136,2140,2144,2177,2181,2187,2191,2198,2206,2210,6014,6015,6018,6019,6020,6021,6022,6023,6024,6025,6026,6027,6028,6029,6030,6031,6032,6033,7117,7123,7133,7134,7137,7167,7174,7184,7194,7203,8000]
theorem f4_27_T_e(p3 p4 p5 p8 p12:Nat)(n13 n14 n54 n55 n63 n119 n121:Int)(v53:AV)(st s1 s2:St):evR gA58 sL41 (f4P 27) ⟨269,[(3,(pt p3)),(4,(pt p4)),(5,(pt p5)),(8,(pt p8)),(12,(pt p12)),(13,(i64 n13)),(14,(i64 n14)),(53,v53),(54,(i64 n54)),(55,(i64 n55)),(63,(i64 n63))],[]⟩ st [.av TT,.eff (i64 n119) (fun _=>s1),.eff (i64 n121) (fun _=>s2)]=some (.normal,269,[(pt p3),(pt p4),(pt p5),(pt p8),(pt p12),(i64 n119),(i64 n121),v53,(i64 n54),(i64 n55)],s2,[Bt 3 .eql n63 1 TT,obC 18 [(pt p5)] st (i64 n119) s1,obC 19 [(pt p8)] s1 (i64 n121) s2]):=by kernel_rfl
theorem f4_27_T{p3 p4 p5 p8 p12:Nat}{n13 n14 n54 n55 n63 n119 n121:Int}{v53:AV}{st s1 s2:St}(h1:Bt 3 .eql n63 1 TT)(h2:obC 18 [(pt p5)] st (i64 n119) s1)(h3:obC 19 [(pt p8)] s1 (i64 n121) s2){T:Tm}(hT:f4L12 T (pt p3) (pt p4) (pt p5) (pt p8) (pt p12) (i64 n13) (i64 n14) v53 (i64 n54) (i64 n55) (i64 n63)):AW Tryz.prog (f4P 27) (fun ex T' st'=>ex= .normal∧f4L11 T' (pt p3) (pt p4) (pt p5) (pt p8) (pt p12) (i64 n119) (i64 n121) v53 (i64 n54) (i64 n55)∧st'=s2) T st:=by
 obtain ⟨hn,g3,g4,g5,g8,g12,g13,g14,g53,g54,g55,g63⟩:=hT
 exact genR (f4_27_T_e p3 p4 p5 p8 p12 n13 n14 n54 n55 n63 n119 n121 v53 st s1 s2) (kk h1 (kk h2 (kk h3 Ob.ok_nil))) hn (conz g3 (conz g4 (conz g5 (conz g8 (conz g12 (conz g13 (conz g14 (conz g53 (conz g54 (conz g55 (one g63))))))))))) fun T' q2 q3=>by simp only [gA58,List.cons.injEq,and_true] at q3;exact ⟨rfl,⟨q2,q3⟩,rfl⟩
theorem f4_27_FT_e(p3 p4 p5 p8 p12:Nat)(n13 n14 n54 n55 n63 n126 n130 n127 n131:Int)(v53:AV)(st s1 s2:St):evR gA58 sL41 (f4P 27) ⟨269,[(3,(pt p3)),(4,(pt p4)),(5,(pt p5)),(8,(pt p8)),(12,(pt p12)),(13,(i64 n13)),(14,(i64 n14)),(53,v53),(54,(i64 n54)),(55,(i64 n55)),(63,(i64 n63))],[]⟩ st [.av FF,.av TT,.eff (i64 n126) id,.eff (i64 n130) id,.eff (i64 n127) (fun _=>s1),.eff (i64 n131) (fun _=>s2)]=some (.normal,269,[(pt p3),(pt p4),(pt p5),(pt p8),(pt p12),(i64 n127),(i64 n131),v53,(i64 n54),(i64 n55)],s2,[Bt 3 .eql n63 1 FF,Bt 3 .eql n63 2 TT,∀k∈ [p12,p12],k<st.next,[p12,p12].contains p12=true∧LI st p12 1 n126,[p12,p12].contains p12=true∧LI st p12 1 n130,(true=true→ [p12,p12].all (fun k=>(st.get k).isSome)=true),obC 20 [(pt p5),(i64 n126)] (st.hide [p12,p12]) (i64 n127) s1,(false=true→ [p12,p12].all (fun k=>((s1.show st [p12,p12]).get k).isSome)=true),obC 21 [(pt p8),(i64 n130)] (s1.show st [p12,p12]) (i64 n131) s2]):=by kernel_rfl
theorem f4_27_FT{p3 p4 p5 p8 p12:Nat}{n13 n14 n54 n55 n63 n126 n130 n127 n131:Int}{v53:AV}{st s1 s2:St}(h1:Bt 3 .eql n63 1 FF)(h2:Bt 3 .eql n63 2 TT)(h3:∀k∈ [p12,p12],k<st.next)(h4:LI st p12 1 n126)(h5:LI st p12 1 n130)(h6: [p12,p12].all (fun k=>(st.get k).isSome)=true)(h7:obC 20 [(pt p5),(i64 n126)] (st.hide [p12,p12]) (i64 n127) s1)(h8:obC 21 [(pt p8),(i64 n130)] (s1.show st [p12,p12]) (i64 n131) s2){T:Tm}(hT:f4L12 T (pt p3) (pt p4) (pt p5) (pt p8) (pt p12) (i64 n13) (i64 n14) v53 (i64 n54) (i64 n55) (i64 n63)):AW Tryz.prog (f4P 27) (fun ex T' st'=>ex= .normal∧f4L11 T' (pt p3) (pt p4) (pt p5) (pt p8) (pt p12) (i64 n127) (i64 n131) v53 (i64 n54) (i64 n55)∧st'=s2) T st:=by
 obtain ⟨hn,g3,g4,g5,g8,g12,g13,g14,g53,g54,g55,g63⟩:=hT
 exact genR (f4_27_FT_e p3 p4 p5 p8 p12 n13 n14 n54 n55 n63 n126 n130 n127 n131 v53 st s1 s2) (kk h1 (kk h2 (kk h3 (kk ⟨by simp,h4⟩ (kk ⟨by simp,h5⟩ (kk (fun _=>h6) (kk h7 (kk (fun h=>by cases h) (kk h8 Ob.ok_nil))))))))) hn (conz g3 (conz g4 (conz g5 (conz g8 (conz g12 (conz g13 (conz g14 (conz g53 (conz g54 (conz g55 (one g63))))))))))) fun T' q2 q3=>by simp only [gA58,List.cons.injEq,and_true] at q3;exact ⟨rfl,⟨q2,q3⟩,rfl⟩
theorem f4_27_FFTTTF_e(p3 p4 p5 p8 p12 p148a p154a:Nat)(n13 n14 n54 n55 n63 n136 n148c n154c:Int)(v53 v140 v144 v148b v154b:AV)(st s1 s2 s3 s4 s5:St):evR gA58 sL41 (f4P 27) ⟨269,[(3,(pt p3)),(4,(pt p4)),(5,(pt p5)),(8,(pt p8)),(12,(pt p12)),(13,(i64 n13)),(14,(i64 n14)),(53,v53),(54,(i64 n54)),(55,(i64 n55)),(63,(i64 n63))],[]⟩ st [.av FF,.av FF,.av TT,.eff (i64 n136) id,.av TT,.eff v140 id,.eff (.tup []) (fun _=>s1),.eff v144 id,.eff (.tup []) (fun _=>s2),.eff (.tup [(pt p148a),v148b,(i64 n148c)]) (fun _=>s3),.eff (.tup [(pt p154a),v154b,(i64 n154c)]) (fun _=>s4),.eff TT (fun _=>s5),.av FF]=some (.normal,269,[(pt p3),(pt p4),(pt p148a),(pt p154a),(pt p12),(i64 n148c),(i64 n154c),v53,(i64 n54),(i64 n55)],s5,[Bt 3 .eql n63 1 FF,Bt 3 .eql n63 2 FF,Bt 3 .eql n63 3 TT,LI st p12 0 n136∧st=st,Bt 3 .eql n136 4 TT,loadA E0 st 50 (.ptr p12 4)=some v140∧st=st,obC 22 [(pt p3),v140] st (.tup []) s1,loadA E0 s1 50 (.ptr p12 4)=some v144∧s1=s1,obC 23 [(pt p4),v144] s1 (.tup []) s2,obC 14 [(pt p3)] s2 (.tup [(pt p148a),v148b,(i64 n148c)]) s3,obC 15 [(pt p4)] s3 (.tup [(pt p154a),v154b,(i64 n154c)]) s4,obC 24 [v148b,v154b] s4 TT s5,binA E0 .neq 4 FF FF=some FF]):=by kernel_rfl
theorem f4_27_FFTTTF{p3 p4 p5 p8 p12 p148a p154a:Nat}{n13 n14 n54 n55 n63 n136 n148c n154c:Int}{v53 v140 v144 v148b v154b:AV}{st s1 s2 s3 s4 s5:St}(h1:Bt 3 .eql n63 1 FF)(h2:Bt 3 .eql n63 2 FF)(h3:Bt 3 .eql n63 3 TT)(h4:LI st p12 0 n136)(h5:Bt 3 .eql n136 4 TT)(h6:loadA E0 st 50 (.ptr p12 4)=some v140)(h7:obC 22 [(pt p3),v140] st (.tup []) s1)(h8:loadA E0 s1 50 (.ptr p12 4)=some v144)(h9:obC 23 [(pt p4),v144] s1 (.tup []) s2)(h10:obC 14 [(pt p3)] s2 (.tup [(pt p148a),v148b,(i64 n148c)]) s3)(h11:obC 15 [(pt p4)] s3 (.tup [(pt p154a),v154b,(i64 n154c)]) s4)(h12:obC 24 [v148b,v154b] s4 TT s5)(h13:binA E0 .neq 4 FF FF=some FF){T:Tm}(hT:f4L12 T (pt p3) (pt p4) (pt p5) (pt p8) (pt p12) (i64 n13) (i64 n14) v53 (i64 n54) (i64 n55) (i64 n63)):AW Tryz.prog (f4P 27) (fun ex T' st'=>ex= .normal∧f4L11 T' (pt p3) (pt p4) (pt p148a) (pt p154a) (pt p12) (i64 n148c) (i64 n154c) v53 (i64 n54) (i64 n55)∧st'=s5) T st:=by
 obtain ⟨hn,g3,g4,g5,g8,g12,g13,g14,g53,g54,g55,g63⟩:=hT
 exact genR (f4_27_FFTTTF_e p3 p4 p5 p8 p12 p148a p154a n13 n14 n54 n55 n63 n136 n148c n154c v53 v140 v144 v148b v154b st s1 s2 s3 s4 s5) (kk h1 (kk h2 (kk h3 (kk ⟨h4,rfl⟩ (kk h5 (kk ⟨h6,rfl⟩ (kk h7 (kk ⟨h8,rfl⟩ (kk h9 (kk h10 (kk h11 (kk h12 (kk h13 Ob.ok_nil))))))))))))) hn (conz g3 (conz g4 (conz g5 (conz g8 (conz g12 (conz g13 (conz g14 (conz g53 (conz g54 (conz g55 (one g63))))))))))) fun T' q2 q3=>by simp only [gA58,List.cons.injEq,and_true] at q3;exact ⟨rfl,⟨q2,q3⟩,rfl⟩
theorem f4_27_FFTFTF_e(p3 p4 p5 p8 p12 p148a p154a:Nat)(n13 n14 n54 n55 n63 n136 n148c n154c:Int)(v53 v148b v154b:AV)(st s1 s2 s3:St):evR gA58 sL41 (f4P 27) ⟨269,[(3,(pt p3)),(4,(pt p4)),(5,(pt p5)),(8,(pt p8)),(12,(pt p12)),(13,(i64 n13)),(14,(i64 n14)),(53,v53),(54,(i64 n54)),(55,(i64 n55)),(63,(i64 n63))],[]⟩ st [.av FF,.av FF,.av TT,.eff (i64 n136) id,.av FF,.eff (.tup [(pt p148a),v148b,(i64 n148c)]) (fun _=>s1),.eff (.tup [(pt p154a),v154b,(i64 n154c)]) (fun _=>s2),.eff TT (fun _=>s3),.av FF]=some (.normal,269,[(pt p3),(pt p4),(pt p148a),(pt p154a),(pt p12),(i64 n148c),(i64 n154c),v53,(i64 n54),(i64 n55)],s3,[Bt 3 .eql n63 1 FF,Bt 3 .eql n63 2 FF,Bt 3 .eql n63 3 TT,LI st p12 0 n136∧st=st,Bt 3 .eql n136 4 FF,obC 14 [(pt p3)] st (.tup [(pt p148a),v148b,(i64 n148c)]) s1,obC 15 [(pt p4)] s1 (.tup [(pt p154a),v154b,(i64 n154c)]) s2,obC 24 [v148b,v154b] s2 TT s3,binA E0 .neq 4 FF FF=some FF]):=by kernel_rfl
theorem f4_27_FFTFTF{p3 p4 p5 p8 p12 p148a p154a:Nat}{n13 n14 n54 n55 n63 n136 n148c n154c:Int}{v53 v148b v154b:AV}{st s1 s2 s3:St}(h1:Bt 3 .eql n63 1 FF)(h2:Bt 3 .eql n63 2 FF)(h3:Bt 3 .eql n63 3 TT)(h4:LI st p12 0 n136)(h5:Bt 3 .eql n136 4 FF)(h6:obC 14 [(pt p3)] st (.tup [(pt p148a),v148b,(i64 n148c)]) s1)(h7:obC 15 [(pt p4)] s1 (.tup [(pt p154a),v154b,(i64 n154c)]) s2)(h8:obC 24 [v148b,v154b] s2 TT s3)(h9:binA E0 .neq 4 FF FF=some FF){T:Tm}(hT:f4L12 T (pt p3) (pt p4) (pt p5) (pt p8) (pt p12) (i64 n13) (i64 n14) v53 (i64 n54) (i64 n55) (i64 n63)):AW Tryz.prog (f4P 27) (fun ex T' st'=>ex= .normal∧f4L11 T' (pt p3) (pt p4) (pt p148a) (pt p154a) (pt p12) (i64 n148c) (i64 n154c) v53 (i64 n54) (i64 n55)∧st'=s3) T st:=by
 obtain ⟨hn,g3,g4,g5,g8,g12,g13,g14,g53,g54,g55,g63⟩:=hT
 exact genR (f4_27_FFTFTF_e p3 p4 p5 p8 p12 p148a p154a n13 n14 n54 n55 n63 n136 n148c n154c v53 v148b v154b st s1 s2 s3) (kk h1 (kk h2 (kk h3 (kk ⟨h4,rfl⟩ (kk h5 (kk h6 (kk h7 (kk h8 (kk h9 Ob.ok_nil))))))))) hn (conz g3 (conz g4 (conz g5 (conz g8 (conz g12 (conz g13 (conz g14 (conz g53 (conz g54 (conz g55 (one g63))))))))))) fun T' q2 q3=>by simp only [gA58,List.cons.injEq,and_true] at q3;exact ⟨rfl,⟨q2,q3⟩,rfl⟩
theorem f4_27_FFFTTTF_e(p3 p4 p5 p8 p12 p148a p154a:Nat)(n13 n14 n54 n55 n63 n136 n148c n154c:Int)(v53 v140 v144 v148b v154b:AV)(st s1 s2 s3 s4 s5:St):evR gA58 sL41 (f4P 27) ⟨269,[(3,(pt p3)),(4,(pt p4)),(5,(pt p5)),(8,(pt p8)),(12,(pt p12)),(13,(i64 n13)),(14,(i64 n14)),(53,v53),(54,(i64 n54)),(55,(i64 n55)),(63,(i64 n63))],[]⟩ st [.av FF,.av FF,.av FF,.av TT,.eff (i64 n136) id,.av TT,.eff v140 id,.eff (.tup []) (fun _=>s1),.eff v144 id,.eff (.tup []) (fun _=>s2),.eff (.tup [(pt p148a),v148b,(i64 n148c)]) (fun _=>s3),.eff (.tup [(pt p154a),v154b,(i64 n154c)]) (fun _=>s4),.eff TT (fun _=>s5),.av FF]=some (.normal,269,[(pt p3),(pt p4),(pt p148a),(pt p154a),(pt p12),(i64 n148c),(i64 n154c),v53,(i64 n54),(i64 n55)],s5,[Bt 3 .eql n63 1 FF,Bt 3 .eql n63 2 FF,Bt 3 .eql n63 3 FF,Bt 3 .eql n63 4 TT,LI st p12 0 n136∧st=st,Bt 3 .eql n136 4 TT,loadA E0 st 50 (.ptr p12 4)=some v140∧st=st,obC 22 [(pt p3),v140] st (.tup []) s1,loadA E0 s1 50 (.ptr p12 4)=some v144∧s1=s1,obC 23 [(pt p4),v144] s1 (.tup []) s2,obC 14 [(pt p3)] s2 (.tup [(pt p148a),v148b,(i64 n148c)]) s3,obC 15 [(pt p4)] s3 (.tup [(pt p154a),v154b,(i64 n154c)]) s4,obC 24 [v148b,v154b] s4 TT s5,binA E0 .neq 4 FF FF=some FF]):=by kernel_rfl
theorem f4_27_FFFTTTF{p3 p4 p5 p8 p12 p148a p154a:Nat}{n13 n14 n54 n55 n63 n136 n148c n154c:Int}{v53 v140 v144 v148b v154b:AV}{st s1 s2 s3 s4 s5:St}(h1:Bt 3 .eql n63 1 FF)(h2:Bt 3 .eql n63 2 FF)(h3:Bt 3 .eql n63 3 FF)(h4:Bt 3 .eql n63 4 TT)(h5:LI st p12 0 n136)(h6:Bt 3 .eql n136 4 TT)(h7:loadA E0 st 50 (.ptr p12 4)=some v140)(h8:obC 22 [(pt p3),v140] st (.tup []) s1)(h9:loadA E0 s1 50 (.ptr p12 4)=some v144)(h10:obC 23 [(pt p4),v144] s1 (.tup []) s2)(h11:obC 14 [(pt p3)] s2 (.tup [(pt p148a),v148b,(i64 n148c)]) s3)(h12:obC 15 [(pt p4)] s3 (.tup [(pt p154a),v154b,(i64 n154c)]) s4)(h13:obC 24 [v148b,v154b] s4 TT s5)(h14:binA E0 .neq 4 FF FF=some FF){T:Tm}(hT:f4L12 T (pt p3) (pt p4) (pt p5) (pt p8) (pt p12) (i64 n13) (i64 n14) v53 (i64 n54) (i64 n55) (i64 n63)):AW Tryz.prog (f4P 27) (fun ex T' st'=>ex= .normal∧f4L11 T' (pt p3) (pt p4) (pt p148a) (pt p154a) (pt p12) (i64 n148c) (i64 n154c) v53 (i64 n54) (i64 n55)∧st'=s5) T st:=by
 obtain ⟨hn,g3,g4,g5,g8,g12,g13,g14,g53,g54,g55,g63⟩:=hT
 exact genR (f4_27_FFFTTTF_e p3 p4 p5 p8 p12 p148a p154a n13 n14 n54 n55 n63 n136 n148c n154c v53 v140 v144 v148b v154b st s1 s2 s3 s4 s5) (kk h1 (kk h2 (kk h3 (kk h4 (kk ⟨h5,rfl⟩ (kk h6 (kk ⟨h7,rfl⟩ (kk h8 (kk ⟨h9,rfl⟩ (kk h10 (kk h11 (kk h12 (kk h13 (kk h14 Ob.ok_nil)))))))))))))) hn (conz g3 (conz g4 (conz g5 (conz g8 (conz g12 (conz g13 (conz g14 (conz g53 (conz g54 (conz g55 (one g63))))))))))) fun T' q2 q3=>by simp only [gA58,List.cons.injEq,and_true] at q3;exact ⟨rfl,⟨q2,q3⟩,rfl⟩
theorem f4_27_FFFFT_e(p3 p4 p5 p8 p12:Nat)(n13 n14 n54 n55 n63 n177 n181:Int)(v53:AV)(st s1 s2:St):evR gA58 sL41 (f4P 27) ⟨269,[(3,(pt p3)),(4,(pt p4)),(5,(pt p5)),(8,(pt p8)),(12,(pt p12)),(13,(i64 n13)),(14,(i64 n14)),(53,v53),(54,(i64 n54)),(55,(i64 n55)),(63,(i64 n63))],[]⟩ st [.av FF,.av FF,.av FF,.av FF,.av TT,.eff (i64 n177) id,.eff (.tup []) (fun _=>s1),.eff (i64 n181) id,.eff (.tup []) (fun _=>s2)]=some (.normal,269,[(pt p3),(pt p4),(pt p5),(pt p8),(pt p12),(i64 n13),(i64 n14),v53,(i64 n54),(i64 n55)],s2,[Bt 3 .eql n63 1 FF,Bt 3 .eql n63 2 FF,Bt 3 .eql n63 3 FF,Bt 3 .eql n63 4 FF,Bt 3 .eql n63 5 TT,LI st p12 1 n177∧st=st,obC 25 [(pt p3),(i64 n177)] st (.tup []) s1,LI s1 p12 1 n181∧s1=s1,obC 26 [(pt p4),(i64 n181)] s1 (.tup []) s2]):=by kernel_rfl
theorem f4_27_FFFFT{p3 p4 p5 p8 p12:Nat}{n13 n14 n54 n55 n63 n177 n181:Int}{v53:AV}{st s1 s2:St}(h1:Bt 3 .eql n63 1 FF)(h2:Bt 3 .eql n63 2 FF)(h3:Bt 3 .eql n63 3 FF)(h4:Bt 3 .eql n63 4 FF)(h5:Bt 3 .eql n63 5 TT)(h6:LI st p12 1 n177)(h7:obC 25 [(pt p3),(i64 n177)] st (.tup []) s1)(h8:LI s1 p12 1 n181)(h9:obC 26 [(pt p4),(i64 n181)] s1 (.tup []) s2){T:Tm}(hT:f4L12 T (pt p3) (pt p4) (pt p5) (pt p8) (pt p12) (i64 n13) (i64 n14) v53 (i64 n54) (i64 n55) (i64 n63)):AW Tryz.prog (f4P 27) (fun ex T' st'=>ex= .normal∧f4L11 T' (pt p3) (pt p4) (pt p5) (pt p8) (pt p12) (i64 n13) (i64 n14) v53 (i64 n54) (i64 n55)∧st'=s2) T st:=by
 obtain ⟨hn,g3,g4,g5,g8,g12,g13,g14,g53,g54,g55,g63⟩:=hT
 exact genR (f4_27_FFFFT_e p3 p4 p5 p8 p12 n13 n14 n54 n55 n63 n177 n181 v53 st s1 s2) (kk h1 (kk h2 (kk h3 (kk h4 (kk h5 (kk ⟨h6,rfl⟩ (kk h7 (kk ⟨h8,rfl⟩ (kk h9 Ob.ok_nil))))))))) hn (conz g3 (conz g4 (conz g5 (conz g8 (conz g12 (conz g13 (conz g14 (conz g53 (conz g54 (conz g55 (one g63))))))))))) fun T' q2 q3=>by simp only [gA58,List.cons.injEq,and_true] at q3;exact ⟨rfl,⟨q2,q3⟩,rfl⟩
theorem f4_27_FFFFFT_e(p3 p4 p5 p8 p12:Nat)(n13 n14 n54 n55 n63 n187 n191:Int)(v53:AV)(st s1 s2:St):evR gA58 sL41 (f4P 27) ⟨269,[(3,(pt p3)),(4,(pt p4)),(5,(pt p5)),(8,(pt p8)),(12,(pt p12)),(13,(i64 n13)),(14,(i64 n14)),(53,v53),(54,(i64 n54)),(55,(i64 n55)),(63,(i64 n63))],[]⟩ st [.av FF,.av FF,.av FF,.av FF,.av FF,.av TT,.eff (i64 n187) id,.eff (.tup []) (fun _=>s1),.eff (i64 n191) id,.eff (.tup []) (fun _=>s2)]=some (.normal,269,[(pt p3),(pt p4),(pt p5),(pt p8),(pt p12),(i64 n13),(i64 n14),v53,(i64 n54),(i64 n55)],s2,[Bt 3 .eql n63 1 FF,Bt 3 .eql n63 2 FF,Bt 3 .eql n63 3 FF,Bt 3 .eql n63 4 FF,Bt 3 .eql n63 5 FF,Bt 3 .eql n63 6 TT,LI st p12 1 n187∧st=st,obC 27 [(pt p3),(i64 n187)] st (.tup []) s1,LI s1 p12 1 n191∧s1=s1,obC 28 [(pt p4),(i64 n191)] s1 (.tup []) s2]):=by kernel_rfl
theorem f4_27_FFFFFT{p3 p4 p5 p8 p12:Nat}{n13 n14 n54 n55 n63 n187 n191:Int}{v53:AV}{st s1 s2:St}(h1:Bt 3 .eql n63 1 FF)(h2:Bt 3 .eql n63 2 FF)(h3:Bt 3 .eql n63 3 FF)(h4:Bt 3 .eql n63 4 FF)(h5:Bt 3 .eql n63 5 FF)(h6:Bt 3 .eql n63 6 TT)(h7:LI st p12 1 n187)(h8:obC 27 [(pt p3),(i64 n187)] st (.tup []) s1)(h9:LI s1 p12 1 n191)(h10:obC 28 [(pt p4),(i64 n191)] s1 (.tup []) s2){T:Tm}(hT:f4L12 T (pt p3) (pt p4) (pt p5) (pt p8) (pt p12) (i64 n13) (i64 n14) v53 (i64 n54) (i64 n55) (i64 n63)):AW Tryz.prog (f4P 27) (fun ex T' st'=>ex= .normal∧f4L11 T' (pt p3) (pt p4) (pt p5) (pt p8) (pt p12) (i64 n13) (i64 n14) v53 (i64 n54) (i64 n55)∧st'=s2) T st:=by
 obtain ⟨hn,g3,g4,g5,g8,g12,g13,g14,g53,g54,g55,g63⟩:=hT
 exact genR (f4_27_FFFFFT_e p3 p4 p5 p8 p12 n13 n14 n54 n55 n63 n187 n191 v53 st s1 s2) (kk h1 (kk h2 (kk h3 (kk h4 (kk h5 (kk h6 (kk ⟨h7,rfl⟩ (kk h8 (kk ⟨h9,rfl⟩ (kk h10 Ob.ok_nil)))))))))) hn (conz g3 (conz g4 (conz g5 (conz g8 (conz g12 (conz g13 (conz g14 (conz g53 (conz g54 (conz g55 (one g63))))))))))) fun T' q2 q3=>by simp only [gA58,List.cons.injEq,and_true] at q3;exact ⟨rfl,⟨q2,q3⟩,rfl⟩
theorem f4_27_FFFFFFTT_e(p3 p4 p5 p8 p12:Nat)(n13 n14 n54 n55 n63 n199b n207 n211 n217 n223:Int)(v53 v199a v216 v222:AV)(st s1 s2 s3 s4 s5:St)(w198 w206 w210 w214 w220:ByteArray):evR gA58 sL41 (f4P 27) ⟨269,[(3,(pt p3)),(4,(pt p4)),(5,(pt p5)),(8,(pt p8)),(12,(pt p12)),(13,(i64 n13)),(14,(i64 n14)),(53,v53),(54,(i64 n54)),(55,(i64 n55)),(63,(i64 n63))],[]⟩ st [.av FF,.av FF,.av FF,.av FF,.av FF,.av FF,.av TT,.eff (str w198) id,.eff (.tup [v199a,(i64 n199b)]) (fun _=>s1),.av TT,.eff (str w206) id,.eff (i64 n207) (fun _=>s2),.eff (str w210) id,.eff (i64 n211) (fun _=>s3),.eff (str w214) id,.eff v216 id,.eff (str w220) id,.eff v222 id,.eff (i64 n217) (fun _=>s4),.eff (i64 n223) (fun _=>s5)]=some (.normal,269,[(pt p3),(pt p4),(pt p5),(pt p8),(pt p12),(i64 n217),(i64 n223),v53,(i64 n54),(i64 n55)],s5,[Bt 3 .eql n63 1 FF,Bt 3 .eql n63 2 FF,Bt 3 .eql n63 3 FF,Bt 3 .eql n63 4 FF,Bt 3 .eql n63 5 FF,Bt 3 .eql n63 6 FF,Bt 3 .eql n63 7 TT,loadA E0 st 9 (.ptr p12 3)=some (str w198)∧st=st,obC 29 [(pt p3),(str w198)] st (.tup [v199a,(i64 n199b)]) s1,Bt 23 .eql n199b 6 TT,loadA E0 s1 9 (.ptr p12 3)=some (str w206)∧s1=s1,obC 30 [(pt p3),(str w206)] s1 (i64 n207) s2,loadA E0 s2 9 (.ptr p12 3)=some (str w210)∧s2=s2,obC 31 [(pt p4),(str w210)] s2 (i64 n211) s3,∀k∈ [p12,p12,p12,p12],k<s3.next,[p12,p12,p12,p12].contains p12=true∧loadA E0 s3 9 (.ptr p12 3)=some (str w214),[p12,p12,p12,p12].contains p12=true∧loadA E0 s3 22 (.ptr p12 2)=some v216,[p12,p12,p12,p12].contains p12=true∧loadA E0 s3 9 (.ptr p12 3)=some (str w220),[p12,p12,p12,p12].contains p12=true∧loadA E0 s3 22 (.ptr p12 2)=some v222,(true=true→ [p12,p12,p12,p12].all (fun k=>(s3.get k).isSome)=true),obC 32 [(pt p3),(str w214),v216] (s3.hide [p12,p12,p12,p12]) (i64 n217) s4,(false=true→ [p12,p12,p12,p12].all (fun k=>((s4.show s3 [p12,p12,p12,p12]).get k).isSome)=true),obC 33 [(pt p4),(str w220),v222] (s4.show s3 [p12,p12,p12,p12]) (i64 n223) s5]):=by kernel_rfl
theorem f4_27_FFFFFFTT{p3 p4 p5 p8 p12:Nat}{n13 n14 n54 n55 n63 n199b n207 n211 n217 n223:Int}{v53 v199a v216 v222:AV}{st s1 s2 s3 s4 s5:St}{w198 w206 w210 w214 w220:ByteArray}(h1:Bt 3 .eql n63 1 FF)(h2:Bt 3 .eql n63 2 FF)(h3:Bt 3 .eql n63 3 FF)(h4:Bt 3 .eql n63 4 FF)(h5:Bt 3 .eql n63 5 FF)(h6:Bt 3 .eql n63 6 FF)(h7:Bt 3 .eql n63 7 TT)(h8:loadA E0 st 9 (.ptr p12 3)=some (str w198))(h9:obC 29 [(pt p3),(str w198)] st (.tup [v199a,(i64 n199b)]) s1)(h10:Bt 23 .eql n199b 6 TT)(h11:loadA E0 s1 9 (.ptr p12 3)=some (str w206))(h12:obC 30 [(pt p3),(str w206)] s1 (i64 n207) s2)(h13:loadA E0 s2 9 (.ptr p12 3)=some (str w210))(h14:obC 31 [(pt p4),(str w210)] s2 (i64 n211) s3)(h15:∀k∈ [p12,p12,p12,p12],k<s3.next)(h16:loadA E0 s3 9 (.ptr p12 3)=some (str w214))(h17:loadA E0 s3 22 (.ptr p12 2)=some v216)(h18:loadA E0 s3 9 (.ptr p12 3)=some (str w220))(h19:loadA E0 s3 22 (.ptr p12 2)=some v222)(h20: [p12,p12,p12,p12].all (fun k=>(s3.get k).isSome)=true)(h21:obC 32 [(pt p3),(str w214),v216] (s3.hide [p12,p12,p12,p12]) (i64 n217) s4)(h22:obC 33 [(pt p4),(str w220),v222] (s4.show s3 [p12,p12,p12,p12]) (i64 n223) s5){T:Tm}(hT:f4L12 T (pt p3) (pt p4) (pt p5) (pt p8) (pt p12) (i64 n13) (i64 n14) v53 (i64 n54) (i64 n55) (i64 n63)):AW Tryz.prog (f4P 27) (fun ex T' st'=>ex= .normal∧f4L11 T' (pt p3) (pt p4) (pt p5) (pt p8) (pt p12) (i64 n217) (i64 n223) v53 (i64 n54) (i64 n55)∧st'=s5) T st:=by
 obtain ⟨hn,g3,g4,g5,g8,g12,g13,g14,g53,g54,g55,g63⟩:=hT
 exact genR (f4_27_FFFFFFTT_e p3 p4 p5 p8 p12 n13 n14 n54 n55 n63 n199b n207 n211 n217 n223 v53 v199a v216 v222 st s1 s2 s3 s4 s5 w198 w206 w210 w214 w220) (kk h1 (kk h2 (kk h3 (kk h4 (kk h5 (kk h6 (kk h7 (kk ⟨h8,rfl⟩ (kk h9 (kk h10 (kk ⟨h11,rfl⟩ (kk h12 (kk ⟨h13,rfl⟩ (kk h14 (kk h15 (kk ⟨by simp,h16⟩ (kk ⟨by simp,h17⟩ (kk ⟨by simp,h18⟩ (kk ⟨by simp,h19⟩ (kk (fun _=>h20) (kk h21 (kk (fun h=>by cases h) (kk h22 Ob.ok_nil))))))))))))))))))))))) hn (conz g3 (conz g4 (conz g5 (conz g8 (conz g12 (conz g13 (conz g14 (conz g53 (conz g54 (conz g55 (one g63))))))))))) fun T' q2 q3=>by simp only [gA58,List.cons.injEq,and_true] at q3;exact ⟨rfl,⟨q2,q3⟩,rfl⟩
theorem f4_27_FFFFFFTF_e(p3 p4 p5 p8 p12:Nat)(n13 n14 n54 n55 n63 n199b n217 n223:Int)(v53 v199a v216 v222:AV)(st s1 s2 s3:St)(w198 w214 w220:ByteArray):evR gA58 sL41 (f4P 27) ⟨269,[(3,(pt p3)),(4,(pt p4)),(5,(pt p5)),(8,(pt p8)),(12,(pt p12)),(13,(i64 n13)),(14,(i64 n14)),(53,v53),(54,(i64 n54)),(55,(i64 n55)),(63,(i64 n63))],[]⟩ st [.av FF,.av FF,.av FF,.av FF,.av FF,.av FF,.av TT,.eff (str w198) id,.eff (.tup [v199a,(i64 n199b)]) (fun _=>s1),.av FF,.eff (str w214) id,.eff v216 id,.eff (str w220) id,.eff v222 id,.eff (i64 n217) (fun _=>s2),.eff (i64 n223) (fun _=>s3)]=some (.normal,269,[(pt p3),(pt p4),(pt p5),(pt p8),(pt p12),(i64 n217),(i64 n223),v53,(i64 n54),(i64 n55)],s3,[Bt 3 .eql n63 1 FF,Bt 3 .eql n63 2 FF,Bt 3 .eql n63 3 FF,Bt 3 .eql n63 4 FF,Bt 3 .eql n63 5 FF,Bt 3 .eql n63 6 FF,Bt 3 .eql n63 7 TT,loadA E0 st 9 (.ptr p12 3)=some (str w198)∧st=st,obC 29 [(pt p3),(str w198)] st (.tup [v199a,(i64 n199b)]) s1,Bt 23 .eql n199b 6 FF,∀k∈ [p12,p12,p12,p12],k<s1.next,[p12,p12,p12,p12].contains p12=true∧loadA E0 s1 9 (.ptr p12 3)=some (str w214),[p12,p12,p12,p12].contains p12=true∧loadA E0 s1 22 (.ptr p12 2)=some v216,[p12,p12,p12,p12].contains p12=true∧loadA E0 s1 9 (.ptr p12 3)=some (str w220),[p12,p12,p12,p12].contains p12=true∧loadA E0 s1 22 (.ptr p12 2)=some v222,(true=true→ [p12,p12,p12,p12].all (fun k=>(s1.get k).isSome)=true),obC 32 [(pt p3),(str w214),v216] (s1.hide [p12,p12,p12,p12]) (i64 n217) s2,(false=true→ [p12,p12,p12,p12].all (fun k=>((s2.show s1 [p12,p12,p12,p12]).get k).isSome)=true),obC 33 [(pt p4),(str w220),v222] (s2.show s1 [p12,p12,p12,p12]) (i64 n223) s3]):=by kernel_rfl
theorem f4_27_FFFFFFTF{p3 p4 p5 p8 p12:Nat}{n13 n14 n54 n55 n63 n199b n217 n223:Int}{v53 v199a v216 v222:AV}{st s1 s2 s3:St}{w198 w214 w220:ByteArray}(h1:Bt 3 .eql n63 1 FF)(h2:Bt 3 .eql n63 2 FF)(h3:Bt 3 .eql n63 3 FF)(h4:Bt 3 .eql n63 4 FF)(h5:Bt 3 .eql n63 5 FF)(h6:Bt 3 .eql n63 6 FF)(h7:Bt 3 .eql n63 7 TT)(h8:loadA E0 st 9 (.ptr p12 3)=some (str w198))(h9:obC 29 [(pt p3),(str w198)] st (.tup [v199a,(i64 n199b)]) s1)(h10:Bt 23 .eql n199b 6 FF)(h11:∀k∈ [p12,p12,p12,p12],k<s1.next)(h12:loadA E0 s1 9 (.ptr p12 3)=some (str w214))(h13:loadA E0 s1 22 (.ptr p12 2)=some v216)(h14:loadA E0 s1 9 (.ptr p12 3)=some (str w220))(h15:loadA E0 s1 22 (.ptr p12 2)=some v222)(h16: [p12,p12,p12,p12].all (fun k=>(s1.get k).isSome)=true)(h17:obC 32 [(pt p3),(str w214),v216] (s1.hide [p12,p12,p12,p12]) (i64 n217) s2)(h18:obC 33 [(pt p4),(str w220),v222] (s2.show s1 [p12,p12,p12,p12]) (i64 n223) s3){T:Tm}(hT:f4L12 T (pt p3) (pt p4) (pt p5) (pt p8) (pt p12) (i64 n13) (i64 n14) v53 (i64 n54) (i64 n55) (i64 n63)):AW Tryz.prog (f4P 27) (fun ex T' st'=>ex= .normal∧f4L11 T' (pt p3) (pt p4) (pt p5) (pt p8) (pt p12) (i64 n217) (i64 n223) v53 (i64 n54) (i64 n55)∧st'=s3) T st:=by
 obtain ⟨hn,g3,g4,g5,g8,g12,g13,g14,g53,g54,g55,g63⟩:=hT
 exact genR (f4_27_FFFFFFTF_e p3 p4 p5 p8 p12 n13 n14 n54 n55 n63 n199b n217 n223 v53 v199a v216 v222 st s1 s2 s3 w198 w214 w220) (kk h1 (kk h2 (kk h3 (kk h4 (kk h5 (kk h6 (kk h7 (kk ⟨h8,rfl⟩ (kk h9 (kk h10 (kk h11 (kk ⟨by simp,h12⟩ (kk ⟨by simp,h13⟩ (kk ⟨by simp,h14⟩ (kk ⟨by simp,h15⟩ (kk (fun _=>h16) (kk h17 (kk (fun h=>by cases h) (kk h18 Ob.ok_nil))))))))))))))))))) hn (conz g3 (conz g4 (conz g5 (conz g8 (conz g12 (conz g13 (conz g14 (conz g53 (conz g54 (conz g55 (one g63))))))))))) fun T' q2 q3=>by simp only [gA58,List.cons.injEq,and_true] at q3;exact ⟨rfl,⟨q2,q3⟩,rfl⟩
theorem f4_27_FFFFFFF_e(p3 p4 p5 p8 p12:Nat)(n13 n14 n54 n55 n63:Int)(v53:AV)(st:St):evR gA58 sL41 (f4P 27) ⟨269,[(3,(pt p3)),(4,(pt p4)),(5,(pt p5)),(8,(pt p8)),(12,(pt p12)),(13,(i64 n13)),(14,(i64 n14)),(53,v53),(54,(i64 n54)),(55,(i64 n55)),(63,(i64 n63))],[]⟩ st [.av FF,.av FF,.av FF,.av FF,.av FF,.av FF,.av FF]=some (.normal,269,[(pt p3),(pt p4),(pt p5),(pt p8),(pt p12),(i64 n13),(i64 n14),v53,(i64 n54),(i64 n55)],st,[Bt 3 .eql n63 1 FF,Bt 3 .eql n63 2 FF,Bt 3 .eql n63 3 FF,Bt 3 .eql n63 4 FF,Bt 3 .eql n63 5 FF,Bt 3 .eql n63 6 FF,Bt 3 .eql n63 7 FF]):=by kernel_rfl
theorem f4_27_FFFFFFF{p3 p4 p5 p8 p12:Nat}{n13 n14 n54 n55 n63:Int}{v53:AV}{st:St}(h1:Bt 3 .eql n63 1 FF)(h2:Bt 3 .eql n63 2 FF)(h3:Bt 3 .eql n63 3 FF)(h4:Bt 3 .eql n63 4 FF)(h5:Bt 3 .eql n63 5 FF)(h6:Bt 3 .eql n63 6 FF)(h7:Bt 3 .eql n63 7 FF){T:Tm}(hT:f4L12 T (pt p3) (pt p4) (pt p5) (pt p8) (pt p12) (i64 n13) (i64 n14) v53 (i64 n54) (i64 n55) (i64 n63)):AW Tryz.prog (f4P 27) (fun ex T' st'=>ex= .normal∧f4L11 T' (pt p3) (pt p4) (pt p5) (pt p8) (pt p12) (i64 n13) (i64 n14) v53 (i64 n54) (i64 n55)∧st'=st) T st:=by
 obtain ⟨hn,g3,g4,g5,g8,g12,g13,g14,g53,g54,g55,g63⟩:=hT
 exact genR (f4_27_FFFFFFF_e p3 p4 p5 p8 p12 n13 n14 n54 n55 n63 v53 st) (kk h1 (kk h2 (kk h3 (kk h4 (kk h5 (kk h6 (kk h7 Ob.ok_nil))))))) hn (conz g3 (conz g4 (conz g5 (conz g8 (conz g12 (conz g13 (conz g14 (conz g53 (conz g54 (conz g55 (one g63))))))))))) fun T' q2 q3=>by simp only [gA58,List.cons.injEq,and_true] at q3;exact ⟨rfl,⟨q2,q3⟩,rfl⟩
abbrev sL42:List Nat:= [6034,6035,7226,7234,8000,9240]
theorem f4_28_FFT_e(p3 p4 p5 p8 p12:Nat)(n13 n14 n54 n55 n233 n229:Int)(v53 v240:AV)(st s1 s2:St):evR gA54 sL42 (f4P 28) ⟨269,[(3,(pt p3)),(4,(pt p4)),(5,(pt p5)),(8,(pt p8)),(12,(pt p12)),(13,(i64 n13)),(14,(i64 n14)),(53,v53),(54,(i64 n54)),(55,(i64 n55))],[]⟩ st [.eff FF id,.eff (i64 n233) id,.eff (i64 n229) (fun _=>s1),.eff FF id,.eff v240 id,.eff TT (fun _=>s2)]=some (.normal,269,[(pt p3),(pt p4),(pt p5),(pt p8),v53,(i64 n54),(i64 n55)],s2.show (((s1.show st [p8]).hide [p8]).show (s1.show st [p8]) [p8]) [p8],[∀k∈ [p8],k<st.next,Bt 3 .neq n13 n14 FF,[p8].contains p8=true∧LI st p8 1 n233,(true=true→ [p8].all (fun k=>(st.get k).isSome)=true),obC 34 [(pt p5)] (st.hide [p8]) (i64 n229) s1,Bt 3 .neq n229 n233 FF,(true=true→ [p8].all (fun k=>((s1.show st [p8]).get k).isSome)=true),[p8].contains p12=false∧loadA E0 ((s1.show st [p8]).hide [p8]) 50 (.ptr p12 4)=some v240∧((s1.show st [p8]).hide [p8])=((s1.show st [p8]).hide [p8]),(true=true→ [p8].all (fun k=>((((s1.show st [p8]).hide [p8]).show (s1.show st [p8]) [p8]).get k).isSome)=true),obC 35 [(pt p3),(pt p4),v240] ((((s1.show st [p8]).hide [p8]).show (s1.show st [p8]) [p8]).hide [p8]) TT s2]):=by kernel_rfl
theorem f4_28_FFT{p3 p4 p5 p8 p12:Nat}{n13 n14 n54 n55 n233 n229:Int}{v53 v240:AV}{st s1 s2:St}(h1:∀k∈ [p8],k<st.next)(h2:Bt 3 .neq n13 n14 FF)(h3:LI st p8 1 n233)(h4: [p8].all (fun k=>(st.get k).isSome)=true)(h5:obC 34 [(pt p5)] (st.hide [p8]) (i64 n229) s1)(h6:Bt 3 .neq n229 n233 FF)(h7: [p8].all (fun k=>((s1.show st [p8]).get k).isSome)=true)(h8: [p8].contains p12=false∧loadA E0 ((s1.show st [p8]).hide [p8]) 50 (.ptr p12 4)=some v240)(h9: [p8].all (fun k=>((((s1.show st [p8]).hide [p8]).show (s1.show st [p8]) [p8]).get k).isSome)=true)(h10:obC 35 [(pt p3),(pt p4),v240] ((((s1.show st [p8]).hide [p8]).show (s1.show st [p8]) [p8]).hide [p8]) TT s2){T:Tm}(hT:f4L11 T (pt p3) (pt p4) (pt p5) (pt p8) (pt p12) (i64 n13) (i64 n14) v53 (i64 n54) (i64 n55)):AW Tryz.prog (f4P 28) (fun ex T' st'=>ex= .normal∧f4L6 T' (pt p3) (pt p4) (pt p5) (pt p8) v53 (i64 n54) (i64 n55)∧st'=(s2.show (((s1.show st [p8]).hide [p8]).show (s1.show st [p8]) [p8]) [p8])) T st:=by
 obtain ⟨hn,g3,g4,g5,g8,g12,g13,g14,g53,g54,g55⟩:=hT
 exact genR (f4_28_FFT_e p3 p4 p5 p8 p12 n13 n14 n54 n55 n233 n229 v53 v240 st s1 s2) (kk h1 (kk h2 (kk ⟨by simp,h3⟩ (kk (fun _=>h4) (kk h5 (kk h6 (kk (fun _=>h7) (kk ⟨h8.1,h8.2,rfl⟩ (kk (fun _=>h9) (kk h10 Ob.ok_nil)))))))))) hn (conz g3 (conz g4 (conz g5 (conz g8 (conz g12 (conz g13 (conz g14 (conz g53 (conz g54 (one g55)))))))))) fun T' q2 q3=>by simp only [gA54,List.cons.injEq,and_true] at q3;exact ⟨rfl,⟨q2,q3⟩,rfl⟩
def f4L23(T:Tm)(a3 a4 a5 a8 a26 a27 a53 a54 a55:AV):Prop:=T.n=269∧T.get 3=a3∧T.get 4=a4∧T.get 5=a5∧T.get 8=a8∧T.get 26=a26∧T.get 27=a27∧T.get 53=a53∧T.get 54=a54∧T.get 55=a55
abbrev gA70(T:Tm):List AV:= [T.get 3,T.get 4,T.get 5,T.get 8,T.get 26,T.get 27,T.get 53,T.get 54,T.get 55]
theorem f4_29_e(p3 p4 p5 p8:Nat)(v53 v245 v247:AV)(n54 n55:Int)(st s1 s2:St):evR gA70 [6036,6037] (f4P 29) ⟨269,[(3,(pt p3)),(4,(pt p4)),(5,(pt p5)),(8,(pt p8)),(53,v53),(54,(i64 n54)),(55,(i64 n55))],[]⟩ st [.eff v245 (fun _=>s1),.eff v247 (fun _=>s2)]=some (.normal,269,[(pt p3),(pt p4),(pt p5),(pt p8),v245,v247,v53,(i64 n54),(i64 n55)],s2,[obC 36 [(pt p5)] st v245 s1,obC 37 [(pt p8)] s1 v247 s2]):=by kernel_rfl
theorem f4_29{p3 p4 p5 p8:Nat}{v53 v245 v247:AV}{n54 n55:Int}{st s1 s2:St}(h1:obC 36 [(pt p5)] st v245 s1)(h2:obC 37 [(pt p8)] s1 v247 s2){T:Tm}(hT:f4L6 T (pt p3) (pt p4) (pt p5) (pt p8) v53 (i64 n54) (i64 n55)):AW Tryz.prog (f4P 29) (fun ex T' st'=>ex= .normal∧f4L23 T' (pt p3) (pt p4) (pt p5) (pt p8) v245 v247 v53 (i64 n54) (i64 n55)∧st'=s2) T st:=by
 obtain ⟨hn,g3,g4,g5,g8,g53,g54,g55⟩:=hT
 exact genR (f4_29_e p3 p4 p5 p8 v53 v245 v247 n54 n55 st s1 s2) (kk h1 (kk h2 Ob.ok_nil)) hn (conz g3 (conz g4 (conz g5 (conz g8 (conz g53 (conz g54 (one g55))))))) fun T' q2 q3=>by simp only [gA70,List.cons.injEq,and_true] at q3;exact ⟨rfl,⟨q2,q3⟩,rfl⟩
abbrev sL43:List Nat:= [7249,7251,7252]
theorem f4_30_F_e(p3 p4 p5 p8:Nat)(v26 v27 v53:AV)(n54 n55 n249 n251:Int)(st:St):evR gA70 sL43 (f4P 30) ⟨269,[(3,(pt p3)),(4,(pt p4)),(5,(pt p5)),(8,(pt p8)),(26,v26),(27,v27),(53,v53),(54,(i64 n54)),(55,(i64 n55))],[]⟩ st [.av (i64 n249),.av (i64 n251),.av FF]=some (.normal,269,[(pt p3),(pt p4),(pt p5),(pt p8),v26,v27,v53,(i64 n54),(i64 n55)],st,[lenA E0 73 v26=some (i64 n249),lenA E0 73 v27=some (i64 n251),Bt 3 .neq n249 n251 FF]):=by kernel_rfl
theorem f4_30_F{p3 p4 p5 p8:Nat}{v26 v27 v53:AV}{n54 n55 n249 n251:Int}{st:St}(h1:lenA E0 73 v26=some (i64 n249))(h2:lenA E0 73 v27=some (i64 n251))(h3:Bt 3 .neq n249 n251 FF){T:Tm}(hT:f4L23 T (pt p3) (pt p4) (pt p5) (pt p8) v26 v27 v53 (i64 n54) (i64 n55)):AW Tryz.prog (f4P 30) (fun ex T' st'=>ex= .normal∧f4L23 T' (pt p3) (pt p4) (pt p5) (pt p8) v26 v27 v53 (i64 n54) (i64 n55)∧st'=st) T st:=by
 obtain ⟨hn,g3,g4,g5,g8,g26,g27,g53,g54,g55⟩:=hT
 exact genR (f4_30_F_e p3 p4 p5 p8 v26 v27 v53 n54 n55 n249 n251 st) (kk h1 (kk h2 (kk h3 Ob.ok_nil))) hn (conz g3 (conz g4 (conz g5 (conz g8 (conz g26 (conz g27 (conz g53 (conz g54 (one g55))))))))) fun T' q2 q3=>by simp only [gA70,List.cons.injEq,and_true] at q3;exact ⟨rfl,⟨q2,q3⟩,rfl⟩
def f4L24(T:Tm)(a3 a4 a5 a8 a26 a27 a53 a54 a55 a254 a255:AV):Prop:=T.n=269∧T.get 3=a3∧T.get 4=a4∧T.get 5=a5∧T.get 8=a8∧T.get 26=a26∧T.get 27=a27∧T.get 53=a53∧T.get 54=a54∧T.get 55=a55∧T.get 254=a254∧T.get 255=a255
abbrev gA71(T:Tm):List AV:= [T.get 3,T.get 4,T.get 5,T.get 8,T.get 26,T.get 27,T.get 53,T.get 54,T.get 55,T.get 254,T.get 255]
theorem f4_31_e(p3 p4 p5 p8:Nat)(v26 v27 v53:AV)(n54 n55 n254:Int)(st:St):evR gA71 [7254] (f4P 31) ⟨269,[(3,(pt p3)),(4,(pt p4)),(5,(pt p5)),(8,(pt p8)),(26,v26),(27,v27),(53,v53),(54,(i64 n54)),(55,(i64 n55))],[]⟩ st [.av (i64 n254)]=some (.normal,269,[(pt p3),(pt p4),(pt p5),(pt p8),v26,v27,v53,(i64 n54),(i64 n55),(i64 n254),(i64 0)],st,[lenA E0 73 v26=some (i64 n254)]):=by kernel_rfl
theorem f4_31{p3 p4 p5 p8:Nat}{v26 v27 v53:AV}{n54 n55 n254:Int}{st:St}(h1:lenA E0 73 v26=some (i64 n254)){T:Tm}(hT:f4L23 T (pt p3) (pt p4) (pt p5) (pt p8) v26 v27 v53 (i64 n54) (i64 n55)):AW Tryz.prog (f4P 31) (fun ex T' st'=>ex= .normal∧f4L24 T' (pt p3) (pt p4) (pt p5) (pt p8) v26 v27 v53 (i64 n54) (i64 n55) (i64 n254) (i64 0)∧st'=st) T st:=by
 obtain ⟨hn,g3,g4,g5,g8,g26,g27,g53,g54,g55⟩:=hT
 exact genR (f4_31_e p3 p4 p5 p8 v26 v27 v53 n54 n55 n254 st) (kk h1 Ob.ok_nil) hn (conz g3 (conz g4 (conz g5 (conz g8 (conz g26 (conz g27 (conz g53 (conz g54 (one g55))))))))) fun T' q2 q3=>by simp only [gA71,List.cons.injEq,and_true] at q3;exact ⟨rfl,⟨q2,q3⟩,rfl⟩
abbrev sL44:List Nat:= [7256,7260,7264,7266,7267,8000]
theorem f4_32_TF_e(p3 p4 p5 p8 p260 o260 p264 o264:Nat)(v26 v27 v53:AV)(n54 n55 n254 n255 n261 n265 n267:Int)(st:St):evR gA71 sL44 (f4P 32) ⟨269,[(3,(pt p3)),(4,(pt p4)),(5,(pt p5)),(8,(pt p8)),(26,v26),(27,v27),(53,v53),(54,(i64 n54)),(55,(i64 n55)),(254,(i64 n254)),(255,(i64 n255))],[]⟩ st [.av TT,.eff (.ptr p260 o260) id,.eff (i64 n261) id,.eff (.ptr p264 o264) id,.eff (i64 n265) id,.eff FF id,.av (i64 n267)]=some (.normal,269,[(pt p3),(pt p4),(pt p5),(pt p8),v26,v27,v53,(i64 n54),(i64 n55),(i64 n254),(i64 n267)],st,[Bt 3 .lss n255 n254 TT,∀k∈ [p260,p264],k<st.next,indexAddrA E0 73 v26 (i64 n255)=some (.ptr p260 o260),[p260,p264].contains p260=true∧LI st p260 o260 n261,indexAddrA E0 73 v27 (i64 n255)=some (.ptr p264 o264),[p260,p264].contains p264=true∧LI st p264 o264 n265,Bt 3 .neq n261 n265 FF,Bt 3 .add n255 1 (i64 n267)]):=by kernel_rfl
theorem f4_32_TF{p3 p4 p5 p8 p260 o260 p264 o264:Nat}{v26 v27 v53:AV}{n54 n55 n254 n255 n261 n265 n267:Int}{st:St}(h1:Bt 3 .lss n255 n254 TT)(h2:∀k∈ [p260,p264],k<st.next)(h3:indexAddrA E0 73 v26 (i64 n255)=some (.ptr p260 o260))(h4:LI st p260 o260 n261)(h5:indexAddrA E0 73 v27 (i64 n255)=some (.ptr p264 o264))(h6:LI st p264 o264 n265)(h7:Bt 3 .neq n261 n265 FF)(h8:Bt 3 .add n255 1 (i64 n267)){T:Tm}(hT:f4L24 T (pt p3) (pt p4) (pt p5) (pt p8) v26 v27 v53 (i64 n54) (i64 n55) (i64 n254) (i64 n255)):AW Tryz.prog (f4P 32) (fun ex T' st'=>ex= .normal∧f4L24 T' (pt p3) (pt p4) (pt p5) (pt p8) v26 v27 v53 (i64 n54) (i64 n55) (i64 n254) (i64 n267)∧st'=st) T st:=by
 obtain ⟨hn,g3,g4,g5,g8,g26,g27,g53,g54,g55,g254,g255⟩:=hT
 exact genR (f4_32_TF_e p3 p4 p5 p8 p260 o260 p264 o264 v26 v27 v53 n54 n55 n254 n255 n261 n265 n267 st) (kk h1 (kk h2 (kk h3 (kk ⟨by simp,h4⟩ (kk h5 (kk ⟨by simp,h6⟩ (kk h7 (kk h8 Ob.ok_nil)))))))) hn (conz g3 (conz g4 (conz g5 (conz g8 (conz g26 (conz g27 (conz g53 (conz g54 (conz g55 (conz g254 (one g255))))))))))) fun T' q2 q3=>by simp only [gA71,List.cons.injEq,and_true] at q3;exact ⟨rfl,⟨q2,q3⟩,rfl⟩
theorem f4_32_F_e(p3 p4 p5 p8:Nat)(v26 v27 v53:AV)(n54 n55 n254 n255:Int)(st:St):evR gA54 sL44 (f4P 32) ⟨269,[(3,(pt p3)),(4,(pt p4)),(5,(pt p5)),(8,(pt p8)),(26,v26),(27,v27),(53,v53),(54,(i64 n54)),(55,(i64 n55)),(254,(i64 n254)),(255,(i64 n255))],[]⟩ st [.av FF]=some ((.exit 7),269,[(pt p3),(pt p4),(pt p5),(pt p8),v53,(i64 n54),(i64 n55)],st,[Bt 3 .lss n255 n254 FF]):=by kernel_rfl
theorem f4_32_F{p3 p4 p5 p8:Nat}{v26 v27 v53:AV}{n54 n55 n254 n255:Int}{st:St}(h1:Bt 3 .lss n255 n254 FF){T:Tm}(hT:f4L24 T (pt p3) (pt p4) (pt p5) (pt p8) v26 v27 v53 (i64 n54) (i64 n55) (i64 n254) (i64 n255)):AW Tryz.prog (f4P 32) (fun ex T' st'=>ex=(.exit 7)∧f4L6 T' (pt p3) (pt p4) (pt p5) (pt p8) v53 (i64 n54) (i64 n55)∧st'=st) T st:=by
 obtain ⟨hn,g3,g4,g5,g8,g26,g27,g53,g54,g55,g254,g255⟩:=hT
 exact genR (f4_32_F_e p3 p4 p5 p8 v26 v27 v53 n54 n55 n254 n255 st) (kk h1 Ob.ok_nil) hn (conz g3 (conz g4 (conz g5 (conz g8 (conz g26 (conz g27 (conz g53 (conz g54 (conz g55 (conz g254 (one g255))))))))))) fun T' q2 q3=>by simp only [gA54,List.cons.injEq,and_true] at q3;exact ⟨rfl,⟨q2,q3⟩,rfl⟩
theorem f4_33_e(p3 p4 p5 p8:Nat)(v53:AV)(n54 n55 n268:Int)(st:St):evR gA54 [7268] (f4P 33) ⟨269,[(3,(pt p3)),(4,(pt p4)),(5,(pt p5)),(8,(pt p8)),(53,v53),(54,(i64 n54)),(55,(i64 n55))],[]⟩ st [.av (i64 n268)]=some (.normal,269,[(pt p3),(pt p4),(pt p5),(pt p8),v53,(i64 n54),(i64 n268)],st,[Bt 3 .add n55 1 (i64 n268)]):=by kernel_rfl
theorem f4_33{p3 p4 p5 p8:Nat}{v53:AV}{n54 n55 n268:Int}{st:St}(h1:Bt 3 .add n55 1 (i64 n268)){T:Tm}(hT:f4L6 T (pt p3) (pt p4) (pt p5) (pt p8) v53 (i64 n54) (i64 n55)):AW Tryz.prog (f4P 33) (fun ex T' st'=>ex= .normal∧f4L6 T' (pt p3) (pt p4) (pt p5) (pt p8) v53 (i64 n54) (i64 n268)∧st'=st) T st:=by
 obtain ⟨hn,g3,g4,g5,g8,g53,g54,g55⟩:=hT
 exact genR (f4_33_e p3 p4 p5 p8 v53 n54 n55 n268 st) (kk h1 Ob.ok_nil) hn (conz g3 (conz g4 (conz g5 (conz g8 (conz g53 (conz g54 (one g55))))))) fun T' q2 q3=>by simp only [gA54,List.cons.injEq,and_true] at q3;exact ⟨rfl,⟨q2,q3⟩,rfl⟩
theorem f4_34_e(st:St):evR gA4 [] (f4P 34) ⟨269,[],[]⟩ st []=some (.ret,269,[TT],st,[]):=by kernel_rfl
theorem f4_34{st:St}{T:Tm}(hT:f4L8 T):AW Tryz.prog (f4P 34) (fun ex T' st'=>ex= .ret∧f4L1 T' TT∧st'=st) T st:=by
 have hn:T.n=269:=hT
 exact genR (f4_34_e st) Ob.ok_nil hn (fun q hq=>by cases hq) fun T' q2 q3=>by simp only [gA4,List.cons.injEq,and_true] at q3;exact ⟨rfl,⟨q2,q3⟩,rfl⟩
end
section
set_option maxRecDepth 100000
theorem f4n_27_FFTFTF_e(p3 p4 p5 p8 p12:Nat)(n13 n14 n54 n55 n63 n136 n148c n154c:Int)(v53:AV)(st s1 s2 s3:St):evR gA58 sL41 (f4P 27) ⟨269,[(3,(pt p3)),(4,(pt p4)),(5,(pt p5)),(8,(pt p8)),(12,(pt p12)),(13,(i64 n13)),(14,(i64 n14)),(53,v53),(54,(i64 n54)),(55,(i64 n55)),(63,(i64 n63))],[]⟩ st [.av FF,.av FF,.av TT,.eff (i64 n136) id,.av FF,.eff (.tup [.nilp,.nils,(i64 n148c)]) (fun _=>s1),.eff (.tup [.nilp,.nils,(i64 n154c)]) (fun _=>s2),.eff TT (fun _=>s3),.av FF]=some (.normal,269,[(pt p3),(pt p4),(pt p5),(pt p8),(pt p12),(i64 n148c),(i64 n154c),v53,(i64 n54),(i64 n55)],s3,[Bt 3 .eql n63 1 FF,Bt 3 .eql n63 2 FF,Bt 3 .eql n63 3 TT,LI st p12 0 n136∧st=st,Bt 3 .eql n136 4 FF,obC 14 [(pt p3)] st (.tup [.nilp,.nils,(i64 n148c)]) s1,obC 15 [(pt p4)] s1 (.tup [.nilp,.nils,(i64 n154c)]) s2,obC 24 [.nils,.nils] s2 TT s3,binA E0 .neq 4 TT TT=some FF]):=by kernel_rfl
theorem f4n_27_FFTFTF{p3 p4 p5 p8 p12:Nat}{n13 n14 n54 n55 n63 n136 n148c n154c:Int}{v53:AV}{st s1 s2 s3:St}(h1:Bt 3 .eql n63 1 FF)(h2:Bt 3 .eql n63 2 FF)(h3:Bt 3 .eql n63 3 TT)(h4:LI st p12 0 n136)(h5:Bt 3 .eql n136 4 FF)(h6:obC 14 [(pt p3)] st (.tup [.nilp,.nils,(i64 n148c)]) s1)(h7:obC 15 [(pt p4)] s1 (.tup [.nilp,.nils,(i64 n154c)]) s2)(h8:obC 24 [.nils,.nils] s2 TT s3)(h9:binA E0 .neq 4 TT TT=some FF){T:Tm}(hT:f4L12 T (pt p3) (pt p4) (pt p5) (pt p8) (pt p12) (i64 n13) (i64 n14) v53 (i64 n54) (i64 n55) (i64 n63)):AW Tryz.prog (f4P 27) (fun ex T' st'=>ex= .normal∧f4L11 T' (pt p3) (pt p4) (pt p5) (pt p8) (pt p12) (i64 n148c) (i64 n154c) v53 (i64 n54) (i64 n55)∧st'=s3) T st:=by
 obtain ⟨hn,g3,g4,g5,g8,g12,g13,g14,g53,g54,g55,g63⟩:=hT
 exact genR (f4n_27_FFTFTF_e p3 p4 p5 p8 p12 n13 n14 n54 n55 n63 n136 n148c n154c v53 st s1 s2 s3) (kk h1 (kk h2 (kk h3 (kk ⟨h4,rfl⟩ (kk h5 (kk h6 (kk h7 (kk h8 (kk h9 Ob.ok_nil))))))))) hn (conz g3 (conz g4 (conz g5 (conz g8 (conz g12 (conz g13 (conz g14 (conz g53 (conz g54 (conz g55 (one g63))))))))))) fun T' q2 q3=>by simp only [gA58,List.cons.injEq,and_true] at q3;exact ⟨rfl,⟨q2,q3⟩,rfl⟩
theorem f4n_27_FFFTTTF_e(p3 p4 p5 p8 p12:Nat)(n13 n14 n54 n55 n63 n136 n148c n154c:Int)(v53 v140 v144:AV)(st s1 s2 s3 s4 s5:St):evR gA58 sL41 (f4P 27) ⟨269,[(3,(pt p3)),(4,(pt p4)),(5,(pt p5)),(8,(pt p8)),(12,(pt p12)),(13,(i64 n13)),(14,(i64 n14)),(53,v53),(54,(i64 n54)),(55,(i64 n55)),(63,(i64 n63))],[]⟩ st [.av FF,.av FF,.av FF,.av TT,.eff (i64 n136) id,.av TT,.eff v140 id,.eff (.tup []) (fun _=>s1),.eff v144 id,.eff (.tup []) (fun _=>s2),.eff (.tup [.nilp,.nils,(i64 n148c)]) (fun _=>s3),.eff (.tup [.nilp,.nils,(i64 n154c)]) (fun _=>s4),.eff TT (fun _=>s5),.av FF]=some (.normal,269,[(pt p3),(pt p4),(pt p5),(pt p8),(pt p12),(i64 n148c),(i64 n154c),v53,(i64 n54),(i64 n55)],s5,[Bt 3 .eql n63 1 FF,Bt 3 .eql n63 2 FF,Bt 3 .eql n63 3 FF,Bt 3 .eql n63 4 TT,LI st p12 0 n136∧st=st,Bt 3 .eql n136 4 TT,loadA E0 st 50 (.ptr p12 4)=some v140∧st=st,obC 22 [(pt p3),v140] st (.tup []) s1,loadA E0 s1 50 (.ptr p12 4)=some v144∧s1=s1,obC 23 [(pt p4),v144] s1 (.tup []) s2,obC 14 [(pt p3)] s2 (.tup [.nilp,.nils,(i64 n148c)]) s3,obC 15 [(pt p4)] s3 (.tup [.nilp,.nils,(i64 n154c)]) s4,obC 24 [.nils,.nils] s4 TT s5,binA E0 .neq 4 TT TT=some FF]):=by kernel_rfl
theorem f4n_27_FFFTTTF{p3 p4 p5 p8 p12:Nat}{n13 n14 n54 n55 n63 n136 n148c n154c:Int}{v53 v140 v144:AV}{st s1 s2 s3 s4 s5:St}(h1:Bt 3 .eql n63 1 FF)(h2:Bt 3 .eql n63 2 FF)(h3:Bt 3 .eql n63 3 FF)(h4:Bt 3 .eql n63 4 TT)(h5:LI st p12 0 n136)(h6:Bt 3 .eql n136 4 TT)(h7:loadA E0 st 50 (.ptr p12 4)=some v140)(h8:obC 22 [(pt p3),v140] st (.tup []) s1)(h9:loadA E0 s1 50 (.ptr p12 4)=some v144)(h10:obC 23 [(pt p4),v144] s1 (.tup []) s2)(h11:obC 14 [(pt p3)] s2 (.tup [.nilp,.nils,(i64 n148c)]) s3)(h12:obC 15 [(pt p4)] s3 (.tup [.nilp,.nils,(i64 n154c)]) s4)(h13:obC 24 [.nils,.nils] s4 TT s5)(h14:binA E0 .neq 4 TT TT=some FF){T:Tm}(hT:f4L12 T (pt p3) (pt p4) (pt p5) (pt p8) (pt p12) (i64 n13) (i64 n14) v53 (i64 n54) (i64 n55) (i64 n63)):AW Tryz.prog (f4P 27) (fun ex T' st'=>ex= .normal∧f4L11 T' (pt p3) (pt p4) (pt p5) (pt p8) (pt p12) (i64 n148c) (i64 n154c) v53 (i64 n54) (i64 n55)∧st'=s5) T st:=by
 obtain ⟨hn,g3,g4,g5,g8,g12,g13,g14,g53,g54,g55,g63⟩:=hT
 exact genR (f4n_27_FFFTTTF_e p3 p4 p5 p8 p12 n13 n14 n54 n55 n63 n136 n148c n154c v53 v140 v144 st s1 s2 s3 s4 s5) (kk h1 (kk h2 (kk h3 (kk h4 (kk ⟨h5,rfl⟩ (kk h6 (kk ⟨h7,rfl⟩ (kk h8 (kk ⟨h9,rfl⟩ (kk h10 (kk h11 (kk h12 (kk h13 (kk h14 Ob.ok_nil)))))))))))))) hn (conz g3 (conz g4 (conz g5 (conz g8 (conz g12 (conz g13 (conz g14 (conz g53 (conz g54 (conz g55 (one g63))))))))))) fun T' q2 q3=>by simp only [gA58,List.cons.injEq,and_true] at q3;exact ⟨rfl,⟨q2,q3⟩,rfl⟩
end
section
set_option maxRecDepth 8000
structure WS where
 st:St
 fv:AV
 s:PS
 r:RS
 w:Nat
 v:Nat
 nx:Nat
 op:Nat
 ct:Nat
structure PlI (d m e U:Nat) (σ:WS):Prop where
 p:WA σ.st σ.w d m σ.s σ.nx σ.op σ.ct
 q:RA σ.st σ.v e σ.fv σ.r σ.nx σ.op σ.ct
 gl:GT σ.st
 sim:Sim σ.s σ.r
 byt:BytR σ.r
 used:usedR σ.r.F≤U
 nx:1≤σ.nx∧σ.nx≤100000000
 op:σ.op≤99999999
 ct:σ.ct≤8
structure Ac where
 what:Int
 n:Int
 bv:AV
 xs:List Nat
 name:ByteArray
 pv:AV
 ps:List Int
abbrev Ac.bs(A:Ac):List Int:=A.xs.map Int.ofNat
structure AcOk (A:Ac):Prop where
 n1: -9223372036854775808≤A.n
 n2:A.n≤9223372036854775807
 b:BV A.bv A.bs
 x:∀x∈A.xs,x<256
 name:A.name.size≤1000000000000
 p:BP A.pv A.ps
 ps:PicksOk A.ps
def Ac.row(A:Ac):AObj:= .row [i64 A.what,i64 A.n,A.bv,str A.name,A.pv] 52
theorem Ac.calm{A:Ac}(h:AcOk A)(n:Nat):Calm n A.row:=fun id vs _=>by
 show AObj.row (frzL id vs [i64 A.what,i64 A.n,A.bv,str A.name,A.pv]) 52=_
 have h1:frz id vs A.bv=A.bv:=by
  rcases h.b with ⟨_,h⟩|⟨fl,h⟩
  ·rw [h];rfl
  ·rw [h];simp only [frz,frz_u8]
 simp only [frzL,h1,frz_bp h.p]
 rfl
variable {d m e U a:Nat} {σ:WS} {A:Ac}
theorem WA.map_ne{st:St}{w d m nx op ct:Nat}{s:PS}(H:WA st w d m s nx op ct){i:Nat}{vs:List AV}{ty:Nat}(h:st.get i=some (.row vs ty)):i≠m:=by
 obtain ⟨bs,c,hm⟩:=H.disk.map
 exact map_ne_row hm h
theorem RA.fid_row{st:St}{v e nx op ct:Nat}{fv:AV}{r:RS}(H:RA st v e fv r nx op ct):∀i∈fid fv,∃vs,st.get i=some (.row vs 110):=fun i hi=>by
 rcases H.disk.fv with ⟨_,h⟩|⟨_,f,fl,h,hg⟩
 ·rw [h] at hi;cases hi
 ·rw [h] at hi
  simp only [fid,List.mem_singleton] at hi
  subst hi
  exact ⟨_,hg⟩
theorem WA.out{st:St}{w d m nx op ct:Nat}{s:PS}(H:WA st w d m s nx op ct){i:Nat}{vs:List AV}{ty:Nat}(h:st.get i=some (.row vs ty))(h1:ty≠107)(h2:ty≠93):i∉ [d,m,w]:=by
 simp only [List.mem_cons,List.not_mem_nil,or_false,not_or]
 exact ⟨row_ne h H.disk.row h1,H.map_ne h,row_ne h H.row h2⟩
theorem RA.out{st:St}{v e nx op ct:Nat}{fv:AV}{r:RS}(H:RA st v e fv r nx op ct){i:Nat}{vs:List AV}{ty:Nat}(h:st.get i=some (.row vs ty))(h1:ty≠98)(h2:ty≠71)(h3:ty≠110):i∉ [e,v]∧i∉e::fid fv:=by
 refine ⟨?_,?_⟩
 ·simp only [List.mem_cons,List.not_mem_nil,or_false,not_or]
  exact ⟨row_ne h H.disk.row h1,row_ne h H.row h2⟩
 ·simp only [List.mem_cons,not_or]
  refine ⟨row_ne h H.disk.row h1,fun hm=> ?_⟩
  obtain ⟨vs',hg⟩:=H.fid_row i hm
  exact row_ne h hg h3 rfl
theorem RA.restF{st st':St}{v e nx op ct:Nat}{fv:AV}{r:RS}{S:List Nat}(h:RA st v e fv r nx op ct)(hg:RGood r.F)(hr:RestF st st' S)(h1:e∉S)(h2:v∉S)(h3:∀i∈fid fv,i∉S):RA st' v e fv r nx op ct:=
 ⟨h.disk.restF h.wf hg hr h1 h3,hr.keep _ _ h2 h.row (fun _ _ _=>rfl),hr.wf,hr.lock.trans h.lock⟩
theorem WA.keepR{st st':St}{w d m nx op ct:Nat}{s:PS}{S:List Nat}(h:WA st w d m s nx op ct)(hg:∀f∈s.L,DV f)(hr:KeepR st st' S)(h1:d∉S)(h2:m∉S)(h3:w∉S):WA st' w d m s nx op ct:=by
 obtain ⟨bs,c,hm⟩:=h.disk.map
 exact ⟨⟨hr.keep _ _ h1 (fun vs q=>by cases q) h.disk.row (fun id vs _=>rfl),bs,c,hr.keep _ _ h2 (fun vs q=>by cases q) hm (calm_map hg _ bs c)⟩,hr.keep _ _ h3 (fun vs q=>by cases q) h.row (fun _ _ _=>rfl),hr.wf,hr.lock.trans h.lock⟩
theorem PlI.sep(H:PlI d m e U σ):e∉ [d,m,σ.w]∧σ.v∉ [d,m,σ.w]∧∀i∈fid σ.fv,i∉ [d,m,σ.w]:=
 ⟨H.p.out H.q.disk.row (by decide) (by decide),H.p.out H.q.row (by decide) (by decide),fun i hi=>by
  obtain ⟨vs,hg⟩:=H.q.fid_row i hi
  exact H.p.out hg (by decide) (by decide)⟩
theorem PlI.sepR(H:PlI d m e U σ):d∉ [e,σ.v]∧m∉ [e,σ.v]∧σ.w∉ [e,σ.v]:=by
 obtain ⟨h1,h2,_⟩:=H.sep
 simp only [List.mem_cons,List.not_mem_nil,or_false,not_or] at h1 h2⊢
 exact ⟨⟨fun q=>h1.1 q.symm,fun q=>h2.1 q.symm⟩,⟨fun q=>h1.2.1 q.symm,fun q=>h2.2.1 q.symm⟩,⟨fun q=>h1.2.2 q.symm,fun q=>h2.2.2 q.symm⟩⟩
theorem PlI.afterP(H:PlI d m e U σ){z:St}{S:List Nat}(hr:RestF σ.st z S)(hS:∀i∈S,i∈ [d,m,σ.w]):RA z σ.v e σ.fv σ.r σ.nx σ.op σ.ct:=by
 obtain ⟨h1,h2,h3⟩:=H.sep
 exact H.q.restF H.sim.rgood hr (fun q=>h1 (hS _ q)) (fun q=>h2 (hS _ q)) (fun i hi q=>h3 i hi (hS _ q))
theorem PlI.afterR(H:PlI d m e U σ){z z':St}{s':PS}{nx' op' ct':Nat}(hW:WA z σ.w d m s' nx' op' ct')(hg:∀f∈s'.L,DV f){S:List Nat}(hr:KeepR z z' S)(hS:∀i∈S,i∈ [e,σ.v]):WA z' σ.w d m s' nx' op' ct':=by
 obtain ⟨h1,h2,h3⟩:=H.sepR
 exact hW.keepR hg hr (fun q=>h1 (hS _ q)) (fun q=>h2 (hS _ q)) (fun q=>h3 (hS _ q))
theorem PlI.mono(H:PlI d m e U σ){U':Nat}(h:U≤U'):PlI d m e U' σ:={H with used:=Nat.le_trans H.used h}
theorem act_keepP(H:PlI d m e U σ)(hA:σ.st.get a=some A.row)(hAo:AcOk A){z:St}{S:List Nat}(hr:RestF σ.st z S)(hS:∀i∈S,i∈ [d,m,σ.w]):z.get a=some A.row:=
 hr.keep a _ (fun q=>H.p.out hA (by decide) (by decide) (hS _ q)) hA (A.calm hAo _)
theorem act_keepR{z z':St}{v e nx op ct:Nat}{fv:AV}{r:RS}(H:RA z v e fv r nx op ct)(hA:z.get a=some A.row)(hAo:AcOk A){S:List Nat}(hr:KeepR z z' S)(hS:∀i∈S,i∈ [e,v]):z'.get a=some A.row:=
 hr.keep a _ (fun q=>(H.out hA (by decide) (by decide) (by decide)).1 (hS _ q)) (fun vs q=>by cases q) hA (A.calm hAo _)
theorem ldWhat{st:St}(h:st.get a=some A.row):loadA E0 st 3 (.ptr a 0)=some (i64 A.what):=load_row h (p3 rfl)
theorem ldN{st:St}(h:st.get a=some A.row):loadA E0 st 3 (.ptr a 1)=some (i64 A.n):=load_row h (p3 rfl)
theorem ldB{st:St}(h:st.get a=some A.row):loadA E0 st 22 (.ptr a 2)=some A.bv:=load_row h (part24 rfl)
theorem ldName{st:St}(h:st.get a=some A.row):loadA E0 st 9 (.ptr a 3)=some (str A.name):=load_row h (p9 rfl)
theorem tyPk:∃i,E0.ty 50=some i∧isAggD i.desc=false:=by
 have:(E0.ty 50).map (fun i=>isAggD i.desc)=some false:=by kernel_rfl
 obtain ⟨i,h1,h2⟩:=Option.map_eq_some_iff.1 this
 exact ⟨i,h1,h2⟩
theorem ldP{st:St}(h:st.get a=some A.row):loadA E0 st 50 (.ptr a 4)=some A.pv:=by
 obtain ⟨i,h1,h2⟩:=tyPk
 exact load_row h (plainT h1 h2 rfl)
theorem one_mem{a:Nat}{I:List Nat}{st:St}{o:AObj}(hw:st.wf)(ho:st.get a=some o)(hI:∀x∈I,x=a):∀k∈I,k<st.next:=fun k hk=>by rw [hI k hk];exact hw _ _ ho
theorem one_all{a:Nat}{I:List Nat}{st:St}{o:AObj}(ho:st.get a=some o)(hI:∀x∈I,x=a):I.all (fun k=>(st.get k).isSome)=true:=all_some fun k hk=>⟨o,by rw [hI k hk];exact ho⟩
def Br(d e a:Nat)(lv:AV)(len i:Nat)(w:Int)(σ σ':WS):Prop:=∃er:Int,∀T,f4L12 T (.ptr d 0) (.ptr e 0) (.ptr σ.w 0) (.ptr σ.v 0) (.ptr a 0) (i64 0) (i64 0) lv (i64 len) (i64 i) (i64 w)→
 AW Tryz.prog (f4P 27) (fun ex T' z=>ex= .normal∧f4L11 T' (.ptr d 0) (.ptr e 0) (.ptr σ'.w 0) (.ptr σ'.v 0) (.ptr a 0) (i64 er) (i64 er) lv (i64 len) (i64 i)∧z=σ'.st) T σ.st
variable {lv:AV} {len i:Nat}
theorem br_sync(H:PlI d m e U σ)(hU:U<1000000000)(hA:σ.st.get a=some A.row)(hAo:AcOk A):∃σ',PlI d m e U σ'∧σ'.st.get a=some A.row∧Br d e a lv len i 1 σ σ':=by
 obtain ⟨z1,a1,a2,a3⟩:=gsync_ok H.p H.gl H.sim.g H.op
 have hz:=H.afterP a3.f (by simp)
 have hA1:=act_keepP H hA hAo a3.f (by simp)
 obtain ⟨z2,r',b1,b2,b3,b4⟩:=rgsync_ok hz (H.sim.fine H.used).2 hU H.op
 obtain ⟨q1,q2⟩:=sim_gsync H.sim b2
 have kr:=b4.rd hz.disk
 rw [←q1] at b1
 have hu:usedR r'.F≤usedR σ.r.F:=by
  unfold RGSync at b2;split at b2
  ·rw [b2];exact Nat.le_refl _
  ·exact used_rSync b2
 exact ⟨⟨z2,σ.fv,(gSync σ.s σ.op).2,r',σ.w,σ.v,σ.nx,σ.op,σ.ct⟩,⟨H.afterR a2 (fun f hf=>(q2.good f hf).1) kr (by simp),b3,(kr.gl.trans a3.gl).trans H.gl,q2,byt_gsync H.byt b2,Nat.le_trans hu H.used,H.nx,H.op,H.ct⟩,act_keepR hz hA1 hAo kr (by simp),_,fun T hT=>f4_27_T (eqlT rfl) a1 b1 hT⟩
theorem nn_ok{k:Int}(h:k≤9223372036854775807):0≤nn k∧nn k≤9223372036854775807:=by unfold nn;split<;>omega
theorem RA.disk'{z z':St}{v e nx op ct:Nat}{fv fv':AV}{r r':RS}(h:RA z v e fv r nx op ct)(hp:RD z' e fv' r')(kr:KeepR z z' [e]):RA z' v e fv' r' nx op ct:=
 ⟨hp,kr.keep v _ (by simp [h.ve]) (fun vs q=>by cases q) h.row (fun _ _ _=>rfl),kr.wf,kr.lock.trans h.lock⟩
theorem br_quota(H:PlI d m e U σ)(hA:σ.st.get a=some A.row)(hAo:AcOk A):∃σ',PlI d m e U σ'∧σ'.st.get a=some A.row∧Br d e a lv len i 5 σ σ':=by
 obtain ⟨z1,b1,p1,R1⟩:=quota_ok H.p.disk H.p.wf H.p.lock A.n
 have hz:=H.afterP R1.f (by simp)
 have hA1:=act_keepP H hA hAo R1.f (by simp)
 obtain ⟨z2,b2,q2,R2⟩:=rquota_ok hz.disk hz.wf hz.lock A.n
 have kr:KeepR z1 z2 [e]:=R2.f.r
 exact ⟨⟨z2,σ.fv,{σ.s with q:=nn A.n},{σ.r with q:=nn A.n},σ.w,σ.v,σ.nx,σ.op,σ.ct⟩,⟨H.afterR (H.p.disk' p1 R1) (fun f hf=>(H.sim.good f hf).1) kr (by simp),hz.disk' q2 kr,(R2.gl.trans R1.gl).trans H.gl,{H.sim with q:=rfl,qb:=nn_ok hAo.n2},H.byt,H.used,H.nx,H.op,H.ct⟩,act_keepR hz hA1 hAo kr (by simp),_,
  fun T hT=>f4_27_FFFFT (eqlF (by decide)) (eqlF (by decide)) (eqlF (by decide)) (eqlF (by decide)) (eqlT rfl) (ldN hA) b1 (ldN hA1) b2 hT⟩
theorem br_fuse(H:PlI d m e U σ)(hA:σ.st.get a=some A.row)(hAo:AcOk A):∃σ',PlI d m e U σ'∧σ'.st.get a=some A.row∧Br d e a lv len i 6 σ σ':=by
 obtain ⟨z1,b1,p1,R1⟩:=fuse_ok H.p.disk H.p.wf H.p.lock A.n
 have hz:=H.afterP R1.f (by simp)
 have hA1:=act_keepP H hA hAo R1.f (by simp)
 obtain ⟨z2,b2,q2,R2⟩:=rfuse_ok hz.disk hz.wf hz.lock A.n
 have kr:KeepR z1 z2 [e]:=R2.f.r
 exact ⟨⟨z2,σ.fv,{σ.s with fu:=nn A.n},{σ.r with fu:=nn A.n},σ.w,σ.v,σ.nx,σ.op,σ.ct⟩,⟨H.afterR (H.p.disk' p1 R1) (fun f hf=>(H.sim.good f hf).1) kr (by simp),hz.disk' q2 kr,(R2.gl.trans R1.gl).trans H.gl,{H.sim with fu:=rfl,fub:=nn_ok hAo.n2},H.byt,H.used,H.nx,H.op,H.ct⟩,act_keepR hz hA1 hAo kr (by simp),_,
  fun T hT=>f4_27_FFFFFT (eqlF (by decide)) (eqlF (by decide)) (eqlF (by decide)) (eqlF (by decide)) (eqlF (by decide)) (eqlT rfl) (ldN hA) b1 (ldN hA1) b2 hT⟩
theorem br_none(H:PlI d m e U σ)(hA:σ.st.get a=some A.row){w:Int}(h1:w≠1)(h2:w≠2)(h3:w≠3)(h4:w≠4)(h5:w≠5)(h6:w≠6)(h7:w≠7):∃σ',PlI d m e U σ'∧σ'.st.get a=some A.row∧Br d e a lv len i w σ σ':=
 ⟨σ,H,hA,_,fun _ hT=>f4_27_FFFFFFF (eqlF h1) (eqlF h2) (eqlF h3) (eqlF h4) (eqlF h5) (eqlF h6) (eqlF h7) hT⟩
end
section
set_option maxRecDepth 8000
variable {d m e U a:Nat} {σ:WS} {A:Ac} {lv:AV} {len i:Nat}
theorem WA.del{st:St}{w d m nx op ct:Nat}{s:PS}(H:WA st w d m s nx op ct){a:Nat}(h:a∉ [d,m,w]):WA (st.del a) w d m s nx op ct:=by
 simp only [List.mem_cons,List.not_mem_nil,or_false,not_or] at h
 obtain ⟨bs,c,hm⟩:=H.disk.map
 exact ⟨⟨by rw [St.get_del,if_neg (fun e=>h.1 e.symm)];exact H.disk.row,bs,c,by rw [St.get_del,if_neg (fun e=>h.2.1 e.symm)];exact hm⟩,by rw [St.get_del,if_neg (fun e=>h.2.2 e.symm)];exact H.row,del_wf H.wf a,H.lock⟩
theorem hideP(H:PlI d m e U σ)(hA:σ.st.get a=some A.row){f:Nat}{args:List AV}{code:AV}{s':PS}{nx' op' ct':Nat}{I:List Nat}(hI:∀x∈I,x=a)
  (h:WA (σ.st.del a) σ.w d m σ.s σ.nx σ.op σ.ct→∃z,obC f args (σ.st.del a) code z∧WA z σ.w d m s' nx' op' ct'∧RestF (σ.st.del a) z [d,m,σ.w]):
  ∃s1,obC f args (σ.st.hide I) code s1∧WA (s1.show σ.st I) σ.w d m s' nx' op' ct'∧RestF σ.st (s1.show σ.st I) [d,m,σ.w]∧(s1.show σ.st I).get a=some A.row:=by
 have n1:=H.p.out hA (by decide) (by decide)
 obtain ⟨z,h1,h2,h3⟩:=h (H.p.del n1)
 obtain ⟨s1,b1,b2,b3,b4⟩:=hid_ok H.p.wf H.p.lock (gt_vals H.gl) hI hA h1 h3 n1
 have n1':=n1
 simp only [List.mem_cons,List.not_mem_nil,or_false,not_or] at n1'
 obtain ⟨bs,c,hm⟩:=h2.disk.map
 obtain ⟨bs0,c0,hm0⟩:=H.p.disk.map
 exact ⟨s1,b1,⟨⟨by rw [b3 _ (fun h=>n1'.1 h.symm) (.inl ⟨_,H.p.disk.row⟩)];exact h2.disk.row,bs,c,by rw [b3 _ (fun h=>n1'.2.1 h.symm) (.inl ⟨_,hm0⟩)];exact hm⟩,by rw [b3 _ (fun h=>n1'.2.2 h.symm) (.inl ⟨_,H.p.row⟩)];exact h2.row,b2.wf,b2.lock.trans H.p.lock⟩,b2,b4⟩
theorem segK_eq{s:PS}{r:RS}(h:Sim s r):(s.L.map PF.name).Perm (r.F.map RF.name)∧Ord (r.F.map RF.name)∧(r.F.map RF.name).length≤4096∧∀n∈r.F.map RF.name,mayS n:=
 ⟨sim_names h,h.ord,by rw [List.length_map];exact h.len,fun n hn=>by
  obtain ⟨f,hf,rfl⟩:=List.mem_map.1 hn
  exact h.may f hf⟩
theorem br_retire(H:PlI d m e U σ)(hA:σ.st.get a=some A.row)(hAo:AcOk A):∃σ',PlI d m e U σ'∧σ'.st.get a=some A.row∧Br d e a lv len i 2 σ σ':=by
 obtain ⟨k1,k2,k3,k4⟩:=segK_eq H.sim
 have hI:∀x∈ [a,a],x=a:=by simp
 obtain ⟨s1,b1,b2,b3,b4⟩:=hideP H hA (I:= [a,a]) (code:=i64 (gRet σ.op A.n (segK σ.r) σ.s).1) (s':=(gRet σ.op A.n (segK σ.r) σ.s).2) (nx':=σ.nx) (op':=σ.op) (ct':=σ.ct) (f:=20) (args:= [.ptr σ.w 0,i64 A.n]) hI (fun W=>by
  obtain ⟨z,x1,x2,x3⟩:=gretire_ok (bf:=A.n) W H.gl H.sim.g k1 k2 k3 k4
  exact ⟨z,x1,x2,(x3.f.weak (by simp))⟩)
 have hz:=H.afterP b3 (fun _ h=>h)
 obtain ⟨q1,q2⟩:=sim_ret σ.op A.n (segK σ.r) H.sim
 obtain ⟨z2,fv',c1,c2,kr⟩:=rgretire_ok (bf:=A.n) hz H.sim
 change obC 21 _ _ (i64 (rRet σ.op A.n (segK σ.r) σ.r).1) _ at c1
 rw [←q1] at c1
 exact ⟨⟨z2,fv',(gRet σ.op A.n (segK σ.r) σ.s).2,(rRet σ.op A.n (segK σ.r) σ.r).2,σ.w,σ.v,σ.nx,σ.op,σ.ct⟩,⟨H.afterR b2 (fun f hf=>(q2.good f hf).1) kr (by simp),c2,(kr.gl.trans b3.gl).trans H.gl,q2,byt_ret _ _ _ H.byt,Nat.le_trans (used_rRet _ _ _ H.sim) H.used,H.nx,H.op,H.ct⟩,act_keepR hz b4 hAo kr (by simp),_,
  fun T hT=>f4_27_FT (eqlF (by decide)) (eqlT rfl) (one_mem H.p.wf hA hI) (ldN hA) (ldN hA) (one_all hA hI) b1 c1 hT⟩
theorem both_app(H:PlI d m e U σ)(hU:U<900000000)(hA:σ.st.get a=some A.row)(hAo:AcOk A)(hb:A.xs.length≤90000000):∃s1 σ',PlI d m e (U+A.xs.length) σ'∧σ'.st.get a=some A.row∧σ'.w=σ.w∧σ'.v=σ.v∧
  obC 32 [.ptr d 0,str A.name,A.bv] (σ.st.hide [a,a,a,a]) (i64 (appE σ.s A.name A.bs)) s1∧obC 33 [.ptr e 0,str A.name,A.bv] (s1.show σ.st [a,a,a,a]) (i64 (appE σ.s A.name A.bs)) σ'.st:=by
 have hu:=H.used
 have hbl:A.bs.length=A.xs.length:=by simp
 obtain ⟨z1,s',y1,y2,y3,y4⟩:=append_ok (H.p.del (H.p.out hA (by decide) (by decide))).disk (del_wf H.p.wf a) H.p.lock H.sim.g (by rw [H.sim.used];omega) H.sim.qb A.name (c:=A.bs) (hAo.b.elim .inl fun h=> .inr (.inl h)) (by omega)
 obtain ⟨s1,b1,b2,b3,b4⟩:=hideP H hA (I:= [a,a,a,a]) (code:=i64 (appE σ.s A.name A.bs)) (s':=s') (nx':=σ.nx) (op':=σ.op) (ct':=σ.ct) (f:=32) (args:= [.ptr d 0,str A.name,A.bv]) (by simp) (fun W=>by
  refine ⟨z1,y1,⟨y2,y3.keep _ _ (by simp [W.wd,W.wm]) W.row (fun _ _ _=>rfl),y3.wf,y3.lock.trans W.lock⟩,y3.weak (by simp)⟩)
 have hz:=H.afterP b3 (fun _ h=>h)
 obtain ⟨z2,r',c1,c2,c3,c4⟩:=rappend_ok hz.disk hz.wf hz.lock H.sim.rgood (by omega) (by have:=H.sim.len;omega) (by rw [←H.sim.fu];exact H.sim.fub) hAo.name hAo.b (by omega)
 obtain ⟨q1,q2,q3⟩:=sim_append H.sim A.name A.bs y4 c4
 have kr:=c3.rd hz.disk
 rw [←q1] at c1
 exact ⟨s1,⟨z2,σ.fv,s',r',σ.w,σ.v,σ.nx,σ.op,σ.ct⟩,⟨H.afterR b2 (fun f hf=>(q2.good f hf).1) kr (by simp),hz.disk' c2 kr,(kr.gl.trans b3.gl).trans H.gl,q2,byt_app H.byt (byt_nat hAo.x) c4,by rw [hbl] at q3;exact Nat.le_trans q3 (by omega),H.nx,H.op,H.ct⟩,act_keepR hz b4 hAo kr (by simp),rfl,rfl,b1,c1⟩
theorem br_app(H:PlI d m e U σ)(hU:U<900000000)(hA:σ.st.get a=some A.row)(hAo:AcOk A)(hb:A.xs.length≤90000000):∃σ',PlI d m e (U+A.xs.length) σ'∧σ'.st.get a=some A.row∧Br d e a lv len i 7 σ σ':=by
 have hu:=H.used
 obtain ⟨v,t1,a1,R1,_⟩:=read_ok H.p.disk H.p.wf H.p.lock H.sim.g (by rw [H.sim.used];unfold big;omega) A.name
 have H1:PlI d m e U {σ with st:=t1}:=⟨H.p.rest R1,H.q.rest R1,R1.gl.trans H.gl,H.sim,H.byt,H.used,H.nx,H.op,H.ct⟩
 have hA1:t1.get a=some A.row:=R1.keep _ _ (by simp) hA
 by_cases h6:rdE σ.s.L σ.s.off true A.name=6
 · -- it is made
  obtain ⟨z1,b1,p1,Q1⟩:=create_ok H1.p.disk H1.p.wf H1.p.lock H1.sim.fub A.name
  have hz:=H1.afterP Q1.f (by simp)
  have hA2:=act_keepP H1 hA1 hAo Q1.f (by simp)
  obtain ⟨z2,fv',c1,c2,c3⟩:=rcreate_ok hz.disk hz.wf hz.lock (by have:=H.sim.len;show σ.r.F.length+1≤_;omega) (by rw [←H1.sim.fu];exact H1.sim.fub) hAo.name
  obtain ⟨q1,q2⟩:=sim_create H.sim A.name
  have kr:KeepR z1 z2 [e]:=c3.f.rd hz.disk
  have H2:PlI d m e U ⟨z2,fv',(pCreate σ.s A.name).2,(rCreate σ.r A.name).2,σ.w,σ.v,σ.nx,σ.op,σ.ct⟩:=⟨H1.afterR (H1.p.disk' p1 Q1) (fun f hf=>(q2.good f hf).1) kr (by simp),hz.disk' c2 kr,(kr.gl.trans Q1.gl).trans H1.gl,q2,byt_create H.byt _,Nat.le_trans (used_rCreate H.sim _) H.used,H.nx,H.op,H.ct⟩
  have hA3:=act_keepR hz hA2 hAo kr (by simp)
  obtain ⟨s1,σ',g1,g2,g3,g4,g5,g6⟩:=both_app H2 hU hA3 hAo hb
  have hI:∀x∈ [a,a,a,a],x=a:=by simp
  rw [h6] at a1
  refine ⟨σ',g1,g2,appE (pCreate σ.s A.name).2 A.name A.bs,fun T hT=> ?_⟩
  rw [g3,g4]
  exact f4_27_FFFFFFTT (eqlF (by decide)) (eqlF (by decide)) (eqlF (by decide)) (eqlF (by decide)) (eqlF (by decide)) (eqlF (by decide)) (eqlT rfl) (ldName hA) a1 (eqlT rfl) (ldName hA1) b1 (ldName hA2) c1 (one_mem H2.p.wf hA3 hI) (ldName hA3) (ldB hA3) (ldName hA3) (ldB hA3) (one_all hA3 hI) g5 g6 hT
 ·obtain ⟨s1,σ',g1,g2,g3,g4,g5,g6⟩:=both_app H1 hU hA1 hAo hb
  have hI:∀x∈ [a,a,a,a],x=a:=by simp
  refine ⟨σ',g1,g2,appE σ.s A.name A.bs,fun T hT=> ?_⟩
  rw [g3,g4]
  exact f4_27_FFFFFFTF (eqlF (by decide)) (eqlF (by decide)) (eqlF (by decide)) (eqlF (by decide)) (eqlF (by decide)) (eqlF (by decide)) (eqlT rfl) (ldName hA) a1 (eqlF h6) (one_mem H1.p.wf hA1 hI) (ldName hA1) (ldB hA1) (ldName hA1) (ldB hA1) (one_all hA1 hI) g5 g6 hT
end
section
set_option maxRecDepth 8000
variable {d m e U a:Nat} {σ:WS} {A:Ac} {lv:AV} {len i:Nat}
def OpenR(d e:Nat)(σ σ':WS):Prop:=
 (σ'.w=σ.w∧σ'.v=σ.v∧∃(n:Int) (s1 s2:St),obC 14 [.ptr d 0] σ.st (.tup [.nilp,.nils,i64 n]) s1∧obC 15 [.ptr e 0] s1 (.tup [.nilp,.nils,i64 n]) s2∧obC 24 [.nils,.nils] s2 TT σ'.st)∨
 (∃(n:Int) (s1 s2:St) (l1 l2:AV),obC 14 [.ptr d 0] σ.st (.tup [.ptr σ'.w 0,l1,i64 n]) s1∧obC 15 [.ptr e 0] s1 (.tup [.ptr σ'.v 0,l2,i64 n]) s2∧obC 24 [l1,l2] s2 TT σ'.st)
theorem open_len{s:PS}{r:RS}(hS:Sim s r)(hu:usedR r.F≤8000000){X:List (Nat×AV×List Int)}(h:X.map yOf=recY (segB r) (segK r)):X.length≤1000000:=by
 have h1:=recY_b hS hu (segK r).length
 rw [List.take_of_length_le (Nat.le_refl _),←h,List.length_map] at h1
 omega
theorem both_open(H:PlI d m e U σ)(hU:U≤8000000):∃σ',PlI d m e U σ'∧Rest σ.st σ'.st []∧OpenR d e σ σ':=by
 have hu:=Nat.le_trans H.used hU
 cases hoff:σ.s.off with
 |true=>
  have c1:=gopen_off H.p.disk hoff
  have c2:=rgopen_off H.q.disk (by rw [←H.sim.off];exact hoff)
  obtain ⟨z,c3,R⟩:=same_ok (X1:= []) (X2:= []) H.p.wf (RL.nil σ.st 95) (RL.nil σ.st 100) rfl (by simp)
  exact ⟨{σ with st:=z},⟨H.p.rest R,H.q.rest R,R.gl.trans H.gl,H.sim,H.byt,H.used,H.nx,H.op,H.ct⟩,R,.inl ⟨rfl,rfl,_,_,_,c1,c2,c3⟩⟩
 |false=>
  obtain ⟨l1,z1,a1,a2,⟨X1,a3,a4⟩,a5⟩:=gopen_ok H.sim H.p.disk H.p.wf H.p.lock H.gl hoff hu
  have hz:=H.q.rest a5
  obtain ⟨l2,z2,b1,b2,⟨X2,b3,b4⟩,b5⟩:=rgopen_ok H.sim H.byt hz.disk hz.wf hz.lock hoff hu
  obtain ⟨z3,c3,R⟩:=same_ok b5.wf (a3.rest b5) b3 (a4.trans b4.symm) (open_len H.sim hu a4)
  have R13:=b5.trans R
  exact ⟨⟨z3,σ.fv,σ.s,σ.r,σ.st.next,z1.next,nxtK (segK σ.r) (segK σ.r).length,0,0⟩,⟨a2.rest R13,b2.rest R,(R13.gl.trans a5.gl).trans H.gl,H.sim,H.byt,H.used,nxtK_b _,by show 0≤_;omega,by show 0≤_;omega⟩,a5.trans R13,.inr ⟨_,_,_,_,_,a1,b1,c3⟩⟩
theorem br_open(H:PlI d m e U σ)(hU:U≤8000000)(hA:σ.st.get a=some A.row)(hw:A.what=3):∃σ',PlI d m e U σ'∧σ'.st.get a=some A.row∧Br d e a lv len i 3 σ σ':=by
 obtain ⟨σ',h1,h2,h3⟩:=both_open H hU
 refine ⟨σ',h1,h2.keep _ _ (by simp) hA,?_⟩
 have ld:=ldWhat hA
 rw [hw] at ld
 rcases h3 with ⟨e1,e2,n,s1,s2,c1,c2,c3⟩|⟨n,s1,s2,l1,l2,c1,c2,c3⟩
 ·exact ⟨n,fun T hT=>by rw [e1,e2];exact f4n_27_FFTFTF (eqlF (by decide)) (eqlF (by decide)) (eqlT rfl) ld (eqlF (by decide)) c1 c2 c3 (by kernel_rfl) hT⟩
 ·exact ⟨n,fun T hT=>f4_27_FFTFTF (eqlF (by decide)) (eqlF (by decide)) (eqlT rfl) ld (eqlF (by decide)) c1 c2 c3 (by kernel_rfl) hT⟩
theorem br_crash(H:PlI d m e U σ)(hU:U≤8000000)(hA:σ.st.get a=some A.row)(hAo:AcOk A)(hw:A.what=4):∃σ',PlI d m e U σ'∧σ'.st.get a=some A.row∧Br d e a lv len i 4 σ σ':=by
 have hbig:(1000000000:Nat)≤big:=by decide
 have hu:=H.used
 have hlen:=H.sim.len
 have hMn:(ks σ.r.F).map (·.1)=σ.r.F.map RF.name:=by simp only [ks,List.map_map];rfl
 have hMl:(ks σ.r.F).length=σ.r.F.length:=by simp [ks]
 obtain ⟨s3,L',k3,p3,_,g3,m3,u3,R3⟩:=crash_ok H.p.disk H.p.wf H.p.lock (sim_good H.sim (by omega)) (M:=ks σ.r.F) H.sim.perm (by rw [hMn];exact H.sim.ord) (by omega) (fun k hk=>by obtain ⟨f,hf,rfl⟩:=List.mem_map.1 hk;exact H.sim.may f hf) (x:=A.pv) (ps:=A.ps) (hAo.p.elim .inl fun h=> .inr (.inl h)) hAo.ps
 have hz:=H.afterP R3.f (by simp)
 have hA3:=act_keepP H hA hAo R3.f (by simp)
 obtain ⟨s4,F',k4,q4,m4,g4,u4,R4⟩:=rcrash_ok hz.disk hz.wf hz.lock H.sim.rgood (by omega) (by omega) hAo.p hAo.ps
 have hS:=sim_crash H.sim m3 m4 (fun f hf=>⟨(g3 f hf).1,(g3 f hf).2.1⟩) g4
 have kr:=R4.rd hz.disk
 have H4:PlI d m e U ⟨s4,σ.fv,⟨L',σ.s.q,0,false⟩,⟨F',σ.r.q,0,false⟩,σ.w,σ.v,σ.nx,σ.op,σ.ct⟩:=⟨H.afterR (H.p.disk' p3 R3) (fun f hf=>(g3 f hf).1) kr (by simp),hz.disk' q4 kr,(kr.gl.trans R3.gl).trans H.gl,hS,byt_crash (F:=σ.r.F) (q:=σ.r.q) (fu:=σ.r.fu) (o:=σ.r.off) H.byt m4,Nat.le_trans u4 hu,H.nx,H.op,H.ct⟩
 have hA4:=act_keepR hz hA3 hAo kr (by simp)
 obtain ⟨σ',h1,h2,h3⟩:=both_open H4 hU
 refine ⟨σ',h1,h2.keep _ _ (by simp) hA4,?_⟩
 have ld:=ldWhat hA
 rw [hw] at ld
 rcases h3 with ⟨e1,e2,n,s1,s2,c1,c2,c3⟩|⟨n,s1,s2,l1,l2,c1,c2,c3⟩
 ·exact ⟨n,fun T hT=>by rw [e1,e2];exact f4n_27_FFFTTTF (eqlF (by decide)) (eqlF (by decide)) (eqlF (by decide)) (eqlT rfl) ld (eqlT rfl) (ldP hA) k3 (ldP hA3) k4 c1 c2 c3 (by kernel_rfl) hT⟩
 ·exact ⟨n,fun T hT=>f4_27_FFFTTTF (eqlF (by decide)) (eqlF (by decide)) (eqlF (by decide)) (eqlT rfl) ld (eqlT rfl) (ldP hA) k3 (ldP hA3) k4 c1 c2 c3 (by kernel_rfl) hT⟩
end
section
set_option maxRecDepth 8000
variable {d m e U a:Nat} {σ:WS} {A:Ac} {lv:AV} {len i:Nat}
theorem log_both(H:PlI d m e U σ){x y:AV}{c:List Int}{z z':St}{s':PS}{r':RS}{fv':AV}(hc:Byts c)(h1:GApp x c σ.st σ.w d m σ.s σ.nx σ.op σ.ct z s')(hR:RestF σ.st z [d,m,σ.w])(h2:RApnd y c z σ.v e σ.r σ.nx σ.op σ.ct z' fv' r')(hK:KeepR z z' [e,σ.v]):
  ∃(σ':WS) (x1 er:Int),PlI d m e (U+c.length) σ'∧σ'.st=z'∧σ'.w=σ.w∧σ'.v=σ.v∧obC 16 [.ptr σ.w 0,x] σ.st (.tup [i64 x1,i64 er]) z∧obC 17 [.ptr σ.v 0,y] z (.tup [i64 x1,i64 er]) z':=by
 obtain ⟨e1,r1,nx1,op1,ct1,hP,h3⟩:=h2
 obtain ⟨s1,hg,hS1⟩:=sim_pre H.sim hP
 obtain ⟨B1,u1,n1,o1,t1,t2⟩:=pre_facts H.sim H.byt H.nx H.op H.ct hP
 unfold GApp at h1
 rw [hg] at h1
 simp only at h1
 have hgl:GT z':=(hK.gl.trans hR.gl).trans H.gl
 have hu:=H.used
 rcases h3 with ⟨k1,rfl,k3,k4⟩|⟨rfl,k2,k3⟩
 ·rcases h1 with ⟨_,rfl,j3,j4⟩|⟨j1,_⟩
  ·exact ⟨⟨z',fv',s',r',σ.w,σ.v,nx1,op1,ct1⟩,_,_,⟨H.afterR j4 (fun f hf=>(hS1.good f hf).1) hK (fun _ h=>h),k4,hgl,hS1,B1,by show usedR r'.F≤_;omega,n1,o1,t1⟩,rfl,rfl,rfl,j3,k3⟩
  ·exact absurd j1 k1
 ·rcases h1 with ⟨j1,_⟩|⟨_,j2,j3⟩
  ·exact absurd rfl j1
  obtain ⟨q1,q2,q3⟩:=sim_append hS1 (nmG op1) c j2 k2
  have hB':=byt_app B1 hc k2
  rcases k3 with ⟨k4,k5,k6⟩|⟨k4,k5,k6⟩
  ·rcases j3 with ⟨j4,j5,j6⟩|⟨j4,_⟩
   ·rw [q1] at j5
    exact ⟨⟨z',fv',s',r',σ.w,σ.v,nx1,op1,ct1⟩,_,_,⟨H.afterR j6 (fun f hf=>(q2.good f hf).1) hK (fun _ h=>h),k6,hgl,q2,hB',by show usedR r'.F≤_;omega,n1,o1,t1⟩,rfl,rfl,rfl,j5,k5⟩
   ·rw [q1] at j4;exact absurd j4 k4
  ·rcases j3 with ⟨j4,_⟩|⟨j4,j5,j6⟩
   ·rw [q1] at j4;exact absurd k4 j4
   ·have:=t2 rfl
    exact ⟨⟨z',fv',s',r',σ.w,σ.v,nx1,op1,ct1+1⟩,_,_,⟨H.afterR j6 (fun f hf=>(q2.good f hf).1) hK (fun _ h=>h),k6,hgl,q2,hB',by show usedR r'.F≤_;omega,n1,o1,by show ct1+1≤8;omega⟩,rfl,rfl,rfl,j5,k5⟩
theorem both_log(H:PlI d m e U σ)(hU:U<900000000){v y:AV}(hv:OwnB σ.st v A.bs)(hy:BV y A.bs)(hx:∀x∈A.xs,x<256):
  ∃(z:St) (σ':WS) (x1 er:Int),PlI d m e (U+4104) σ'∧σ'.w=σ.w∧σ'.v=σ.v∧obC 16 [.ptr σ.w 0,v] σ.st (.tup [i64 x1,i64 er]) z∧obC 17 [.ptr σ.v 0,y] z (.tup [i64 x1,i64 er]) σ'.st∧RestF σ.st z [d,m,σ.w]∧KeepR z σ'.st [e,σ.v]:=by
 have hu:=H.used
 have hyb:∀st,BS st y A.bs:=fun st=>by
  rcases hy with ⟨h1,h2⟩|⟨f,h⟩
  ·exact .inl ⟨h2,h1⟩
  ·exact .inr (.inl ⟨f,h⟩)
 have same:∀n:Int,n≠0→obC 7 [v] σ.st (.tup [.nils,i64 n]) σ.st→obC 8 [y] σ.st (.tup [.nils,i64 n]) σ.st→∃(z:St) (σ':WS) (x1 er:Int),PlI d m e (U+4104) σ'∧σ'.w=σ.w∧σ'.v=σ.v∧obC 16 [.ptr σ.w 0,v] σ.st (.tup [i64 x1,i64 er]) z∧obC 17 [.ptr σ.v 0,y] z (.tup [i64 x1,i64 er]) σ'.st∧RestF σ.st z [d,m,σ.w]∧KeepR z σ'.st [e,σ.v]:=fun n hn h7 h8=>
  ⟨σ.st,σ,0,n,H.mono (by omega),rfl,rfl,f16_T H.p.l0 h7 (neqT hn),f17_T h8 (neqT hn),RestF.refl H.p.wf _,(RestF.refl H.p.wf _).r⟩
 by_cases h0:A.xs.length=0
 ·have hb:A.bs= []:=by show A.xs.map Int.ofNat= [];rw [List.length_eq_zero_iff.1 h0];rfl
  have h1:=hv.bs
  have h2:=hyb σ.st
  rw [hb] at h1 h2
  exact same 1 (by decide) (frameU_0 h1) (frameR_0 h2)
 by_cases hl:4096<A.xs.length
 ·exact same 3 (by decide) (frameU_long hv.bs (by simpa using hl)) (frameR_long (hyb σ.st) (by simpa using hl))
 obtain ⟨z,s',g1,g2⟩:=gappend_ok H.p H.gl hv (H.sim.fine H.used).1 (by omega) H.nx H.op H.ct (by simp;omega) (by simp;omega)
 have hz:=H.afterP g2 (fun _ h=>h)
 obtain ⟨z',fv',r',k1,k2⟩:=rgappend_ok hz H.sim (hyb z) hx H.used (by omega) H.nx H.op H.ct (by omega) (by omega)
 obtain ⟨σ',x1,er,a1,a2,a3,a4,a5,a6⟩:=log_both H (frame_byts (byt_nat hx)) g1 g2 k1 k2
 subst a2
 exact ⟨z,σ',x1,er,a1.mono (by rw [frame_len,List.length_map];omega),a3,a4,a5,a6,g2,k2⟩
end
section
set_option maxRecDepth 8000
variable {d m e U a:Nat} {σ:WS} {A:Ac} {lv:AV} {len i:Nat}
theorem bs22(st:St):buildSliceA E0 st 22 0 []=some (.sl st.next 1 0 0 true,st.push (.row [] 5)):=by kernel_rfl
theorem fid5{st:St}{v:AV}{bs:List Int}(h:OwnB st v bs):∀j∈fid v,∃l:List Int,st.get j=some (.row (l.map u8) 5):=fun j hj=>by
 rcases h with ⟨_,rfl⟩|⟨_,o,rfl,hg⟩|⟨_,o,rfl,hg⟩
 ·cases hj
 ·simp only [fid,List.mem_singleton] at hj;subst hj;exact ⟨[],hg⟩
 ·simp only [fid,List.mem_singleton] at hj;subst hj;exact ⟨bs,hg⟩
theorem own_spoil{st:St}{v:AV}{bs:List Int}(hw:st.wf)(hl:st.lock= [])(h:OwnB st v bs)(hb:bs.length≤1000000000000){p3 p4 p5 p8 p12:Nat}{n13 n14 n54 n55 n75 n76:Int}{v53:AV}:
  ∃z,Rest st z (fid v)∧∀T,f4L22 T (.ptr p3 0) (.ptr p4 0) (.ptr p5 0) (.ptr p8 0) (.ptr p12 0) (i64 n13) (i64 n14) v v53 (i64 n54) (i64 n55) (i64 n75) (i64 n76) (i64 bs.length) (i64 0)→
   AW Tryz.prog (.block 5 (.loop (f4P 25))) (fun ex T' s=>ex= .normal∧f4L15 T' (.ptr p3 0) (.ptr p4 0) (.ptr p5 0) (.ptr p8 0) (.ptr p12 0) (i64 n13) (i64 n14) v53 (i64 n54) (i64 n55) (i64 n75) (i64 n76)∧s=z) T st:=by
 have none:bs= []→∃z,Rest st z (fid v)∧∀T,f4L22 T (.ptr p3 0) (.ptr p4 0) (.ptr p5 0) (.ptr p8 0) (.ptr p12 0) (i64 n13) (i64 n14) v v53 (i64 n54) (i64 n55) (i64 n75) (i64 n76) (i64 bs.length) (i64 0)→
   AW Tryz.prog (.block 5 (.loop (f4P 25))) (fun ex T' s=>ex= .normal∧f4L15 T' (.ptr p3 0) (.ptr p4 0) (.ptr p5 0) (.ptr p8 0) (.ptr p12 0) (i64 n13) (i64 n14) v53 (i64 n54) (i64 n55) (i64 n75) (i64 n76)∧s=z) T st:=fun h0=>⟨st,Rest.refl hw _,fun T hT=>by
  rw [h0] at hT
  exact AW.turns (In:=fun k T=>f4L22 T (.ptr p3 0) (.ptr p4 0) (.ptr p5 0) (.ptr p8 0) (.ptr p12 0) (i64 n13) (i64 n14) v v53 (i64 n54) (i64 n55) (i64 n75) (i64 n76) (i64 (0:Nat)) (i64 (k:Nat))) (c:=fun _=>st) (n:=0) rfl hT (fun k hk=>by omega) (fun T hT=>f4_25_F (lssF (by omega)) hT)⟩
 rcases h with ⟨h0,_⟩|⟨h0,_⟩|⟨_,o,rfl,hg⟩
 ·exact none h0
 ·exact none h0
 ·obtain ⟨c,c0,hr,step⟩:=xor_chain (fl:=false) hw hl hg (n:=bs.length) rfl
  refine ⟨c bs.length,hr _ (Nat.le_refl _),fun T hT=> ?_⟩
  exact AW.turns (In:=fun k T=>f4L22 T (.ptr p3 0) (.ptr p4 0) (.ptr p5 0) (.ptr p8 0) (.ptr p12 0) (i64 n13) (i64 n14) (.sl o 1 0 bs.length false) v53 (i64 n54) (i64 n55) (i64 n75) (i64 n76) (i64 bs.length) (i64 (k:Nat))) (c:=c) (n:=bs.length) c0.symm hT (fun k hk T hT=>by
   obtain ⟨x,y,g1,g2,g3,g4⟩:=step k hk
   exact f4_25_T (lssT (by omega)) g1 g2 g3 g1 g4 (add64 (by omega)) hT) (fun T hT=>f4_25_F (lssF (by omega)) hT)
noncomputable def appC:Code:= .seq (f4P 17) (.seq (f4P 18) (.seq (.block 4 (.seq (f4P 19) (.seq (f4P 20) (.seq (f4P 21) (.seq (f4P 22) (.seq (f4P 23) (.seq (f4P 24) (.block 5 (.loop (f4P 25)))))))))) (f4P 26)))
theorem app_turn(H:PlI d m e U σ)(hU:U<900000000)(hA:σ.st.get a=some A.row)(hAo:AcOk A)(hb:A.xs.length≤90000000){n k:Nat}(hk:k<n)(hn:n≤1000)(er:Int):
  ∃(σ':WS) (er':Int),PlI d m e (U+4104) σ'∧σ'.st.get a=some A.row∧∀T,f4L15 T (.ptr d 0) (.ptr e 0) (.ptr σ.w 0) (.ptr σ.v 0) (.ptr a 0) (i64 er) (i64 er) lv (i64 len) (i64 i) (i64 n) (i64 k)→
   AW Tryz.prog appC (fun ex T' z=>ex= .normal∧f4L15 T' (.ptr d 0) (.ptr e 0) (.ptr σ'.w 0) (.ptr σ'.v 0) (.ptr a 0) (i64 er') (i64 er') lv (i64 len) (i64 i) (i64 n) (i64 (k+1:Nat))∧z=σ'.st) T σ.st:=by
 have hbig:(1000000000:Nat)≤big:=by decide
 have hbl:A.bs.length=A.xs.length:=by simp
 have hbc:sliceCells (σ.st.push (.row [] 5)) A.bv=some (A.bs.length,A.bs.map u8):=by
  rcases hAo.b with ⟨h1,h2⟩|⟨f,h⟩
  ·rw [h1,h2];rfl
  ·rw [h];rfl
 have R1:=Rest.push H.p.wf (.row [] 5) []
 have hA1:(σ.st.push (.row [] 5)).get a=some A.row:=R1.keep _ _ (by simp) hA
 have hown:OwnB (σ.st.push (.row [] 5)) (.sl σ.st.next 1 0 0 true) []:= .inr (.inl ⟨rfl,σ.st.next,rfl,by rw [St.get_push,if_pos rfl]⟩)
 obtain ⟨v,t2,a1,a2,a3,_⟩:=app_own2 (x:=A.bv) (c:=A.bs) hown R1.wf (by rw [show (σ.st.push (.row [] 5)).lock= [] from H.p.lock];simp) hbc (by simp only [List.length_nil,Nat.zero_add];omega)
 rw [List.nil_append] at a2
 have R2:Rest σ.st t2 []:=R1.old a3 (by simp [fid]) H.p.wf
 have hA2:t2.get a=some A.row:=R2.keep _ _ (by simp) hA
 have H2:PlI d m e U {σ with st:=t2}:=⟨H.p.rest R2,H.q.rest R2,R2.gl.trans H.gl,H.sim,H.byt,H.used,H.nx,H.op,H.ct⟩
 obtain ⟨z,σ',x1,er',b1,b2,b3,b4,b5,b6,b7⟩:=both_log H2 hU a2 hAo.b hAo.x
 have hz:=H2.afterP b6 (fun _ h=>h)
 have hA3:=act_keepP H2 hA2 hAo b6 (fun _ h=>h)
 have hA4:=act_keepR hz hA3 hAo b7 (fun _ h=>h)
 have far:∀j (l:List Int),t2.get j=some (.row (l.map u8) 5)→σ'.st.get j=some (.row (l.map u8) 5):=fun j l hg=>by
  have h1:=b6.keep j _ (H2.p.out hg (by decide) (by decide)) hg (fun id vs _=>plain_u8 l 5 id vs)
  exact b7.keep j _ (hz.out h1 (by decide) (by decide) (by decide)).1 (fun vs q=>by cases q) h1 (fun id vs _=>plain_u8 l 5 id vs)
 have hown4:OwnB σ'.st v A.bs:=by
  rcases a2 with h|⟨h,j,rfl,hg⟩|⟨h,j,rfl,hg⟩
  ·exact .inl h
  ·exact .inr (.inl ⟨h,j,rfl,far j [] hg⟩)
  ·exact .inr (.inr ⟨h,j,rfl,far j _ hg⟩)
 obtain ⟨z5,R5,run⟩:=own_spoil (p3:=d) (p4:=e) (p5:=σ.w) (p8:=σ.v) (p12:=a) (n13:=er') (n14:=er') (n54:=len) (n55:=i) (n75:=n) (n76:=k) (v53:=lv) b1.p.wf b1.p.lock hown4 (by omega)
 have hfar:∀j∈fid v,j∉ [d,m,σ'.w]∧j∉e::fid σ'.fv∧j≠σ'.v∧j≠a:=fun j hj=>by
  obtain ⟨l,hg⟩:=fid5 hown4 j hj
  have h2:=b1.q.out hg (by decide) (by decide) (by decide)
  exact ⟨b1.p.out hg (by decide) (by decide),h2.2,fun q=>h2.1 (by simp [q]),row_ne hg hA4 (by decide)⟩
 have k1:∀j∈ [d,m,σ'.w],j∉fid v:=fun j hj hm=>(hfar j hm).1 hj
 have k2:∀j∈e::fid σ'.fv,j∉fid v:=fun j hj hm=>(hfar j hm).2.1 hj
 have H5:PlI d m e (U+4104) {σ' with st:=z5}:=
  ⟨b1.p.keepR (fun f hf=>(b1.sim.good f hf).1) R5.f.r (k1 _ (by simp)) (k1 _ (by simp)) (k1 _ (by simp)),b1.q.restF b1.sim.rgood R5.f (k2 _ (by simp)) (fun hm=>(hfar _ hm).2.2.1 rfl) (fun j hj=>k2 _ (by simp [hj])),R5.gl.trans b1.gl,b1.sim,b1.byt,b1.used,b1.nx,b1.op,b1.ct⟩
 refine ⟨{σ' with st:=z5},er',H5,R5.keep _ _ (fun h=>(hfar a h).2.2.2 rfl) hA4,fun T hT=> ?_⟩
 refine .andThen (f4_17_T (lssT (by omega)) hT) fun T1 g1=> .andThen (f4_18_T g1) fun T2 g2=> ?_
 refine .andThen (AW.blockN (s:=z5) (L:=fun T'=>f4L15 T' (.ptr d 0) (.ptr e 0) (.ptr σ'.w 0) (.ptr σ'.v 0) (.ptr a 0) (i64 er') (i64 er') lv (i64 len) (i64 i) (i64 n) (i64 k)) ?_) fun T3 g3=>f4_26 (add64 (by omega)) g3
 rw [b2,b3]
 refine .andThen (f4_19 (bs22 _) (ldB hA1) a1 g2) fun T4 g4=> .andThen (f4_20 g4) fun T5 g5=> ?_
 refine .andThen (f4_21 b4 g5) fun T6 g6=> .andThen (f4_22 (ldB hA3) b5 g6) fun T7 g7=> ?_
 refine .andThen (f4_23_FF (neqF rfl) (neqF rfl) g7) fun T8 g8=> .andThen (f4_24 hown4.bs.len g8) fun T9 g9=> ?_
 exact run T9 g9
end
section
set_option maxRecDepth 8000
variable {d m e U a:Nat} {σ:WS} {A:Ac} {lv:AV} {len i:Nat}
theorem conv3_53w(st:St)(k:Int):convO E0 st 3 53 (i64 k)=some (u64 (IntKind.u64.wrap k),st):=by kernel_rfl
theorem conv53_3(st:St)(k:Nat)(h:k<2^63):convO E0 st 53 3 (u64 k)=some (i64 (k:Nat),st):=by
 have e1:convO E0 st 53 3 (u64 k)=some (i64 (IntKind.i64.wrap k),st):=by kernel_rfl
 rw [e1]
 have:IntKind.i64.wrap (k:Int)=k:=by rw [IntKind.wrap_i64];omega
 rw [this]
theorem rem53(x:Nat):binA E0 .rem 53 (u64 x) (u64 20)=some (u64 ((x%20:Nat):Int)):=remN' .u64 x 20 (by decide)
theorem wrap_nat(n:Int):∃x:Nat,IntKind.u64.wrap n=(x:Int):=by
 have h:0≤IntKind.u64.wrap n:=by rw [IntKind.wrap_u64];omega
 exact ⟨(IntKind.u64.wrap n).toNat,by omega⟩
noncomputable def swC:Code:= .seq (f4P 13) (.cond (.tmp 64) (.seq (f4P 14) (.seq (f4P 15) (.seq (f4P 16) (.block 3 (.loop appC))))) (f4P 27))
def Sw(d e a:Nat)(lv:AV)(len i:Nat)(w:Int)(σ σ':WS):Prop:=∃er:Int,∀T,f4L12 T (.ptr d 0) (.ptr e 0) (.ptr σ.w 0) (.ptr σ.v 0) (.ptr a 0) (i64 0) (i64 0) lv (i64 len) (i64 i) (i64 w)→
 AW Tryz.prog swC (fun ex T' z=>ex= .normal∧f4L11 T' (.ptr d 0) (.ptr e 0) (.ptr σ'.w 0) (.ptr σ'.v 0) (.ptr a 0) (i64 er) (i64 er) lv (i64 len) (i64 i)∧z=σ'.st) T σ.st
theorem app_loop(H:PlI d m e U σ)(hU:U<100000000)(hA:σ.st.get a=some A.row)(hAo:AcOk A)(hb:A.xs.length≤90000000){n:Nat}(hn:n≤19):
  ∃(σ':WS) (er:Int),PlI d m e (U+77976) σ'∧σ'.st.get a=some A.row∧∀T,f4L15 T (.ptr d 0) (.ptr e 0) (.ptr σ.w 0) (.ptr σ.v 0) (.ptr a 0) (i64 0) (i64 0) lv (i64 len) (i64 i) (i64 n) (i64 0)→
   AW Tryz.prog (.block 3 (.loop appC)) (fun ex T' z=>ex= .normal∧f4L11 T' (.ptr d 0) (.ptr e 0) (.ptr σ'.w 0) (.ptr σ'.v 0) (.ptr a 0) (i64 er) (i64 er) lv (i64 len) (i64 i)∧z=σ'.st) T σ.st:=by
 obtain ⟨c,c0,inv,step⟩:=chain_seq (σ:=WS×Int) (fun k p=>PlI d m e (U+k*4104) p.1∧p.1.st.get a=some A.row)
  (fun k p p'=>∀T,f4L15 T (.ptr d 0) (.ptr e 0) (.ptr p.1.w 0) (.ptr p.1.v 0) (.ptr a 0) (i64 p.2) (i64 p.2) lv (i64 len) (i64 i) (i64 n) (i64 k)→
   AW Tryz.prog appC (fun ex T' z=>ex= .normal∧f4L15 T' (.ptr d 0) (.ptr e 0) (.ptr p'.1.w 0) (.ptr p'.1.v 0) (.ptr a 0) (i64 p'.2) (i64 p'.2) lv (i64 len) (i64 i) (i64 n) (i64 (k+1:Nat))∧z=p'.1.st) T p.1.st) n (σ,0) ⟨by simpa using H,hA⟩ (fun k p hk ⟨hH,hg⟩=>by
   obtain ⟨σ',er',x1,x2,x3⟩:=app_turn (lv:=lv) (len:=len) (i:=i) hH (by omega) hg hAo hb hk (by omega) p.2
   exact ⟨(σ',er'),⟨x1.mono (by omega),x2⟩,x3⟩)
 obtain ⟨h1,h2⟩:=inv n (Nat.le_refl _)
 refine ⟨(c n).1,(c n).2,h1.mono (by omega),h2,fun T hT=> ?_⟩
 exact AW.turns (In:=fun k T=>f4L15 T (.ptr d 0) (.ptr e 0) (.ptr (c k).1.w 0) (.ptr (c k).1.v 0) (.ptr a 0) (i64 (c k).2) (i64 (c k).2) lv (i64 len) (i64 i) (i64 n) (i64 k)) (L:=fun T=>f4L11 T (.ptr d 0) (.ptr e 0) (.ptr (c n).1.w 0) (.ptr (c n).1.v 0) (.ptr a 0) (i64 (c n).2) (i64 (c n).2) lv (i64 len) (i64 i)) (c:=fun k=>(c k).1.st) (n:=n) (sf:=(c n).1.st) (by rw [c0]) (by rw [c0];exact hT) (fun k hk T hT=>step k hk T hT)
  (fun T hT=>AW.andThen (f4_17_F (lssF (by omega)) hT) fun T6 q6=>AW.seqExit (f4_18_F q6))
theorem L12_11{T:Tm}{a3 a4 a5 a8 a12 a13 a14 a53 a54 a55 a63:AV}(h:f4L12 T a3 a4 a5 a8 a12 a13 a14 a53 a54 a55 a63):f4L11 T a3 a4 a5 a8 a12 a13 a14 a53 a54 a55:=by
 obtain ⟨h0,h1,h2,h3,h4,h5,h6,h7,h8,h9,h10,_⟩:=h
 exact ⟨h0,h1,h2,h3,h4,h5,h6,h7,h8,h9,h10⟩
theorem L13_12{T:Tm}{a3 a4 a5 a8 a12 a13 a14 a53 a54 a55 a63 a64:AV}(h:f4L13 T a3 a4 a5 a8 a12 a13 a14 a53 a54 a55 a63 a64):f4L12 T a3 a4 a5 a8 a12 a13 a14 a53 a54 a55 a63∧T.get 64=a64:=by
 obtain ⟨h0,h1,h2,h3,h4,h5,h6,h7,h8,h9,h10,h11,h12⟩:=h
 exact ⟨⟨h0,h1,h2,h3,h4,h5,h6,h7,h8,h9,h10,h11⟩,h12⟩
theorem switch_ok(H:PlI d m e U σ)(hU:U+77976≤8000000)(hA:σ.st.get a=some A.row)(hAo:AcOk A)(hb:A.xs.length≤90000000):∃σ',PlI d m e (U+77976+A.xs.length) σ'∧σ'.st.get a=some A.row∧Sw d e a lv len i A.what σ σ':=by
 have app:∀n:Nat,n≤19→(∀T,f4L14 T (.ptr d 0) (.ptr e 0) (.ptr σ.w 0) (.ptr σ.v 0) (.ptr a 0) (i64 0) (i64 0) (i64 1) lv (i64 len) (i64 i)→AW Tryz.prog (f4P 15) (fun ex T' z=>ex= .normal∧f4L14 T' (.ptr d 0) (.ptr e 0) (.ptr σ.w 0) (.ptr σ.v 0) (.ptr a 0) (i64 0) (i64 0) (i64 n) lv (i64 len) (i64 i)∧z=σ.st) T σ.st)→(A.what=0∨A.what=8)→
   ∃σ',PlI d m e (U+77976+A.xs.length) σ'∧σ'.st.get a=some A.row∧Sw d e a lv len i A.what σ σ':=fun n hn h15 hw=>by
  obtain ⟨σ',er,x1,x2,x3⟩:=app_loop (lv:=lv) (len:=len) (i:=i) H (by omega) hA hAo hb hn
  refine ⟨σ',x1.mono (by omega),x2,er,fun T hT=> ?_⟩
  have go:∀T1,f4L13 T1 (.ptr d 0) (.ptr e 0) (.ptr σ.w 0) (.ptr σ.v 0) (.ptr a 0) (i64 0) (i64 0) lv (i64 len) (i64 i) (i64 A.what) TT→AW Tryz.prog (.cond (.tmp 64) (.seq (f4P 14) (.seq (f4P 15) (.seq (f4P 16) (.block 3 (.loop appC))))) (f4P 27)) (fun ex T' z=>ex= .normal∧f4L11 T' (.ptr d 0) (.ptr e 0) (.ptr σ'.w 0) (.ptr σ'.v 0) (.ptr a 0) (i64 er) (i64 er) lv (i64 len) (i64 i)∧z=σ'.st) T1 σ.st:=fun T1 g1=>by
   obtain ⟨g2,g3⟩:=L13_12 g1
   refine AW.cond (b:=true) g3 ?_
   refine .andThen (f4_14 (L12_11 g2)) fun T2 g4=> .andThen (h15 T2 g4) fun T3 g5=> .andThen (f4_16 g5) fun T4 g6=> ?_
   exact x3 T4 g6
  rcases hw with hw|hw
  ·exact .andThen (f4_13_T (eqlT hw) hT) go
  ·exact .andThen (f4_13_FT (eqlF (by omega)) (eqlT hw) hT) go
 by_cases h0:A.what=0
 ·exact app 1 (by omega) (fun T hT=>f4_15_F (ldWhat hA) (eqlF (by omega)) hT) (.inl h0)
 by_cases h8:A.what=8
 ·obtain ⟨x,hx⟩:=wrap_nat A.n
  have hr:=Nat.mod_lt x (show 0<20 by decide)
  have hc:=conv3_53w σ.st A.n
  rw [hx] at hc
  exact app (x%20) (by omega) (fun T hT=>f4_15_T (ldWhat hA) (eqlT h8) (ldN hA) hc (rem53 x) (conv53_3 _ _ (by omega)) hT) (.inr h8)
 have rest:∀{σ':WS},Br d e a lv len i A.what σ σ'→Sw d e a lv len i A.what σ σ':=fun ⟨er,x3⟩=>⟨er,fun T hT=> .andThen (f4_13_FF (eqlF h0) (eqlF h8) hT) fun T1 g1=>by
  obtain ⟨g2,g3⟩:=L13_12 g1
  exact AW.cond (b:=false) g3 (x3 T1 g2)⟩
 have up:∀{σ'},PlI d m e U σ'→PlI d m e (U+77976+A.xs.length) σ':=fun h=>h.mono (by omega)
 by_cases h1:A.what=1
 ·obtain ⟨σ',x1,x2,x3⟩:=br_sync (lv:=lv) (len:=len) (i:=i) H (by omega) hA hAo
  exact ⟨σ',up x1,x2,rest (by rw [h1];exact x3)⟩
 by_cases h2:A.what=2
 ·obtain ⟨σ',x1,x2,x3⟩:=br_retire (lv:=lv) (len:=len) (i:=i) H hA hAo
  exact ⟨σ',up x1,x2,rest (by rw [h2];exact x3)⟩
 by_cases h3:A.what=3
 ·obtain ⟨σ',x1,x2,x3⟩:=br_open (lv:=lv) (len:=len) (i:=i) H (by omega) hA h3
  exact ⟨σ',up x1,x2,rest (by rw [h3];exact x3)⟩
 by_cases h4:A.what=4
 ·obtain ⟨σ',x1,x2,x3⟩:=br_crash (lv:=lv) (len:=len) (i:=i) H (by omega) hA hAo h4
  exact ⟨σ',up x1,x2,rest (by rw [h4];exact x3)⟩
 by_cases h5:A.what=5
 ·obtain ⟨σ',x1,x2,x3⟩:=br_quota (lv:=lv) (len:=len) (i:=i) H hA hAo
  exact ⟨σ',up x1,x2,rest (by rw [h5];exact x3)⟩
 by_cases h6:A.what=6
 ·obtain ⟨σ',x1,x2,x3⟩:=br_fuse (lv:=lv) (len:=len) (i:=i) H hA hAo
  exact ⟨σ',up x1,x2,rest (by rw [h6];exact x3)⟩
 by_cases h7:A.what=7
 ·obtain ⟨σ',x1,x2,x3⟩:=br_app (lv:=lv) (len:=len) (i:=i) H (by omega) hA hAo hb
  exact ⟨σ',x1.mono (by omega),x2,rest (by rw [h7];exact x3)⟩
 ·obtain ⟨σ',x1,x2,x3⟩:=br_none (lv:=lv) (len:=len) (i:=i) H hA h1 h2 h3 h4 h5 h6 h7
  exact ⟨σ',up x1,x2,rest x3⟩
end
section
set_option maxRecDepth 8000
variable {d m e U a:Nat} {σ:WS} {A:Ac} {lv:AV} {len i:Nat}
theorem RD.del{st:St}{e:Nat}{fv:AV}{r:RS}(h:RD st e fv r){a:Nat}(h1:a≠e)(h2:a∉fid fv):RD (st.del a) e fv r:=
 ⟨by rw [St.get_del,if_neg (fun q=>h1 q.symm)];exact h.row,h.fv.keep fun i hi o ho=>by rw [St.get_del,if_neg (fun q=>h2 (by rw [←q];exact hi))];exact ho⟩
theorem PlI.push(H:PlI d m e U σ){st':St}(hR:RestF σ.st st' []):PlI d m e U {σ with st:=st'}:=
 ⟨H.p.keepR (fun f hf=>(H.sim.good f hf).1) hR.r (by simp) (by simp) (by simp),H.q.restF H.sim.rgood hR (by simp) (by simp) (by simp),hR.gl.trans H.gl,H.sim,H.byt,H.used,H.nx,H.op,H.ct⟩
theorem cmp_next(H:PlI d m e U σ)(hU:U<1000000000)(hA:σ.st.get a=some A.row)(hAo:AcOk A)(er:Int):∃z,RestF σ.st z []∧∀T,f4L11 T (.ptr d 0) (.ptr e 0) (.ptr σ.w 0) (.ptr σ.v 0) (.ptr a 0) (i64 er) (i64 er) lv (i64 len) (i64 i)→
  AW Tryz.prog (f4P 28) (fun ex T' s=>ex= .normal∧f4L6 T' (.ptr d 0) (.ptr e 0) (.ptr σ.w 0) (.ptr σ.v 0) lv (i64 len) (i64 i)∧s=z) T σ.st:=by
 have hv:=H.q.row
 have hav:a≠σ.v:=row_ne hA hv (by decide)
 have hI:∀x∈ [σ.v],x=σ.v:=by simp
 have c1:obC 34 [.ptr σ.w 0] (σ.st.hide [σ.v]) (i64 σ.nx) (σ.st.hide [σ.v]):=f34 H.p.l1
 have R1:=hideshow H.p.wf [σ.v]
 have R2:=hideshow R1.wf [σ.v]
 have R12:=R1.trans R2
 have hv1:=R1.keep _ _ (by simp) hv
 have hv2:=R12.keep _ _ (by simp) hv
 have hA1:=R1.keep _ _ (by simp) hA
 have H2:=H.push R12.f
 generalize hz1:((σ.st.hide [σ.v]).show σ.st [σ.v])=z1 at*
 generalize hz2:((z1.hide [σ.v]).show z1 [σ.v])=z2 at*
 obtain ⟨n1,n2,n3⟩:=H2.sep
 obtain ⟨s1,k1,k2⟩:=alike_ok H2.sim (H2.p.del (a:=σ.v) n2).disk (H2.q.disk.del (a:=σ.v) H2.q.ve H2.q.vf) (del_wf H2.p.wf σ.v) H2.p.lock (Nat.lt_of_le_of_lt H.used hU) hAo.p hAo.ps
 obtain ⟨s2,b1,b2,_,_⟩:=hid_ok H2.p.wf H2.p.lock (gt_vals H2.gl) hI hv2 k1 k2 (by simp)
 subst hz2;subst hz1
 refine ⟨_,R12.f.trans b2,fun T hT=> ?_⟩
 exact f4_28_FFT (one_mem H.p.wf hv hI) (neqF rfl) H.q.l1 (one_all hv hI) c1 (neqF rfl) (one_all hv1 hI) ⟨by simp [hav],ldP hA1⟩ (one_all hv2 hI) b1 hT
theorem cmp_segs(H:PlI d m e U σ):∃z,RestF σ.st z []∧∀T,f4L6 T (.ptr d 0) (.ptr e 0) (.ptr σ.w 0) (.ptr σ.v 0) lv (i64 len) (i64 i)→
  AW Tryz.prog (.seq (f4P 29) (.seq (f4P 30) (.seq (f4P 31) (.block 7 (.loop (f4P 32)))))) (fun ex T' s=>ex= .normal∧f4L6 T' (.ptr d 0) (.ptr e 0) (.ptr σ.w 0) (.ptr σ.v 0) lv (i64 len) (i64 i)∧s=z) T σ.st:=by
 obtain ⟨k1,k2,k3,k4⟩:=segK_eq H.sim
 obtain ⟨x,s1,a1,a2,a3,_⟩:=psegs_ok H.p k1 k2 k3 k4
 have q1:=H.q.rest a3
 obtain ⟨y,s2,b1,b2,b3,_⟩:=rsegs_ok q1 H.sim.len
 have a2':=a2.rest b3
 have e1:lenA E0 73 x=some (i64 (sgs (σ.r.F.map RF.name)).length):=Ls.len sl55 a2
 have e2:lenA E0 73 y=some (i64 (sgs (σ.r.F.map RF.name)).length):=Ls.len sl55 b2
 have hkl:(sgs (σ.r.F.map RF.name)).length≤4096:=Nat.le_trans (sgs_len _) k3
 generalize sgs (σ.r.F.map RF.name)=K at*
 refine ⟨s2,(a3.trans b3).f,fun T hT=> ?_⟩
 refine .andThen (f4_29 a1 b1 hT) fun T1 g1=> .andThen (f4_30_F e1 e2 (neqF rfl) g1) fun T2 g2=> .andThen (f4_31 e1 g2) fun T3 g3=> ?_
 refine AW.turns (In:=fun k T=>f4L24 T (.ptr d 0) (.ptr e 0) (.ptr σ.w 0) (.ptr σ.v 0) x y lv (i64 len) (i64 i) (i64 K.length) (i64 k)) (c:=fun _=>s2) (n:=K.length) rfl g3 (fun k hk T hT=> ?_) (fun T hT=>f4_32_F (lssF (by omega)) hT)
 have hki:K[k]? =some K[k]:=List.getElem?_eq_getElem hk
 obtain ⟨p1,_,c1,c2,c3⟩:=a2'.atB hki
 obtain ⟨p2,_,d1,d2,d3⟩:=b2.atB hki
 refine f4_32_TF (lssT (by omega)) (fun j hj=> ?_) c2 (c3 _ c1) d2 (d3 _ d1) (neqF rfl) (add64 (by omega)) hT
 simp only [List.mem_cons,List.not_mem_nil,or_false] at hj
 rcases hj with rfl|rfl
 ·exact b3.wf _ _ c1
 ·exact b3.wf _ _ d1
def Ac.cells(A:Ac):List AV:= [i64 A.what,i64 A.n,A.bv,str A.name,A.pv]
def ActsV(L:AV)(As:List Ac):Prop:=(As= []∧L= .nils)∨∃fl,L= .imm 5 As.length fl (As.flatMap Ac.cells)
theorem tyActs:∃i,E0.ty 37=some i∧i.desc= .slice 52:=by
 have h:(E0.ty 37).map (fun i=>i.desc)=some (.slice 52):=by kernel_rfl
 obtain ⟨q,h1,h2⟩:=Option.map_eq_some_iff.1 h
 exact ⟨q,h1,h2⟩
theorem lenActs{L:AV}{As:List Ac}(h:ActsV L As):lenA E0 37 L=some (i64 As.length):=by
 obtain ⟨q,h1,h2⟩:=tyActs
 rcases h with ⟨rfl,rfl⟩|⟨fl,rfl⟩<;>simp only [lenA,h1,h2]<;>rfl
theorem drop_flat:∀(As:List Ac) (k:Nat),(As.flatMap Ac.cells).drop (k*5)=(As.drop k).flatMap Ac.cells
 | [],k=>by simp
 |A::r,0=>by simp
 |A::r,k+1=>by
  have:(k+1)*5=5+k*5:=by omega
  rw [this,List.flatMap_cons,←List.drop_drop,List.drop_succ_cons]
  exact drop_flat r k
theorem act_elem{L:AV}{As:List Ac}(h:ActsV L As){k:Nat}{A:Ac}(hk:As[k]? =some A)(st:St):∃q,indexAddrA E0 37 L (i64 k)=some q∧loadA E0 st 52 q=some (.agg A.cells):=by
 have hlt:=(List.getElem?_eq_some_iff.1 hk).1
 rcases h with ⟨rfl,_⟩|⟨fl,rfl⟩
 ·simp at hlt
 obtain ⟨t,h1,h2⟩:=tyActs
 have hs:tySize E0 52=some 5:=by kernel_rfl
 refine ⟨.iptr ((As.flatMap Ac.cells).drop (k*5)),?_,?_⟩
 ·simp only [indexAddrA,h1,h2,hs]
  rw [if_pos ⟨trivial,by omega,by omega,by decide⟩]
  rfl
 ·rw [drop_flat,List.drop_eq_getElem_cons hlt,List.flatMap_cons,(List.getElem?_eq_some_iff.1 hk).2]
  have hp:(E0.ty 52).map (fun i=>(isAggD i.desc,i.size))=some (true,5):=by kernel_rfl
  obtain ⟨i,h1,h2⟩:=Option.map_eq_some_iff.1 hp
  simp only [Prod.mk.injEq] at h2
  simp only [loadA,partA,h1,h2.1,h2.2]
  simp [Ac.cells]
theorem avc_act{A:Ac}(h:AcOk A):avCells (.agg A.cells)=some A.cells:=by
 rcases h.b with ⟨_,h1⟩|⟨fl,h1⟩<;>rcases h.p with ⟨_,h2⟩|⟨gl,h2⟩<;>rw [Ac.cells,h1,h2]<;>rfl
theorem newAct{st:St}(hw:st.wf)(hl:st.lock= []){A:Ac}(hA:AcOk A):∃s1 s2,allocA E0 st 52=some (.ptr st.next 0,s1)∧storeA E0 s1 52 (.ptr st.next 0) (.agg A.cells)=some s2∧s2.get st.next=some A.row∧Rest st s2 []:=by
 obtain ⟨q,hq,hl3⟩:∃q:List AV,zeroA E0 52=some q∧q.length=5:=by
  have h:(zeroA E0 52).map List.length=some 5:=by kernel_rfl
  obtain ⟨q,a,b⟩:=Option.map_eq_some_iff.1 h
  exact ⟨q,a,b⟩
 have hsz:tySize E0 52=some 5:=by kernel_rfl
 have hg:(st.push (.row q 52)).get st.next=some (.row q 52):=by rw [St.get_push,if_pos rfl]
 have hwg:=St.wget_of hg (show st.next∉(st.push (.row q 52)).lock by show st.next∉st.lock;rw [hl];simp)
 have R:=Rest.push hw (.row q 52) []
 refine ⟨st.push (.row q 52),(st.push (.row q 52)).set st.next A.row,by simp only [allocA,hq],?_,?_,R.old (Rest.set R.wf (R.wf _ _ hg) _ (S:= [st.next]) (by simp)) (by simp) hw⟩
 ·simp only [storeA,avc_act hA,hwg,hsz]
  rw [if_pos ⟨rfl,by simp [hl3,Ac.cells]⟩]
  have hd:List.drop 5 q= []:=List.drop_of_length_le (by omega)
  simp [hd,Ac.cells,Ac.row]
 ·rw [St.get_set,if_pos rfl]
end
end Go.Proofs.YtalchcdenhfmiaaGreatDoor.E
