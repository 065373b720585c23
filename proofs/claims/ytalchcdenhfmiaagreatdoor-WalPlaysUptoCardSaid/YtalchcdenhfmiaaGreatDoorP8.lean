/- Part 8 of the proof, over the abstract machine: contracts of the functions that the statement reaches, joined out of several texts. Condition: none beyond those that the lemmas name. -/
import Derived.Test.YtalchcdenhfmiaaGreatDoorP7
namespace Go.Proofs.YtalchcdenhfmiaaGreatDoor.E
open Go Go.Proofs
section
set_option maxRecDepth 8000
variable {d m e:Nat} {σ:WS}
noncomputable def turnC:Code:= .seq (f4P 7) (.seq (f4P 8) (.seq (.block 1 (.seq (f4P 9) (.seq (f4P 10) (.seq (f4P 11) (.seq (.seq (f4P 12) (.block 2 swC)) (.seq (f4P 28) (.seq (f4P 29) (.seq (f4P 30) (.seq (f4P 31) (.block 7 (.loop (f4P 32)))))))))))) (f4P 33)))
def TurnR(d e:Nat)(L:AV)(len:Nat)(i:Nat)(σ σ':WS):Prop:=∀T,f4L6 T (.ptr d 0) (.ptr e 0) (.ptr σ.w 0) (.ptr σ.v 0) L (i64 len) (i64 i)→
 AW Tryz.prog turnC (fun ex T' z=>ex= .normal∧f4L6 T' (.ptr d 0) (.ptr e 0) (.ptr σ'.w 0) (.ptr σ'.v 0) L (i64 len) (i64 ((i+1:Nat):Int))∧z=σ'.st) T σ.st
def room(As:List Ac)(i:Nat):Nat:=((As.take i).map fun A=>A.xs.length).sum+i*77976
theorem room_succ{As:List Ac}{i:Nat}{A:Ac}(h:As[i]? =some A):room As (i+1)=room As i+77976+A.xs.length:=by
 unfold room
 rw [List.take_add_one,h,List.map_append,List.sum_append]
 simp;omega
theorem take_sum:∀(l:List Nat) (i:Nat),(l.take i).sum≤l.sum
 | [],i=>by simp
 |a::l,0=>by simp
 |a::l,i+1=>by
  have:=take_sum l i
  simp only [List.take_succ_cons,List.sum_cons];omega
theorem room_le{As:List Ac}(hB:(As.map fun A=>A.xs.length).sum≤1048576){i:Nat}(hi:i≤60):room As i≤5727136:=by
 have h:=take_sum (As.map fun A=>A.xs.length) i
 rw [←List.map_take] at h
 unfold room
 omega
theorem turn_ok{L:AV}{As:List Ac}(hL:ActsV L As)(hAs:∀A∈As,AcOk A)(hB:(As.map fun A=>A.xs.length).sum≤1048576){i:Nat}(hi:i<As.length)(hi2:i<60)(H:PlI d m e (room As i) σ):∃σ',PlI d m e (room As (i+1)) σ'∧TurnR d e L As.length i σ σ':=by
 have hA:=List.getElem?_eq_getElem hi
 generalize As[i]=A at hA
 have hok:=hAs A (List.mem_of_getElem? hA)
 have hAl:A.xs.length≤1048576:=Nat.le_trans (le_sum (List.mem_map.2 ⟨A,List.mem_of_getElem? hA,rfl⟩)) hB
 have hr1:=room_le hB (i:=i+1) (by omega)
 have hrs:=room_succ hA
 obtain ⟨q,a1,a2⟩:=act_elem hL hA σ.st
 obtain ⟨s1,s2,b1,b2,b3,R2⟩:=newAct H.p.wf H.p.lock hok
 have H2:=H.push R2.f
 obtain ⟨σ3,H3,hA3,er,sw⟩:=switch_ok (lv:=L) (len:=As.length) (i:=i) H2 (by omega) b3 hok (by omega)
 rw [←hrs] at H3
 obtain ⟨z4,R4,c4⟩:=cmp_next (lv:=L) (len:=As.length) (i:=i) H3 (by omega) hA3 hok er
 have H4:=H3.push R4
 obtain ⟨z5,R5,c5⟩:=cmp_segs (lv:=L) (len:=As.length) (i:=i) H4
 have H5:=H4.push R5
 refine ⟨{σ3 with st:=z5},H5,fun T hT=> ?_⟩
 refine .andThen (f4_7_T (lssT (by omega)) hT) fun T1 g1=> ?_
 refine .andThen (f4_8_T g1) fun T2 g2=> ?_
 refine .andThen (AW.blockN (s:=z5) (L:=fun T'=>f4L6 T' (.ptr d 0) (.ptr e 0) (.ptr σ3.w 0) (.ptr σ3.v 0) L (i64 As.length) (i64 i)) ?_) fun T3 g3=>f4_33 (add64 (by omega)) g3
 refine .andThen (f4_9 a1 a2 b1 b2 g2) fun T4 g4=> ?_
 refine .andThen (f4_10_F (eqlF (by omega)) g4) fun T5 g5=> ?_
 refine .andThen (f4_11 g5) fun T6 g6=> ?_
 refine .andThen (s:=σ3.st) (L:=fun T'=>f4L11 T' (.ptr d 0) (.ptr e 0) (.ptr σ3.w 0) (.ptr σ3.v 0) (.ptr σ.st.next 0) (i64 er) (i64 er) L (i64 As.length) (i64 i)) ?_ fun T7 g7=> .andThen (c4 T7 g7) fun T8 g8=>c5 T8 g8
 refine .andThen (f4_12 (load_row b3 (p3 rfl)) g6) fun T8 g8=> ?_
 exact AW.blockN (sw T8 g8)
theorem sim0(q:Int)(h:0≤q∧q≤9223372036854775807):Sim ⟨[],q,0,false⟩ ⟨[],q,0,false⟩:=
 {perm:= .refl _,ord:= .nil,may:=fun f h=>(by cases h),q:=rfl,fu:=rfl,off:=rfl,good:=fun f h=>(by cases h),rgood:=fun f h=>(by cases h),fub:=⟨Int.le_refl 0,by show (0:Int)≤_;omega⟩,qb:=h,len:=Nat.zero_le _}
theorem plays_all{st:St}(hw:st.wf)(hl:st.lock= [])(hgl:GT st){L:AV}{As:List Ac}(hL:ActsV L As)(hAs:∀A∈As,AcOk A)(hB:(As.map fun A=>A.xs.length).sum≤1048576):ACalls Tryz.prog 4 [L] (fun r _=>r=TT) st:=by
 obtain ⟨s0,k0,R0⟩:=awake_det hgl hw
 obtain ⟨s1,k1,p1,R1⟩:=(new_ok R0.wf 1048576).2 (by omega)
 obtain ⟨s2,k2,q2,R2⟩:=(rnew_ok R1.wf 1048576).2 (by omega)
 have hS:=sim0 1048576 (by decide)
 have hgl2:GT s2:=(R2.gl.trans (R1.gl.trans R0.gl)).trans hgl
 have hl2:s2.lock= []:=(R2.lock.trans (R1.lock.trans R0.lock)).trans hl
 obtain ⟨l1,z1,a1,a2,_,a5⟩:=gopen_ok hS (PD.rest p1 R2) R2.wf hl2 hgl2 rfl (by decide)
 have hz:RD z1 s1.next .nils ⟨[],1048576,0,false⟩:=q2.rest a5 (by simp) (fun _ _=>by simp)
 obtain ⟨l2,z2,b1,b2,_,b5⟩:=rgopen_ok hS (fun f h=>(by cases h)) hz a5.wf (a5.lock.trans hl2) rfl (by decide)
 have H0:PlI (s0.next+1) s0.next s1.next (room As 0) ⟨z2,.nils,⟨[],1048576,0,false⟩,⟨[],1048576,0,false⟩,s2.next,z1.next,nxtK (segK ⟨[],1048576,0,false⟩) (segK ⟨[],1048576,0,false⟩).length,0,0⟩:=
  ⟨a2.rest b5,b2,(b5.gl.trans a5.gl).trans hgl2,hS,fun f h=>(by cases h),by show 0≤_;omega,nxtK_b (R:=([]:List RF).map RF.name) (segK ⟨[],1048576,0,false⟩).length,by show 0≤_;omega,by show 0≤_;omega⟩
 obtain ⟨c,c0,inv,step⟩:=chain_seq (fun i σ=>PlI (s0.next+1) s0.next s1.next (room As i) σ) (TurnR (s0.next+1) s1.next L As.length) (min As.length 60) _ H0 (fun i σ hi H=>turn_ok hL hAs hB (by omega) (by omega) H)
 have Hn:=inv (min As.length 60) (Nat.le_refl _)
 obtain ⟨sf,fin⟩:∃sf,∀T,f4L6 T (.ptr (s0.next+1) 0) (.ptr s1.next 0) (.ptr (c (min As.length 60)).w 0) (.ptr (c (min As.length 60)).v 0) L (i64 As.length) (i64 (min As.length 60:Nat))→AW Tryz.prog turnC (fun ex T' st'=>ex= .exit 0∧f4L8 T'∧st'=sf) T (c (min As.length 60)).st:=by
  by_cases hle:As.length≤60
  ·have he:min As.length 60=As.length:=by omega
   rw [he]
   refine ⟨(c As.length).st,fun T hT=> ?_⟩
   refine .andThen (f4_7_F (lssF (by omega)) hT) fun T1 g1=> ?_
   exact AW.seqExit (f4_8_F g1)
  ·have he:min As.length 60=60:=by omega
   rw [he] at Hn⊢
   have hi:60<As.length:=by omega
   have hA:=List.getElem?_eq_getElem hi
   generalize As[60]=A at hA
   have hok:=hAs A (List.mem_of_getElem? hA)
   obtain ⟨q,x1,x2⟩:=act_elem hL hA (c 60).st
   obtain ⟨t1,t2,y1,y2,y3,R⟩:=newAct Hn.p.wf Hn.p.lock hok
   refine ⟨t2,fun T hT=> ?_⟩
   refine .andThen (f4_7_T (lssT (by omega)) hT) fun T1 g1=> ?_
   refine .andThen (f4_8_T g1) fun T2 g2=> ?_
   refine .seq (.block ((AW.andThen (f4_9 x1 x2 y1 y2 g2) fun T4 g4=>AW.seqExit (f4_10_T (eqlT rfl) g4)).mono fun ex T' st' ⟨q1,q2,q3⟩=> ?_))
   subst q1
   simp only [blockA]
   rw [if_neg (by decide)]
   exact ⟨rfl,q2,q3⟩
 refine ACalls.body (E:=E0) hE Tryz.func4 f4body ?_
 refine .andThen (f4_0 (v0:=L) ⟨rfl,rfl⟩) fun T1 h1=> ?_
 refine .andThen (f4_1_T k0 h1) fun T2 h2=> ?_
 refine .andThen (f4_2 (f13_FF k1 k2 (neqF rfl) (neqF rfl)) h2) fun T3 h3=> ?_
 refine .andThen (f4_3 a1 h3) fun T4 h4=> ?_
 refine .andThen (f4_4 b1 h4) fun T5 h5=> ?_
 refine .andThen (f4_5_FF (neqF rfl) (neqF rfl) h5) fun T6 h6=> ?_
 refine .andThen (L:=fun T=>f4L8 T) (s:=sf) (.andThen (f4_6 (lenActs hL) h6) fun T7 h7=> ?_) fun T8 h8=> ?_
 ·exact AW.turns (In:=fun i T=>f4L6 T (.ptr (s0.next+1) 0) (.ptr s1.next 0) (.ptr (c i).w 0) (.ptr (c i).v 0) L (i64 As.length) (i64 i)) (c:=fun i=>(c i).st) (n:=min As.length 60) (by rw [c0]) (by rw [c0];exact h7) (fun i hi T hT=>step i hi T hT) fin
 ·refine .atRet (f4_34 h8) fun T9 h9=>⟨[TT],?_,rfl⟩
  show some [T9.get 2]=_
  rw [h9.2]
end
end Go.Proofs.YtalchcdenhfmiaaGreatDoor.E
