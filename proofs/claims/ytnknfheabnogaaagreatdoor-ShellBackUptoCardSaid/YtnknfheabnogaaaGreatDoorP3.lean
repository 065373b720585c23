/- Part 3 of the proof, over the abstract machine: contracts of the functions that the statement reaches, joined out of several texts. Condition: none beyond those that the lemmas name. -/
import Derived.Test.YtnknfheabnogaaaGreatDoorP2
import Derived.Lib.ItoaLen
namespace Go.Proofs.YtnknfheabnogaaaGreatDoor.E
open Go Go.Proofs
section
set_option maxRecDepth 100000
noncomputable def f30P(i:Nat):Code:=match Tryz.f30.body with
  |some (.seq x0 (.seq x1 (.seq (.seq x2 (.cond _ (.seq x3 x4) x5)) (.seq (.seq x6 (.cond _ (.seq x7 x8) x9)) (.seq x10 (.seq (.seq x11 (.block 0 (.seq x12 (.cond _ x13 (.seq x14 (.cond _ x15 (.seq x16 (.cond _ (.seq x17 (.seq (.seq x18 (.cond _ x19 x20)) x21)) x22)))))))) (.seq x23 x24)))))))=> [x0,x1,x2,x3,x4,x5,x6,x7,x8,x9,x10,x11,x12,x13,x14,x15,x16,x17,x18,x19,x20,x21,x22,x23,x24].getD i .skip
  |_=> .skip
theorem f30body:Tryz.f30.body=some (.seq (f30P 0) (.seq (f30P 1) (.seq (.seq (f30P 2) (.cond (.tmp 61) (.seq (f30P 3) (f30P 4)) (f30P 5))) (.seq (.seq (f30P 6) (.cond (.tmp 63) (.seq (f30P 7) (f30P 8)) (f30P 9))) (.seq (f30P 10) (.seq (.seq (f30P 11) (.block 0 (.seq (f30P 12) (.cond (.tmp 75) (f30P 13) (.seq (f30P 14) (.cond (.tmp 83) (f30P 15) (.seq (f30P 16) (.cond (.tmp 91) (.seq (f30P 17) (.seq (.seq (f30P 18) (.cond (.tmp 94) (f30P 19) (f30P 20))) (f30P 21))) (f30P 22))))))))) (.seq (f30P 23) (f30P 24)))))))):=by kernel_rfl
def f30L0(T:Tm)(a0:AV):Prop:=T.n=103∧T.get 0=a0
def f30L1(T:Tm)(a1:AV):Prop:=T.n=103∧T.get 1=a1
theorem f30_0_e(k e c n:Int)(d:AV)(en:Bool)(st s1:St)(a1:Nat):((evS Tryz.prog E0 noOv noS 100000 [2001] (f30P 0) ⟨103,[(0,(.agg [(i64 k),(i64 e),(i64 c),(i64 n),d,(bo en)]))],[]⟩ st [.eff (.ptr a1 0) (fun _=>s1)]).map fun q=>(q.1,q.2.1.n,([q.2.1.get 1]:List AV),q.2.2.1,q.2.2.2.2))=some (.normal,103,[(.ptr a1 0)],s1,[boxA st 70 (.agg [(i64 k),(i64 e),(i64 c),(i64 n),d,(bo en)])=some ((.ptr a1 0),s1)]):=by kernel_rfl
theorem f30_0{k e c n:Int}{d:AV}{en:Bool}{st s1:St}{a1:Nat}(h1:boxA st 70 (.agg [(i64 k),(i64 e),(i64 c),(i64 n),d,(bo en)])=some ((.ptr a1 0),s1)){T:Tm}(hT:f30L0 T (.agg [(i64 k),(i64 e),(i64 c),(i64 n),d,(bo en)])):AW Tryz.prog (f30P 0) (fun ex T' st'=>ex= .normal∧f30L1 T' (.ptr a1 0)∧st'=s1) T st:=by
  obtain ⟨hn,g0⟩:=hT
  exact (gen_run (G:=fun T=>([T.get 1]:List AV)) hE (f30_0_e k e c n d en st s1 a1) (Ob.ok_cons.2 ⟨h1,Ob.ok_nil⟩) hn (one g0)).mono fun ex T' st' ⟨q1,q2,q3,q4⟩=>by simp only [List.cons.injEq,and_true] at q3;exact ⟨q1,⟨q2,q3⟩,q4⟩
def f30L2(T:Tm)(a1 a4 a5:AV):Prop:=T.n=103∧T.get 1=a1∧T.get 4=a4∧T.get 5=a5
theorem f30_1_T_e(a:Nat)(st s1:St)(k e:Int)(w9:ByteArray):((evS Tryz.prog E0 noOv noS 100000 [6038,7012,8000] (f30P 1) ⟨103,[(1,(.ptr a 0))],[]⟩ st [.eff (i64 k) id,.eff (i64 e) id,.eff TT id,.eff (str w9) (fun _=>s1)]).map fun q=>(q.1,q.2.1.n,([q.2.1.get 1,q.2.1.get 4,q.2.1.get 5]:List AV),q.2.2.1,q.2.2.2.2))=some (.normal,103,[(.ptr a 0),(str w9),TT],s1.show st [a,a],[∀k∈ [a,a],k<st.next,[a,a].contains a=true∧loadA E0 st 3 (.ptr a 0)=some (i64 k),[a,a].contains a=true∧loadA E0 st 23 (.ptr a 1)=some (i64 e),binA E0 .eql 23 (i64 e) (i64 0)=some TT,(true=true→ [a,a].all (fun k=>(st.get k).isSome)=true),obC 38 [(i64 k)] (st.hide [a,a]) (str w9) s1]):=by kernel_rfl
theorem f30_1_T{a:Nat}{st s1:St}{k e:Int}{w9:ByteArray}(h1:∀k∈ [a,a],k<st.next)(h2:loadA E0 st 3 (.ptr a 0)=some (i64 k))(h3:loadA E0 st 23 (.ptr a 1)=some (i64 e))(h4:binA E0 .eql 23 (i64 e) (i64 0)=some TT)(h5: [a,a].all (fun k=>(st.get k).isSome)=true)(h6:obC 38 [(i64 k)] (st.hide [a,a]) (str w9) s1){T:Tm}(hT:f30L1 T (.ptr a 0)):AW Tryz.prog (f30P 1) (fun ex T' st'=>ex= .normal∧f30L2 T' (.ptr a 0) (str w9) TT∧st'=(s1.show st [a,a])) T st:=by
  obtain ⟨hn,g1⟩:=hT
  exact (gen_run (G:=fun T=>([T.get 1,T.get 4,T.get 5]:List AV)) hE (f30_1_T_e a st s1 k e w9) (Ob.ok_cons.2 ⟨h1,(Ob.ok_cons.2 ⟨⟨by simp,h2⟩,(Ob.ok_cons.2 ⟨⟨by simp,h3⟩,(Ob.ok_cons.2 ⟨h4,(Ob.ok_cons.2 ⟨(fun _=>h5),(Ob.ok_cons.2 ⟨h6,Ob.ok_nil⟩)⟩)⟩)⟩)⟩)⟩) hn (one g1)).mono fun ex T' st' ⟨q1,q2,q3,q4⟩=>by simp only [List.cons.injEq,and_true] at q3;exact ⟨q1,⟨q2,q3⟩,q4⟩
theorem f30_1_F_e(a:Nat)(st s1:St)(k e:Int)(w9:ByteArray):((evS Tryz.prog E0 noOv noS 100000 [6038,7012,8000] (f30P 1) ⟨103,[(1,(.ptr a 0))],[]⟩ st [.eff (i64 k) id,.eff (i64 e) id,.eff FF id,.eff (str w9) (fun _=>s1)]).map fun q=>(q.1,q.2.1.n,([q.2.1.get 1,q.2.1.get 4,q.2.1.get 5]:List AV),q.2.2.1,q.2.2.2.2))=some (.normal,103,[(.ptr a 0),(str w9),FF],s1.show st [a,a],[∀k∈ [a,a],k<st.next,[a,a].contains a=true∧loadA E0 st 3 (.ptr a 0)=some (i64 k),[a,a].contains a=true∧loadA E0 st 23 (.ptr a 1)=some (i64 e),binA E0 .eql 23 (i64 e) (i64 0)=some FF,(true=true→ [a,a].all (fun k=>(st.get k).isSome)=true),obC 38 [(i64 k)] (st.hide [a,a]) (str w9) s1]):=by kernel_rfl
theorem f30_1_F{a:Nat}{st s1:St}{k e:Int}{w9:ByteArray}(h1:∀k∈ [a,a],k<st.next)(h2:loadA E0 st 3 (.ptr a 0)=some (i64 k))(h3:loadA E0 st 23 (.ptr a 1)=some (i64 e))(h4:binA E0 .eql 23 (i64 e) (i64 0)=some FF)(h5: [a,a].all (fun k=>(st.get k).isSome)=true)(h6:obC 38 [(i64 k)] (st.hide [a,a]) (str w9) s1){T:Tm}(hT:f30L1 T (.ptr a 0)):AW Tryz.prog (f30P 1) (fun ex T' st'=>ex= .normal∧f30L2 T' (.ptr a 0) (str w9) FF∧st'=(s1.show st [a,a])) T st:=by
  obtain ⟨hn,g1⟩:=hT
  exact (gen_run (G:=fun T=>([T.get 1,T.get 4,T.get 5]:List AV)) hE (f30_1_F_e a st s1 k e w9) (Ob.ok_cons.2 ⟨h1,(Ob.ok_cons.2 ⟨⟨by simp,h2⟩,(Ob.ok_cons.2 ⟨⟨by simp,h3⟩,(Ob.ok_cons.2 ⟨h4,(Ob.ok_cons.2 ⟨(fun _=>h5),(Ob.ok_cons.2 ⟨h6,Ob.ok_nil⟩)⟩)⟩)⟩)⟩)⟩) hn (one g1)).mono fun ex T' st' ⟨q1,q2,q3,q4⟩=>by simp only [List.cons.injEq,and_true] at q3;exact ⟨q1,⟨q2,q3⟩,q4⟩
def f30L3(T:Tm)(a1 a4 a5 a61:AV):Prop:=T.n=103∧T.get 1=a1∧T.get 4=a4∧T.get 5=a5∧T.get 61=a61
theorem f30_2_T_e(a:Nat)(s:ByteArray)(b5:Bool)(st:St):((evS Tryz.prog E0 noOv noS 100000 [2020,2025,2034,2039,2048,2053,2058,7014,7021,7026,7035,7040,7049,7054,7055] (f30P 2) ⟨103,[(1,(.ptr a 0)),(4,(str s)),(5,(bo b5))],[]⟩ st [.av TT]).map fun q=>(q.1,q.2.1.n,([q.2.1.get 1,q.2.1.get 4,q.2.1.get 5,q.2.1.get 61]:List AV),q.2.2.1,q.2.2.2.2))=some (.normal,103,[(.ptr a 0),(str s),(bo b5),TT],st,[binA E0 .eql 9 (str s) (str ⟨#[]⟩)=some TT]):=by kernel_rfl
theorem f30_2_T{a:Nat}{s:ByteArray}{b5:Bool}{st:St}(h1:binA E0 .eql 9 (str s) (str ⟨#[]⟩)=some TT){T:Tm}(hT:f30L2 T (.ptr a 0) (str s) (bo b5)):AW Tryz.prog (f30P 2) (fun ex T' st'=>ex= .normal∧f30L3 T' (.ptr a 0) (str s) (bo b5) TT∧st'=st) T st:=by
  obtain ⟨hn,g1,g4,g5⟩:=hT
  exact (gen_run (G:=fun T=>([T.get 1,T.get 4,T.get 5,T.get 61]:List AV)) hE (f30_2_T_e a s b5 st) (Ob.ok_cons.2 ⟨h1,Ob.ok_nil⟩) hn (conz g1 (conz g4 (one g5)))).mono fun ex T' st' ⟨q1,q2,q3,q4⟩=>by simp only [List.cons.injEq,and_true] at q3;exact ⟨q1,⟨q2,q3⟩,q4⟩
theorem f30_2_FTTT_e(a:Nat)(s:ByteArray)(st:St)(k c:Int):((evS Tryz.prog E0 noOv noS 100000 [2020,2025,2034,2039,2048,2053,2058,7014,7021,7026,7035,7040,7049,7054,7055] (f30P 2) ⟨103,[(1,(.ptr a 0)),(4,(str s)),(5,TT)],[]⟩ st [.av FF,.eff (i64 k) id,.av TT,.eff (i64 c) id,.av TT]).map fun q=>(q.1,q.2.1.n,([q.2.1.get 1,q.2.1.get 4,q.2.1.get 5,q.2.1.get 61]:List AV),q.2.2.1,q.2.2.2.2))=some (.normal,103,[(.ptr a 0),(str s),TT,TT],st,[binA E0 .eql 9 (str s) (str ⟨#[]⟩)=some FF,loadA E0 st 3 (.ptr a 0)=some (i64 k)∧st=st,binA E0 .neq 3 (i64 k) (i64 1)=some TT,loadA E0 st 3 (.ptr a 2)=some (i64 c)∧st=st,binA E0 .neq 3 (i64 c) (i64 0)=some TT]):=by kernel_rfl
theorem f30_2_FTTT{a:Nat}{s:ByteArray}{st:St}{k c:Int}(h1:binA E0 .eql 9 (str s) (str ⟨#[]⟩)=some FF)(h2:loadA E0 st 3 (.ptr a 0)=some (i64 k))(h3:binA E0 .neq 3 (i64 k) (i64 1)=some TT)(h4:loadA E0 st 3 (.ptr a 2)=some (i64 c))(h5:binA E0 .neq 3 (i64 c) (i64 0)=some TT){T:Tm}(hT:f30L2 T (.ptr a 0) (str s) TT):AW Tryz.prog (f30P 2) (fun ex T' st'=>ex= .normal∧f30L3 T' (.ptr a 0) (str s) TT TT∧st'=st) T st:=by
  obtain ⟨hn,g1,g4,g5⟩:=hT
  exact (gen_run (G:=fun T=>([T.get 1,T.get 4,T.get 5,T.get 61]:List AV)) hE (f30_2_FTTT_e a s st k c) (Ob.ok_cons.2 ⟨h1,(Ob.ok_cons.2 ⟨⟨h2,rfl⟩,(Ob.ok_cons.2 ⟨h3,(Ob.ok_cons.2 ⟨⟨h4,rfl⟩,(Ob.ok_cons.2 ⟨h5,Ob.ok_nil⟩)⟩)⟩)⟩)⟩) hn (conz g1 (conz g4 (one g5)))).mono fun ex T' st' ⟨q1,q2,q3,q4⟩=>by simp only [List.cons.injEq,and_true] at q3;exact ⟨q1,⟨q2,q3⟩,q4⟩
theorem f30_2_FTTFTT_e(a:Nat)(s:ByteArray)(st:St)(k c n:Int):((evS Tryz.prog E0 noOv noS 100000 [2020,2025,2034,2039,2048,2053,2058,7014,7021,7026,7035,7040,7049,7054,7055] (f30P 2) ⟨103,[(1,(.ptr a 0)),(4,(str s)),(5,TT)],[]⟩ st [.av FF,.eff (i64 k) id,.av TT,.eff (i64 c) id,.av FF,.eff (i64 k) id,.av TT,.eff (i64 n) id,.av TT]).map fun q=>(q.1,q.2.1.n,([q.2.1.get 1,q.2.1.get 4,q.2.1.get 5,q.2.1.get 61]:List AV),q.2.2.1,q.2.2.2.2))=some (.normal,103,[(.ptr a 0),(str s),TT,TT],st,[binA E0 .eql 9 (str s) (str ⟨#[]⟩)=some FF,loadA E0 st 3 (.ptr a 0)=some (i64 k)∧st=st,binA E0 .neq 3 (i64 k) (i64 1)=some TT,loadA E0 st 3 (.ptr a 2)=some (i64 c)∧st=st,binA E0 .neq 3 (i64 c) (i64 0)=some FF,loadA E0 st 3 (.ptr a 0)=some (i64 k)∧st=st,binA E0 .neq 3 (i64 k) (i64 5)=some TT,loadA E0 st 3 (.ptr a 3)=some (i64 n)∧st=st,binA E0 .neq 3 (i64 n) (i64 0)=some TT]):=by kernel_rfl
theorem f30_2_FTTFTT{a:Nat}{s:ByteArray}{st:St}{k c n:Int}(h1:binA E0 .eql 9 (str s) (str ⟨#[]⟩)=some FF)(h2:loadA E0 st 3 (.ptr a 0)=some (i64 k))(h3:binA E0 .neq 3 (i64 k) (i64 1)=some TT)(h4:loadA E0 st 3 (.ptr a 2)=some (i64 c))(h5:binA E0 .neq 3 (i64 c) (i64 0)=some FF)(h6:loadA E0 st 3 (.ptr a 0)=some (i64 k))(h7:binA E0 .neq 3 (i64 k) (i64 5)=some TT)(h8:loadA E0 st 3 (.ptr a 3)=some (i64 n))(h9:binA E0 .neq 3 (i64 n) (i64 0)=some TT){T:Tm}(hT:f30L2 T (.ptr a 0) (str s) TT):AW Tryz.prog (f30P 2) (fun ex T' st'=>ex= .normal∧f30L3 T' (.ptr a 0) (str s) TT TT∧st'=st) T st:=by
  obtain ⟨hn,g1,g4,g5⟩:=hT
  exact (gen_run (G:=fun T=>([T.get 1,T.get 4,T.get 5,T.get 61]:List AV)) hE (f30_2_FTTFTT_e a s st k c n) (Ob.ok_cons.2 ⟨h1,(Ob.ok_cons.2 ⟨⟨h2,rfl⟩,(Ob.ok_cons.2 ⟨h3,(Ob.ok_cons.2 ⟨⟨h4,rfl⟩,(Ob.ok_cons.2 ⟨h5,(Ob.ok_cons.2 ⟨⟨h6,rfl⟩,(Ob.ok_cons.2 ⟨h7,(Ob.ok_cons.2 ⟨⟨h8,rfl⟩,(Ob.ok_cons.2 ⟨h9,Ob.ok_nil⟩)⟩)⟩)⟩)⟩)⟩)⟩)⟩)⟩) hn (conz g1 (conz g4 (one g5)))).mono fun ex T' st' ⟨q1,q2,q3,q4⟩=>by simp only [List.cons.injEq,and_true] at q3;exact ⟨q1,⟨q2,q3⟩,q4⟩
theorem f30_2_FTTFTFTT_e(a:Nat)(s:ByteArray)(st:St)(k c n n54:Int)(v53:AV):((evS Tryz.prog E0 noOv noS 100000 [2020,2025,2034,2039,2048,2053,2058,7014,7021,7026,7035,7040,7049,7054,7055] (f30P 2) ⟨103,[(1,(.ptr a 0)),(4,(str s)),(5,TT)],[]⟩ st [.av FF,.eff (i64 k) id,.av TT,.eff (i64 c) id,.av FF,.eff (i64 k) id,.av TT,.eff (i64 n) id,.av FF,.eff (i64 k) id,.av TT,.eff v53 id,.av (i64 n54),.av TT]).map fun q=>(q.1,q.2.1.n,([q.2.1.get 1,q.2.1.get 4,q.2.1.get 5,q.2.1.get 61]:List AV),q.2.2.1,q.2.2.2.2))=some (.normal,103,[(.ptr a 0),(str s),TT,TT],st,[binA E0 .eql 9 (str s) (str ⟨#[]⟩)=some FF,loadA E0 st 3 (.ptr a 0)=some (i64 k)∧st=st,binA E0 .neq 3 (i64 k) (i64 1)=some TT,loadA E0 st 3 (.ptr a 2)=some (i64 c)∧st=st,binA E0 .neq 3 (i64 c) (i64 0)=some FF,loadA E0 st 3 (.ptr a 0)=some (i64 k)∧st=st,binA E0 .neq 3 (i64 k) (i64 5)=some TT,loadA E0 st 3 (.ptr a 3)=some (i64 n)∧st=st,binA E0 .neq 3 (i64 n) (i64 0)=some FF,loadA E0 st 3 (.ptr a 0)=some (i64 k)∧st=st,binA E0 .neq 3 (i64 k) (i64 2)=some TT,loadA E0 st 51 (.ptr a 4)=some v53∧st=st,lenA E0 51 v53=some (i64 n54),binA E0 .gtr 3 (i64 n54) (i64 0)=some TT]):=by kernel_rfl
theorem f30_2_FTTFTFTT{a:Nat}{s:ByteArray}{st:St}{k c n n54:Int}{v53:AV}(h1:binA E0 .eql 9 (str s) (str ⟨#[]⟩)=some FF)(h2:loadA E0 st 3 (.ptr a 0)=some (i64 k))(h3:binA E0 .neq 3 (i64 k) (i64 1)=some TT)(h4:loadA E0 st 3 (.ptr a 2)=some (i64 c))(h5:binA E0 .neq 3 (i64 c) (i64 0)=some FF)(h6:loadA E0 st 3 (.ptr a 0)=some (i64 k))(h7:binA E0 .neq 3 (i64 k) (i64 5)=some TT)(h8:loadA E0 st 3 (.ptr a 3)=some (i64 n))(h9:binA E0 .neq 3 (i64 n) (i64 0)=some FF)(h10:loadA E0 st 3 (.ptr a 0)=some (i64 k))(h11:binA E0 .neq 3 (i64 k) (i64 2)=some TT)(h12:loadA E0 st 51 (.ptr a 4)=some v53)(h13:lenA E0 51 v53=some (i64 n54))(h14:binA E0 .gtr 3 (i64 n54) (i64 0)=some TT){T:Tm}(hT:f30L2 T (.ptr a 0) (str s) TT):AW Tryz.prog (f30P 2) (fun ex T' st'=>ex= .normal∧f30L3 T' (.ptr a 0) (str s) TT TT∧st'=st) T st:=by
  obtain ⟨hn,g1,g4,g5⟩:=hT
  exact (gen_run (G:=fun T=>([T.get 1,T.get 4,T.get 5,T.get 61]:List AV)) hE (f30_2_FTTFTFTT_e a s st k c n n54 v53) (Ob.ok_cons.2 ⟨h1,(Ob.ok_cons.2 ⟨⟨h2,rfl⟩,(Ob.ok_cons.2 ⟨h3,(Ob.ok_cons.2 ⟨⟨h4,rfl⟩,(Ob.ok_cons.2 ⟨h5,(Ob.ok_cons.2 ⟨⟨h6,rfl⟩,(Ob.ok_cons.2 ⟨h7,(Ob.ok_cons.2 ⟨⟨h8,rfl⟩,(Ob.ok_cons.2 ⟨h9,(Ob.ok_cons.2 ⟨⟨h10,rfl⟩,(Ob.ok_cons.2 ⟨h11,(Ob.ok_cons.2 ⟨⟨h12,rfl⟩,(Ob.ok_cons.2 ⟨h13,(Ob.ok_cons.2 ⟨h14,Ob.ok_nil⟩)⟩)⟩)⟩)⟩)⟩)⟩)⟩)⟩)⟩)⟩)⟩)⟩)⟩) hn (conz g1 (conz g4 (one g5)))).mono fun ex T' st' ⟨q1,q2,q3,q4⟩=>by simp only [List.cons.injEq,and_true] at q3;exact ⟨q1,⟨q2,q3⟩,q4⟩
theorem f30_2_FTTFTFTF_e(a:Nat)(s:ByteArray)(st:St)(k c n n54:Int)(v53:AV)(en:Bool):((evS Tryz.prog E0 noOv noS 100000 [2020,2025,2034,2039,2048,2053,2058,7014,7021,7026,7035,7040,7049,7054,7055] (f30P 2) ⟨103,[(1,(.ptr a 0)),(4,(str s)),(5,TT)],[]⟩ st [.av FF,.eff (i64 k) id,.av TT,.eff (i64 c) id,.av FF,.eff (i64 k) id,.av TT,.eff (i64 n) id,.av FF,.eff (i64 k) id,.av TT,.eff v53 id,.av (i64 n54),.av FF,.eff (bo en) id]).map fun q=>(q.1,q.2.1.n,([q.2.1.get 1,q.2.1.get 4,q.2.1.get 5,q.2.1.get 61]:List AV),q.2.2.1,q.2.2.2.2))=some (.normal,103,[(.ptr a 0),(str s),TT,(bo en)],st,[binA E0 .eql 9 (str s) (str ⟨#[]⟩)=some FF,loadA E0 st 3 (.ptr a 0)=some (i64 k)∧st=st,binA E0 .neq 3 (i64 k) (i64 1)=some TT,loadA E0 st 3 (.ptr a 2)=some (i64 c)∧st=st,binA E0 .neq 3 (i64 c) (i64 0)=some FF,loadA E0 st 3 (.ptr a 0)=some (i64 k)∧st=st,binA E0 .neq 3 (i64 k) (i64 5)=some TT,loadA E0 st 3 (.ptr a 3)=some (i64 n)∧st=st,binA E0 .neq 3 (i64 n) (i64 0)=some FF,loadA E0 st 3 (.ptr a 0)=some (i64 k)∧st=st,binA E0 .neq 3 (i64 k) (i64 2)=some TT,loadA E0 st 51 (.ptr a 4)=some v53∧st=st,lenA E0 51 v53=some (i64 n54),binA E0 .gtr 3 (i64 n54) (i64 0)=some FF,loadA E0 st 4 (.ptr a 5)=some (bo en)∧st=st]):=by kernel_rfl
theorem f30_2_FTTFTFTF{a:Nat}{s:ByteArray}{st:St}{k c n n54:Int}{v53:AV}{en:Bool}(h1:binA E0 .eql 9 (str s) (str ⟨#[]⟩)=some FF)(h2:loadA E0 st 3 (.ptr a 0)=some (i64 k))(h3:binA E0 .neq 3 (i64 k) (i64 1)=some TT)(h4:loadA E0 st 3 (.ptr a 2)=some (i64 c))(h5:binA E0 .neq 3 (i64 c) (i64 0)=some FF)(h6:loadA E0 st 3 (.ptr a 0)=some (i64 k))(h7:binA E0 .neq 3 (i64 k) (i64 5)=some TT)(h8:loadA E0 st 3 (.ptr a 3)=some (i64 n))(h9:binA E0 .neq 3 (i64 n) (i64 0)=some FF)(h10:loadA E0 st 3 (.ptr a 0)=some (i64 k))(h11:binA E0 .neq 3 (i64 k) (i64 2)=some TT)(h12:loadA E0 st 51 (.ptr a 4)=some v53)(h13:lenA E0 51 v53=some (i64 n54))(h14:binA E0 .gtr 3 (i64 n54) (i64 0)=some FF)(h15:loadA E0 st 4 (.ptr a 5)=some (bo en)){T:Tm}(hT:f30L2 T (.ptr a 0) (str s) TT):AW Tryz.prog (f30P 2) (fun ex T' st'=>ex= .normal∧f30L3 T' (.ptr a 0) (str s) TT (bo en)∧st'=st) T st:=by
  obtain ⟨hn,g1,g4,g5⟩:=hT
  exact (gen_run (G:=fun T=>([T.get 1,T.get 4,T.get 5,T.get 61]:List AV)) hE (f30_2_FTTFTFTF_e a s st k c n n54 v53 en) (Ob.ok_cons.2 ⟨h1,(Ob.ok_cons.2 ⟨⟨h2,rfl⟩,(Ob.ok_cons.2 ⟨h3,(Ob.ok_cons.2 ⟨⟨h4,rfl⟩,(Ob.ok_cons.2 ⟨h5,(Ob.ok_cons.2 ⟨⟨h6,rfl⟩,(Ob.ok_cons.2 ⟨h7,(Ob.ok_cons.2 ⟨⟨h8,rfl⟩,(Ob.ok_cons.2 ⟨h9,(Ob.ok_cons.2 ⟨⟨h10,rfl⟩,(Ob.ok_cons.2 ⟨h11,(Ob.ok_cons.2 ⟨⟨h12,rfl⟩,(Ob.ok_cons.2 ⟨h13,(Ob.ok_cons.2 ⟨h14,(Ob.ok_cons.2 ⟨⟨h15,rfl⟩,Ob.ok_nil⟩)⟩)⟩)⟩)⟩)⟩)⟩)⟩)⟩)⟩)⟩)⟩)⟩)⟩)⟩) hn (conz g1 (conz g4 (one g5)))).mono fun ex T' st' ⟨q1,q2,q3,q4⟩=>by simp only [List.cons.injEq,and_true] at q3;exact ⟨q1,⟨q2,q3⟩,q4⟩
theorem f30_2_FTTFTFF_e(a:Nat)(s:ByteArray)(st:St)(k c n:Int):((evS Tryz.prog E0 noOv noS 100000 [2020,2025,2034,2039,2048,2053,2058,7014,7021,7026,7035,7040,7049,7054,7055] (f30P 2) ⟨103,[(1,(.ptr a 0)),(4,(str s)),(5,TT)],[]⟩ st [.av FF,.eff (i64 k) id,.av TT,.eff (i64 c) id,.av FF,.eff (i64 k) id,.av TT,.eff (i64 n) id,.av FF,.eff (i64 k) id,.av FF]).map fun q=>(q.1,q.2.1.n,([q.2.1.get 1,q.2.1.get 4,q.2.1.get 5,q.2.1.get 61]:List AV),q.2.2.1,q.2.2.2.2))=some (.normal,103,[(.ptr a 0),(str s),TT,FF],st,[binA E0 .eql 9 (str s) (str ⟨#[]⟩)=some FF,loadA E0 st 3 (.ptr a 0)=some (i64 k)∧st=st,binA E0 .neq 3 (i64 k) (i64 1)=some TT,loadA E0 st 3 (.ptr a 2)=some (i64 c)∧st=st,binA E0 .neq 3 (i64 c) (i64 0)=some FF,loadA E0 st 3 (.ptr a 0)=some (i64 k)∧st=st,binA E0 .neq 3 (i64 k) (i64 5)=some TT,loadA E0 st 3 (.ptr a 3)=some (i64 n)∧st=st,binA E0 .neq 3 (i64 n) (i64 0)=some FF,loadA E0 st 3 (.ptr a 0)=some (i64 k)∧st=st,binA E0 .neq 3 (i64 k) (i64 2)=some FF]):=by kernel_rfl
theorem f30_2_FTTFTFF{a:Nat}{s:ByteArray}{st:St}{k c n:Int}(h1:binA E0 .eql 9 (str s) (str ⟨#[]⟩)=some FF)(h2:loadA E0 st 3 (.ptr a 0)=some (i64 k))(h3:binA E0 .neq 3 (i64 k) (i64 1)=some TT)(h4:loadA E0 st 3 (.ptr a 2)=some (i64 c))(h5:binA E0 .neq 3 (i64 c) (i64 0)=some FF)(h6:loadA E0 st 3 (.ptr a 0)=some (i64 k))(h7:binA E0 .neq 3 (i64 k) (i64 5)=some TT)(h8:loadA E0 st 3 (.ptr a 3)=some (i64 n))(h9:binA E0 .neq 3 (i64 n) (i64 0)=some FF)(h10:loadA E0 st 3 (.ptr a 0)=some (i64 k))(h11:binA E0 .neq 3 (i64 k) (i64 2)=some FF){T:Tm}(hT:f30L2 T (.ptr a 0) (str s) TT):AW Tryz.prog (f30P 2) (fun ex T' st'=>ex= .normal∧f30L3 T' (.ptr a 0) (str s) TT FF∧st'=st) T st:=by
  obtain ⟨hn,g1,g4,g5⟩:=hT
  exact (gen_run (G:=fun T=>([T.get 1,T.get 4,T.get 5,T.get 61]:List AV)) hE (f30_2_FTTFTFF_e a s st k c n) (Ob.ok_cons.2 ⟨h1,(Ob.ok_cons.2 ⟨⟨h2,rfl⟩,(Ob.ok_cons.2 ⟨h3,(Ob.ok_cons.2 ⟨⟨h4,rfl⟩,(Ob.ok_cons.2 ⟨h5,(Ob.ok_cons.2 ⟨⟨h6,rfl⟩,(Ob.ok_cons.2 ⟨h7,(Ob.ok_cons.2 ⟨⟨h8,rfl⟩,(Ob.ok_cons.2 ⟨h9,(Ob.ok_cons.2 ⟨⟨h10,rfl⟩,(Ob.ok_cons.2 ⟨h11,Ob.ok_nil⟩)⟩)⟩)⟩)⟩)⟩)⟩)⟩)⟩)⟩)⟩) hn (conz g1 (conz g4 (one g5)))).mono fun ex T' st' ⟨q1,q2,q3,q4⟩=>by simp only [List.cons.injEq,and_true] at q3;exact ⟨q1,⟨q2,q3⟩,q4⟩
theorem f30_2_FTTFFTT_e(a:Nat)(s:ByteArray)(st:St)(k c n54:Int)(v53:AV):((evS Tryz.prog E0 noOv noS 100000 [2020,2025,2034,2039,2048,2053,2058,7014,7021,7026,7035,7040,7049,7054,7055] (f30P 2) ⟨103,[(1,(.ptr a 0)),(4,(str s)),(5,TT)],[]⟩ st [.av FF,.eff (i64 k) id,.av TT,.eff (i64 c) id,.av FF,.eff (i64 k) id,.av FF,.eff (i64 k) id,.av TT,.eff v53 id,.av (i64 n54),.av TT]).map fun q=>(q.1,q.2.1.n,([q.2.1.get 1,q.2.1.get 4,q.2.1.get 5,q.2.1.get 61]:List AV),q.2.2.1,q.2.2.2.2))=some (.normal,103,[(.ptr a 0),(str s),TT,TT],st,[binA E0 .eql 9 (str s) (str ⟨#[]⟩)=some FF,loadA E0 st 3 (.ptr a 0)=some (i64 k)∧st=st,binA E0 .neq 3 (i64 k) (i64 1)=some TT,loadA E0 st 3 (.ptr a 2)=some (i64 c)∧st=st,binA E0 .neq 3 (i64 c) (i64 0)=some FF,loadA E0 st 3 (.ptr a 0)=some (i64 k)∧st=st,binA E0 .neq 3 (i64 k) (i64 5)=some FF,loadA E0 st 3 (.ptr a 0)=some (i64 k)∧st=st,binA E0 .neq 3 (i64 k) (i64 2)=some TT,loadA E0 st 51 (.ptr a 4)=some v53∧st=st,lenA E0 51 v53=some (i64 n54),binA E0 .gtr 3 (i64 n54) (i64 0)=some TT]):=by kernel_rfl
theorem f30_2_FTTFFTT{a:Nat}{s:ByteArray}{st:St}{k c n54:Int}{v53:AV}(h1:binA E0 .eql 9 (str s) (str ⟨#[]⟩)=some FF)(h2:loadA E0 st 3 (.ptr a 0)=some (i64 k))(h3:binA E0 .neq 3 (i64 k) (i64 1)=some TT)(h4:loadA E0 st 3 (.ptr a 2)=some (i64 c))(h5:binA E0 .neq 3 (i64 c) (i64 0)=some FF)(h6:loadA E0 st 3 (.ptr a 0)=some (i64 k))(h7:binA E0 .neq 3 (i64 k) (i64 5)=some FF)(h8:loadA E0 st 3 (.ptr a 0)=some (i64 k))(h9:binA E0 .neq 3 (i64 k) (i64 2)=some TT)(h10:loadA E0 st 51 (.ptr a 4)=some v53)(h11:lenA E0 51 v53=some (i64 n54))(h12:binA E0 .gtr 3 (i64 n54) (i64 0)=some TT){T:Tm}(hT:f30L2 T (.ptr a 0) (str s) TT):AW Tryz.prog (f30P 2) (fun ex T' st'=>ex= .normal∧f30L3 T' (.ptr a 0) (str s) TT TT∧st'=st) T st:=by
  obtain ⟨hn,g1,g4,g5⟩:=hT
  exact (gen_run (G:=fun T=>([T.get 1,T.get 4,T.get 5,T.get 61]:List AV)) hE (f30_2_FTTFFTT_e a s st k c n54 v53) (Ob.ok_cons.2 ⟨h1,(Ob.ok_cons.2 ⟨⟨h2,rfl⟩,(Ob.ok_cons.2 ⟨h3,(Ob.ok_cons.2 ⟨⟨h4,rfl⟩,(Ob.ok_cons.2 ⟨h5,(Ob.ok_cons.2 ⟨⟨h6,rfl⟩,(Ob.ok_cons.2 ⟨h7,(Ob.ok_cons.2 ⟨⟨h8,rfl⟩,(Ob.ok_cons.2 ⟨h9,(Ob.ok_cons.2 ⟨⟨h10,rfl⟩,(Ob.ok_cons.2 ⟨h11,(Ob.ok_cons.2 ⟨h12,Ob.ok_nil⟩)⟩)⟩)⟩)⟩)⟩)⟩)⟩)⟩)⟩)⟩)⟩) hn (conz g1 (conz g4 (one g5)))).mono fun ex T' st' ⟨q1,q2,q3,q4⟩=>by simp only [List.cons.injEq,and_true] at q3;exact ⟨q1,⟨q2,q3⟩,q4⟩
theorem f30_2_FTTFFTF_e(a:Nat)(s:ByteArray)(st:St)(k c n54:Int)(v53:AV)(en:Bool):((evS Tryz.prog E0 noOv noS 100000 [2020,2025,2034,2039,2048,2053,2058,7014,7021,7026,7035,7040,7049,7054,7055] (f30P 2) ⟨103,[(1,(.ptr a 0)),(4,(str s)),(5,TT)],[]⟩ st [.av FF,.eff (i64 k) id,.av TT,.eff (i64 c) id,.av FF,.eff (i64 k) id,.av FF,.eff (i64 k) id,.av TT,.eff v53 id,.av (i64 n54),.av FF,.eff (bo en) id]).map fun q=>(q.1,q.2.1.n,([q.2.1.get 1,q.2.1.get 4,q.2.1.get 5,q.2.1.get 61]:List AV),q.2.2.1,q.2.2.2.2))=some (.normal,103,[(.ptr a 0),(str s),TT,(bo en)],st,[binA E0 .eql 9 (str s) (str ⟨#[]⟩)=some FF,loadA E0 st 3 (.ptr a 0)=some (i64 k)∧st=st,binA E0 .neq 3 (i64 k) (i64 1)=some TT,loadA E0 st 3 (.ptr a 2)=some (i64 c)∧st=st,binA E0 .neq 3 (i64 c) (i64 0)=some FF,loadA E0 st 3 (.ptr a 0)=some (i64 k)∧st=st,binA E0 .neq 3 (i64 k) (i64 5)=some FF,loadA E0 st 3 (.ptr a 0)=some (i64 k)∧st=st,binA E0 .neq 3 (i64 k) (i64 2)=some TT,loadA E0 st 51 (.ptr a 4)=some v53∧st=st,lenA E0 51 v53=some (i64 n54),binA E0 .gtr 3 (i64 n54) (i64 0)=some FF,loadA E0 st 4 (.ptr a 5)=some (bo en)∧st=st]):=by kernel_rfl
theorem f30_2_FTTFFTF{a:Nat}{s:ByteArray}{st:St}{k c n54:Int}{v53:AV}{en:Bool}(h1:binA E0 .eql 9 (str s) (str ⟨#[]⟩)=some FF)(h2:loadA E0 st 3 (.ptr a 0)=some (i64 k))(h3:binA E0 .neq 3 (i64 k) (i64 1)=some TT)(h4:loadA E0 st 3 (.ptr a 2)=some (i64 c))(h5:binA E0 .neq 3 (i64 c) (i64 0)=some FF)(h6:loadA E0 st 3 (.ptr a 0)=some (i64 k))(h7:binA E0 .neq 3 (i64 k) (i64 5)=some FF)(h8:loadA E0 st 3 (.ptr a 0)=some (i64 k))(h9:binA E0 .neq 3 (i64 k) (i64 2)=some TT)(h10:loadA E0 st 51 (.ptr a 4)=some v53)(h11:lenA E0 51 v53=some (i64 n54))(h12:binA E0 .gtr 3 (i64 n54) (i64 0)=some FF)(h13:loadA E0 st 4 (.ptr a 5)=some (bo en)){T:Tm}(hT:f30L2 T (.ptr a 0) (str s) TT):AW Tryz.prog (f30P 2) (fun ex T' st'=>ex= .normal∧f30L3 T' (.ptr a 0) (str s) TT (bo en)∧st'=st) T st:=by
  obtain ⟨hn,g1,g4,g5⟩:=hT
  exact (gen_run (G:=fun T=>([T.get 1,T.get 4,T.get 5,T.get 61]:List AV)) hE (f30_2_FTTFFTF_e a s st k c n54 v53 en) (Ob.ok_cons.2 ⟨h1,(Ob.ok_cons.2 ⟨⟨h2,rfl⟩,(Ob.ok_cons.2 ⟨h3,(Ob.ok_cons.2 ⟨⟨h4,rfl⟩,(Ob.ok_cons.2 ⟨h5,(Ob.ok_cons.2 ⟨⟨h6,rfl⟩,(Ob.ok_cons.2 ⟨h7,(Ob.ok_cons.2 ⟨⟨h8,rfl⟩,(Ob.ok_cons.2 ⟨h9,(Ob.ok_cons.2 ⟨⟨h10,rfl⟩,(Ob.ok_cons.2 ⟨h11,(Ob.ok_cons.2 ⟨h12,(Ob.ok_cons.2 ⟨⟨h13,rfl⟩,Ob.ok_nil⟩)⟩)⟩)⟩)⟩)⟩)⟩)⟩)⟩)⟩)⟩)⟩)⟩) hn (conz g1 (conz g4 (one g5)))).mono fun ex T' st' ⟨q1,q2,q3,q4⟩=>by simp only [List.cons.injEq,and_true] at q3;exact ⟨q1,⟨q2,q3⟩,q4⟩
theorem f30_2_FTTFFF_e(a:Nat)(s:ByteArray)(st:St)(k c:Int):((evS Tryz.prog E0 noOv noS 100000 [2020,2025,2034,2039,2048,2053,2058,7014,7021,7026,7035,7040,7049,7054,7055] (f30P 2) ⟨103,[(1,(.ptr a 0)),(4,(str s)),(5,TT)],[]⟩ st [.av FF,.eff (i64 k) id,.av TT,.eff (i64 c) id,.av FF,.eff (i64 k) id,.av FF,.eff (i64 k) id,.av FF]).map fun q=>(q.1,q.2.1.n,([q.2.1.get 1,q.2.1.get 4,q.2.1.get 5,q.2.1.get 61]:List AV),q.2.2.1,q.2.2.2.2))=some (.normal,103,[(.ptr a 0),(str s),TT,FF],st,[binA E0 .eql 9 (str s) (str ⟨#[]⟩)=some FF,loadA E0 st 3 (.ptr a 0)=some (i64 k)∧st=st,binA E0 .neq 3 (i64 k) (i64 1)=some TT,loadA E0 st 3 (.ptr a 2)=some (i64 c)∧st=st,binA E0 .neq 3 (i64 c) (i64 0)=some FF,loadA E0 st 3 (.ptr a 0)=some (i64 k)∧st=st,binA E0 .neq 3 (i64 k) (i64 5)=some FF,loadA E0 st 3 (.ptr a 0)=some (i64 k)∧st=st,binA E0 .neq 3 (i64 k) (i64 2)=some FF]):=by kernel_rfl
theorem f30_2_FTTFFF{a:Nat}{s:ByteArray}{st:St}{k c:Int}(h1:binA E0 .eql 9 (str s) (str ⟨#[]⟩)=some FF)(h2:loadA E0 st 3 (.ptr a 0)=some (i64 k))(h3:binA E0 .neq 3 (i64 k) (i64 1)=some TT)(h4:loadA E0 st 3 (.ptr a 2)=some (i64 c))(h5:binA E0 .neq 3 (i64 c) (i64 0)=some FF)(h6:loadA E0 st 3 (.ptr a 0)=some (i64 k))(h7:binA E0 .neq 3 (i64 k) (i64 5)=some FF)(h8:loadA E0 st 3 (.ptr a 0)=some (i64 k))(h9:binA E0 .neq 3 (i64 k) (i64 2)=some FF){T:Tm}(hT:f30L2 T (.ptr a 0) (str s) TT):AW Tryz.prog (f30P 2) (fun ex T' st'=>ex= .normal∧f30L3 T' (.ptr a 0) (str s) TT FF∧st'=st) T st:=by
  obtain ⟨hn,g1,g4,g5⟩:=hT
  exact (gen_run (G:=fun T=>([T.get 1,T.get 4,T.get 5,T.get 61]:List AV)) hE (f30_2_FTTFFF_e a s st k c) (Ob.ok_cons.2 ⟨h1,(Ob.ok_cons.2 ⟨⟨h2,rfl⟩,(Ob.ok_cons.2 ⟨h3,(Ob.ok_cons.2 ⟨⟨h4,rfl⟩,(Ob.ok_cons.2 ⟨h5,(Ob.ok_cons.2 ⟨⟨h6,rfl⟩,(Ob.ok_cons.2 ⟨h7,(Ob.ok_cons.2 ⟨⟨h8,rfl⟩,(Ob.ok_cons.2 ⟨h9,Ob.ok_nil⟩)⟩)⟩)⟩)⟩)⟩)⟩)⟩)⟩) hn (conz g1 (conz g4 (one g5)))).mono fun ex T' st' ⟨q1,q2,q3,q4⟩=>by simp only [List.cons.injEq,and_true] at q3;exact ⟨q1,⟨q2,q3⟩,q4⟩
theorem f30_2_FTFTT_e(a:Nat)(s:ByteArray)(st:St)(k n:Int):((evS Tryz.prog E0 noOv noS 100000 [2020,2025,2034,2039,2048,2053,2058,7014,7021,7026,7035,7040,7049,7054,7055] (f30P 2) ⟨103,[(1,(.ptr a 0)),(4,(str s)),(5,TT)],[]⟩ st [.av FF,.eff (i64 k) id,.av FF,.eff (i64 k) id,.av TT,.eff (i64 n) id,.av TT]).map fun q=>(q.1,q.2.1.n,([q.2.1.get 1,q.2.1.get 4,q.2.1.get 5,q.2.1.get 61]:List AV),q.2.2.1,q.2.2.2.2))=some (.normal,103,[(.ptr a 0),(str s),TT,TT],st,[binA E0 .eql 9 (str s) (str ⟨#[]⟩)=some FF,loadA E0 st 3 (.ptr a 0)=some (i64 k)∧st=st,binA E0 .neq 3 (i64 k) (i64 1)=some FF,loadA E0 st 3 (.ptr a 0)=some (i64 k)∧st=st,binA E0 .neq 3 (i64 k) (i64 5)=some TT,loadA E0 st 3 (.ptr a 3)=some (i64 n)∧st=st,binA E0 .neq 3 (i64 n) (i64 0)=some TT]):=by kernel_rfl
theorem f30_2_FTFTT{a:Nat}{s:ByteArray}{st:St}{k n:Int}(h1:binA E0 .eql 9 (str s) (str ⟨#[]⟩)=some FF)(h2:loadA E0 st 3 (.ptr a 0)=some (i64 k))(h3:binA E0 .neq 3 (i64 k) (i64 1)=some FF)(h4:loadA E0 st 3 (.ptr a 0)=some (i64 k))(h5:binA E0 .neq 3 (i64 k) (i64 5)=some TT)(h6:loadA E0 st 3 (.ptr a 3)=some (i64 n))(h7:binA E0 .neq 3 (i64 n) (i64 0)=some TT){T:Tm}(hT:f30L2 T (.ptr a 0) (str s) TT):AW Tryz.prog (f30P 2) (fun ex T' st'=>ex= .normal∧f30L3 T' (.ptr a 0) (str s) TT TT∧st'=st) T st:=by
  obtain ⟨hn,g1,g4,g5⟩:=hT
  exact (gen_run (G:=fun T=>([T.get 1,T.get 4,T.get 5,T.get 61]:List AV)) hE (f30_2_FTFTT_e a s st k n) (Ob.ok_cons.2 ⟨h1,(Ob.ok_cons.2 ⟨⟨h2,rfl⟩,(Ob.ok_cons.2 ⟨h3,(Ob.ok_cons.2 ⟨⟨h4,rfl⟩,(Ob.ok_cons.2 ⟨h5,(Ob.ok_cons.2 ⟨⟨h6,rfl⟩,(Ob.ok_cons.2 ⟨h7,Ob.ok_nil⟩)⟩)⟩)⟩)⟩)⟩)⟩) hn (conz g1 (conz g4 (one g5)))).mono fun ex T' st' ⟨q1,q2,q3,q4⟩=>by simp only [List.cons.injEq,and_true] at q3;exact ⟨q1,⟨q2,q3⟩,q4⟩
theorem f30_2_FTFTFTT_e(a:Nat)(s:ByteArray)(st:St)(k n n54:Int)(v53:AV):((evS Tryz.prog E0 noOv noS 100000 [2020,2025,2034,2039,2048,2053,2058,7014,7021,7026,7035,7040,7049,7054,7055] (f30P 2) ⟨103,[(1,(.ptr a 0)),(4,(str s)),(5,TT)],[]⟩ st [.av FF,.eff (i64 k) id,.av FF,.eff (i64 k) id,.av TT,.eff (i64 n) id,.av FF,.eff (i64 k) id,.av TT,.eff v53 id,.av (i64 n54),.av TT]).map fun q=>(q.1,q.2.1.n,([q.2.1.get 1,q.2.1.get 4,q.2.1.get 5,q.2.1.get 61]:List AV),q.2.2.1,q.2.2.2.2))=some (.normal,103,[(.ptr a 0),(str s),TT,TT],st,[binA E0 .eql 9 (str s) (str ⟨#[]⟩)=some FF,loadA E0 st 3 (.ptr a 0)=some (i64 k)∧st=st,binA E0 .neq 3 (i64 k) (i64 1)=some FF,loadA E0 st 3 (.ptr a 0)=some (i64 k)∧st=st,binA E0 .neq 3 (i64 k) (i64 5)=some TT,loadA E0 st 3 (.ptr a 3)=some (i64 n)∧st=st,binA E0 .neq 3 (i64 n) (i64 0)=some FF,loadA E0 st 3 (.ptr a 0)=some (i64 k)∧st=st,binA E0 .neq 3 (i64 k) (i64 2)=some TT,loadA E0 st 51 (.ptr a 4)=some v53∧st=st,lenA E0 51 v53=some (i64 n54),binA E0 .gtr 3 (i64 n54) (i64 0)=some TT]):=by kernel_rfl
theorem f30_2_FTFTFTT{a:Nat}{s:ByteArray}{st:St}{k n n54:Int}{v53:AV}(h1:binA E0 .eql 9 (str s) (str ⟨#[]⟩)=some FF)(h2:loadA E0 st 3 (.ptr a 0)=some (i64 k))(h3:binA E0 .neq 3 (i64 k) (i64 1)=some FF)(h4:loadA E0 st 3 (.ptr a 0)=some (i64 k))(h5:binA E0 .neq 3 (i64 k) (i64 5)=some TT)(h6:loadA E0 st 3 (.ptr a 3)=some (i64 n))(h7:binA E0 .neq 3 (i64 n) (i64 0)=some FF)(h8:loadA E0 st 3 (.ptr a 0)=some (i64 k))(h9:binA E0 .neq 3 (i64 k) (i64 2)=some TT)(h10:loadA E0 st 51 (.ptr a 4)=some v53)(h11:lenA E0 51 v53=some (i64 n54))(h12:binA E0 .gtr 3 (i64 n54) (i64 0)=some TT){T:Tm}(hT:f30L2 T (.ptr a 0) (str s) TT):AW Tryz.prog (f30P 2) (fun ex T' st'=>ex= .normal∧f30L3 T' (.ptr a 0) (str s) TT TT∧st'=st) T st:=by
  obtain ⟨hn,g1,g4,g5⟩:=hT
  exact (gen_run (G:=fun T=>([T.get 1,T.get 4,T.get 5,T.get 61]:List AV)) hE (f30_2_FTFTFTT_e a s st k n n54 v53) (Ob.ok_cons.2 ⟨h1,(Ob.ok_cons.2 ⟨⟨h2,rfl⟩,(Ob.ok_cons.2 ⟨h3,(Ob.ok_cons.2 ⟨⟨h4,rfl⟩,(Ob.ok_cons.2 ⟨h5,(Ob.ok_cons.2 ⟨⟨h6,rfl⟩,(Ob.ok_cons.2 ⟨h7,(Ob.ok_cons.2 ⟨⟨h8,rfl⟩,(Ob.ok_cons.2 ⟨h9,(Ob.ok_cons.2 ⟨⟨h10,rfl⟩,(Ob.ok_cons.2 ⟨h11,(Ob.ok_cons.2 ⟨h12,Ob.ok_nil⟩)⟩)⟩)⟩)⟩)⟩)⟩)⟩)⟩)⟩)⟩)⟩) hn (conz g1 (conz g4 (one g5)))).mono fun ex T' st' ⟨q1,q2,q3,q4⟩=>by simp only [List.cons.injEq,and_true] at q3;exact ⟨q1,⟨q2,q3⟩,q4⟩
theorem f30_2_FTFTFTF_e(a:Nat)(s:ByteArray)(st:St)(k n n54:Int)(v53:AV)(en:Bool):((evS Tryz.prog E0 noOv noS 100000 [2020,2025,2034,2039,2048,2053,2058,7014,7021,7026,7035,7040,7049,7054,7055] (f30P 2) ⟨103,[(1,(.ptr a 0)),(4,(str s)),(5,TT)],[]⟩ st [.av FF,.eff (i64 k) id,.av FF,.eff (i64 k) id,.av TT,.eff (i64 n) id,.av FF,.eff (i64 k) id,.av TT,.eff v53 id,.av (i64 n54),.av FF,.eff (bo en) id]).map fun q=>(q.1,q.2.1.n,([q.2.1.get 1,q.2.1.get 4,q.2.1.get 5,q.2.1.get 61]:List AV),q.2.2.1,q.2.2.2.2))=some (.normal,103,[(.ptr a 0),(str s),TT,(bo en)],st,[binA E0 .eql 9 (str s) (str ⟨#[]⟩)=some FF,loadA E0 st 3 (.ptr a 0)=some (i64 k)∧st=st,binA E0 .neq 3 (i64 k) (i64 1)=some FF,loadA E0 st 3 (.ptr a 0)=some (i64 k)∧st=st,binA E0 .neq 3 (i64 k) (i64 5)=some TT,loadA E0 st 3 (.ptr a 3)=some (i64 n)∧st=st,binA E0 .neq 3 (i64 n) (i64 0)=some FF,loadA E0 st 3 (.ptr a 0)=some (i64 k)∧st=st,binA E0 .neq 3 (i64 k) (i64 2)=some TT,loadA E0 st 51 (.ptr a 4)=some v53∧st=st,lenA E0 51 v53=some (i64 n54),binA E0 .gtr 3 (i64 n54) (i64 0)=some FF,loadA E0 st 4 (.ptr a 5)=some (bo en)∧st=st]):=by kernel_rfl
theorem f30_2_FTFTFTF{a:Nat}{s:ByteArray}{st:St}{k n n54:Int}{v53:AV}{en:Bool}(h1:binA E0 .eql 9 (str s) (str ⟨#[]⟩)=some FF)(h2:loadA E0 st 3 (.ptr a 0)=some (i64 k))(h3:binA E0 .neq 3 (i64 k) (i64 1)=some FF)(h4:loadA E0 st 3 (.ptr a 0)=some (i64 k))(h5:binA E0 .neq 3 (i64 k) (i64 5)=some TT)(h6:loadA E0 st 3 (.ptr a 3)=some (i64 n))(h7:binA E0 .neq 3 (i64 n) (i64 0)=some FF)(h8:loadA E0 st 3 (.ptr a 0)=some (i64 k))(h9:binA E0 .neq 3 (i64 k) (i64 2)=some TT)(h10:loadA E0 st 51 (.ptr a 4)=some v53)(h11:lenA E0 51 v53=some (i64 n54))(h12:binA E0 .gtr 3 (i64 n54) (i64 0)=some FF)(h13:loadA E0 st 4 (.ptr a 5)=some (bo en)){T:Tm}(hT:f30L2 T (.ptr a 0) (str s) TT):AW Tryz.prog (f30P 2) (fun ex T' st'=>ex= .normal∧f30L3 T' (.ptr a 0) (str s) TT (bo en)∧st'=st) T st:=by
  obtain ⟨hn,g1,g4,g5⟩:=hT
  exact (gen_run (G:=fun T=>([T.get 1,T.get 4,T.get 5,T.get 61]:List AV)) hE (f30_2_FTFTFTF_e a s st k n n54 v53 en) (Ob.ok_cons.2 ⟨h1,(Ob.ok_cons.2 ⟨⟨h2,rfl⟩,(Ob.ok_cons.2 ⟨h3,(Ob.ok_cons.2 ⟨⟨h4,rfl⟩,(Ob.ok_cons.2 ⟨h5,(Ob.ok_cons.2 ⟨⟨h6,rfl⟩,(Ob.ok_cons.2 ⟨h7,(Ob.ok_cons.2 ⟨⟨h8,rfl⟩,(Ob.ok_cons.2 ⟨h9,(Ob.ok_cons.2 ⟨⟨h10,rfl⟩,(Ob.ok_cons.2 ⟨h11,(Ob.ok_cons.2 ⟨h12,(Ob.ok_cons.2 ⟨⟨h13,rfl⟩,Ob.ok_nil⟩)⟩)⟩)⟩)⟩)⟩)⟩)⟩)⟩)⟩)⟩)⟩)⟩) hn (conz g1 (conz g4 (one g5)))).mono fun ex T' st' ⟨q1,q2,q3,q4⟩=>by simp only [List.cons.injEq,and_true] at q3;exact ⟨q1,⟨q2,q3⟩,q4⟩
theorem f30_2_FTFTFF_e(a:Nat)(s:ByteArray)(st:St)(k n:Int):((evS Tryz.prog E0 noOv noS 100000 [2020,2025,2034,2039,2048,2053,2058,7014,7021,7026,7035,7040,7049,7054,7055] (f30P 2) ⟨103,[(1,(.ptr a 0)),(4,(str s)),(5,TT)],[]⟩ st [.av FF,.eff (i64 k) id,.av FF,.eff (i64 k) id,.av TT,.eff (i64 n) id,.av FF,.eff (i64 k) id,.av FF]).map fun q=>(q.1,q.2.1.n,([q.2.1.get 1,q.2.1.get 4,q.2.1.get 5,q.2.1.get 61]:List AV),q.2.2.1,q.2.2.2.2))=some (.normal,103,[(.ptr a 0),(str s),TT,FF],st,[binA E0 .eql 9 (str s) (str ⟨#[]⟩)=some FF,loadA E0 st 3 (.ptr a 0)=some (i64 k)∧st=st,binA E0 .neq 3 (i64 k) (i64 1)=some FF,loadA E0 st 3 (.ptr a 0)=some (i64 k)∧st=st,binA E0 .neq 3 (i64 k) (i64 5)=some TT,loadA E0 st 3 (.ptr a 3)=some (i64 n)∧st=st,binA E0 .neq 3 (i64 n) (i64 0)=some FF,loadA E0 st 3 (.ptr a 0)=some (i64 k)∧st=st,binA E0 .neq 3 (i64 k) (i64 2)=some FF]):=by kernel_rfl
theorem f30_2_FTFTFF{a:Nat}{s:ByteArray}{st:St}{k n:Int}(h1:binA E0 .eql 9 (str s) (str ⟨#[]⟩)=some FF)(h2:loadA E0 st 3 (.ptr a 0)=some (i64 k))(h3:binA E0 .neq 3 (i64 k) (i64 1)=some FF)(h4:loadA E0 st 3 (.ptr a 0)=some (i64 k))(h5:binA E0 .neq 3 (i64 k) (i64 5)=some TT)(h6:loadA E0 st 3 (.ptr a 3)=some (i64 n))(h7:binA E0 .neq 3 (i64 n) (i64 0)=some FF)(h8:loadA E0 st 3 (.ptr a 0)=some (i64 k))(h9:binA E0 .neq 3 (i64 k) (i64 2)=some FF){T:Tm}(hT:f30L2 T (.ptr a 0) (str s) TT):AW Tryz.prog (f30P 2) (fun ex T' st'=>ex= .normal∧f30L3 T' (.ptr a 0) (str s) TT FF∧st'=st) T st:=by
  obtain ⟨hn,g1,g4,g5⟩:=hT
  exact (gen_run (G:=fun T=>([T.get 1,T.get 4,T.get 5,T.get 61]:List AV)) hE (f30_2_FTFTFF_e a s st k n) (Ob.ok_cons.2 ⟨h1,(Ob.ok_cons.2 ⟨⟨h2,rfl⟩,(Ob.ok_cons.2 ⟨h3,(Ob.ok_cons.2 ⟨⟨h4,rfl⟩,(Ob.ok_cons.2 ⟨h5,(Ob.ok_cons.2 ⟨⟨h6,rfl⟩,(Ob.ok_cons.2 ⟨h7,(Ob.ok_cons.2 ⟨⟨h8,rfl⟩,(Ob.ok_cons.2 ⟨h9,Ob.ok_nil⟩)⟩)⟩)⟩)⟩)⟩)⟩)⟩)⟩) hn (conz g1 (conz g4 (one g5)))).mono fun ex T' st' ⟨q1,q2,q3,q4⟩=>by simp only [List.cons.injEq,and_true] at q3;exact ⟨q1,⟨q2,q3⟩,q4⟩
theorem f30_2_FTFFTT_e(a:Nat)(s:ByteArray)(st:St)(k n54:Int)(v53:AV):((evS Tryz.prog E0 noOv noS 100000 [2020,2025,2034,2039,2048,2053,2058,7014,7021,7026,7035,7040,7049,7054,7055] (f30P 2) ⟨103,[(1,(.ptr a 0)),(4,(str s)),(5,TT)],[]⟩ st [.av FF,.eff (i64 k) id,.av FF,.eff (i64 k) id,.av FF,.eff (i64 k) id,.av TT,.eff v53 id,.av (i64 n54),.av TT]).map fun q=>(q.1,q.2.1.n,([q.2.1.get 1,q.2.1.get 4,q.2.1.get 5,q.2.1.get 61]:List AV),q.2.2.1,q.2.2.2.2))=some (.normal,103,[(.ptr a 0),(str s),TT,TT],st,[binA E0 .eql 9 (str s) (str ⟨#[]⟩)=some FF,loadA E0 st 3 (.ptr a 0)=some (i64 k)∧st=st,binA E0 .neq 3 (i64 k) (i64 1)=some FF,loadA E0 st 3 (.ptr a 0)=some (i64 k)∧st=st,binA E0 .neq 3 (i64 k) (i64 5)=some FF,loadA E0 st 3 (.ptr a 0)=some (i64 k)∧st=st,binA E0 .neq 3 (i64 k) (i64 2)=some TT,loadA E0 st 51 (.ptr a 4)=some v53∧st=st,lenA E0 51 v53=some (i64 n54),binA E0 .gtr 3 (i64 n54) (i64 0)=some TT]):=by kernel_rfl
theorem f30_2_FTFFTT{a:Nat}{s:ByteArray}{st:St}{k n54:Int}{v53:AV}(h1:binA E0 .eql 9 (str s) (str ⟨#[]⟩)=some FF)(h2:loadA E0 st 3 (.ptr a 0)=some (i64 k))(h3:binA E0 .neq 3 (i64 k) (i64 1)=some FF)(h4:loadA E0 st 3 (.ptr a 0)=some (i64 k))(h5:binA E0 .neq 3 (i64 k) (i64 5)=some FF)(h6:loadA E0 st 3 (.ptr a 0)=some (i64 k))(h7:binA E0 .neq 3 (i64 k) (i64 2)=some TT)(h8:loadA E0 st 51 (.ptr a 4)=some v53)(h9:lenA E0 51 v53=some (i64 n54))(h10:binA E0 .gtr 3 (i64 n54) (i64 0)=some TT){T:Tm}(hT:f30L2 T (.ptr a 0) (str s) TT):AW Tryz.prog (f30P 2) (fun ex T' st'=>ex= .normal∧f30L3 T' (.ptr a 0) (str s) TT TT∧st'=st) T st:=by
  obtain ⟨hn,g1,g4,g5⟩:=hT
  exact (gen_run (G:=fun T=>([T.get 1,T.get 4,T.get 5,T.get 61]:List AV)) hE (f30_2_FTFFTT_e a s st k n54 v53) (Ob.ok_cons.2 ⟨h1,(Ob.ok_cons.2 ⟨⟨h2,rfl⟩,(Ob.ok_cons.2 ⟨h3,(Ob.ok_cons.2 ⟨⟨h4,rfl⟩,(Ob.ok_cons.2 ⟨h5,(Ob.ok_cons.2 ⟨⟨h6,rfl⟩,(Ob.ok_cons.2 ⟨h7,(Ob.ok_cons.2 ⟨⟨h8,rfl⟩,(Ob.ok_cons.2 ⟨h9,(Ob.ok_cons.2 ⟨h10,Ob.ok_nil⟩)⟩)⟩)⟩)⟩)⟩)⟩)⟩)⟩)⟩) hn (conz g1 (conz g4 (one g5)))).mono fun ex T' st' ⟨q1,q2,q3,q4⟩=>by simp only [List.cons.injEq,and_true] at q3;exact ⟨q1,⟨q2,q3⟩,q4⟩
theorem f30_2_FTFFTF_e(a:Nat)(s:ByteArray)(st:St)(k n54:Int)(v53:AV)(en:Bool):((evS Tryz.prog E0 noOv noS 100000 [2020,2025,2034,2039,2048,2053,2058,7014,7021,7026,7035,7040,7049,7054,7055] (f30P 2) ⟨103,[(1,(.ptr a 0)),(4,(str s)),(5,TT)],[]⟩ st [.av FF,.eff (i64 k) id,.av FF,.eff (i64 k) id,.av FF,.eff (i64 k) id,.av TT,.eff v53 id,.av (i64 n54),.av FF,.eff (bo en) id]).map fun q=>(q.1,q.2.1.n,([q.2.1.get 1,q.2.1.get 4,q.2.1.get 5,q.2.1.get 61]:List AV),q.2.2.1,q.2.2.2.2))=some (.normal,103,[(.ptr a 0),(str s),TT,(bo en)],st,[binA E0 .eql 9 (str s) (str ⟨#[]⟩)=some FF,loadA E0 st 3 (.ptr a 0)=some (i64 k)∧st=st,binA E0 .neq 3 (i64 k) (i64 1)=some FF,loadA E0 st 3 (.ptr a 0)=some (i64 k)∧st=st,binA E0 .neq 3 (i64 k) (i64 5)=some FF,loadA E0 st 3 (.ptr a 0)=some (i64 k)∧st=st,binA E0 .neq 3 (i64 k) (i64 2)=some TT,loadA E0 st 51 (.ptr a 4)=some v53∧st=st,lenA E0 51 v53=some (i64 n54),binA E0 .gtr 3 (i64 n54) (i64 0)=some FF,loadA E0 st 4 (.ptr a 5)=some (bo en)∧st=st]):=by kernel_rfl
theorem f30_2_FTFFTF{a:Nat}{s:ByteArray}{st:St}{k n54:Int}{v53:AV}{en:Bool}(h1:binA E0 .eql 9 (str s) (str ⟨#[]⟩)=some FF)(h2:loadA E0 st 3 (.ptr a 0)=some (i64 k))(h3:binA E0 .neq 3 (i64 k) (i64 1)=some FF)(h4:loadA E0 st 3 (.ptr a 0)=some (i64 k))(h5:binA E0 .neq 3 (i64 k) (i64 5)=some FF)(h6:loadA E0 st 3 (.ptr a 0)=some (i64 k))(h7:binA E0 .neq 3 (i64 k) (i64 2)=some TT)(h8:loadA E0 st 51 (.ptr a 4)=some v53)(h9:lenA E0 51 v53=some (i64 n54))(h10:binA E0 .gtr 3 (i64 n54) (i64 0)=some FF)(h11:loadA E0 st 4 (.ptr a 5)=some (bo en)){T:Tm}(hT:f30L2 T (.ptr a 0) (str s) TT):AW Tryz.prog (f30P 2) (fun ex T' st'=>ex= .normal∧f30L3 T' (.ptr a 0) (str s) TT (bo en)∧st'=st) T st:=by
  obtain ⟨hn,g1,g4,g5⟩:=hT
  exact (gen_run (G:=fun T=>([T.get 1,T.get 4,T.get 5,T.get 61]:List AV)) hE (f30_2_FTFFTF_e a s st k n54 v53 en) (Ob.ok_cons.2 ⟨h1,(Ob.ok_cons.2 ⟨⟨h2,rfl⟩,(Ob.ok_cons.2 ⟨h3,(Ob.ok_cons.2 ⟨⟨h4,rfl⟩,(Ob.ok_cons.2 ⟨h5,(Ob.ok_cons.2 ⟨⟨h6,rfl⟩,(Ob.ok_cons.2 ⟨h7,(Ob.ok_cons.2 ⟨⟨h8,rfl⟩,(Ob.ok_cons.2 ⟨h9,(Ob.ok_cons.2 ⟨h10,(Ob.ok_cons.2 ⟨⟨h11,rfl⟩,Ob.ok_nil⟩)⟩)⟩)⟩)⟩)⟩)⟩)⟩)⟩)⟩)⟩) hn (conz g1 (conz g4 (one g5)))).mono fun ex T' st' ⟨q1,q2,q3,q4⟩=>by simp only [List.cons.injEq,and_true] at q3;exact ⟨q1,⟨q2,q3⟩,q4⟩
theorem f30_2_FTFFF_e(a:Nat)(s:ByteArray)(st:St)(k:Int):((evS Tryz.prog E0 noOv noS 100000 [2020,2025,2034,2039,2048,2053,2058,7014,7021,7026,7035,7040,7049,7054,7055] (f30P 2) ⟨103,[(1,(.ptr a 0)),(4,(str s)),(5,TT)],[]⟩ st [.av FF,.eff (i64 k) id,.av FF,.eff (i64 k) id,.av FF,.eff (i64 k) id,.av FF]).map fun q=>(q.1,q.2.1.n,([q.2.1.get 1,q.2.1.get 4,q.2.1.get 5,q.2.1.get 61]:List AV),q.2.2.1,q.2.2.2.2))=some (.normal,103,[(.ptr a 0),(str s),TT,FF],st,[binA E0 .eql 9 (str s) (str ⟨#[]⟩)=some FF,loadA E0 st 3 (.ptr a 0)=some (i64 k)∧st=st,binA E0 .neq 3 (i64 k) (i64 1)=some FF,loadA E0 st 3 (.ptr a 0)=some (i64 k)∧st=st,binA E0 .neq 3 (i64 k) (i64 5)=some FF,loadA E0 st 3 (.ptr a 0)=some (i64 k)∧st=st,binA E0 .neq 3 (i64 k) (i64 2)=some FF]):=by kernel_rfl
theorem f30_2_FTFFF{a:Nat}{s:ByteArray}{st:St}{k:Int}(h1:binA E0 .eql 9 (str s) (str ⟨#[]⟩)=some FF)(h2:loadA E0 st 3 (.ptr a 0)=some (i64 k))(h3:binA E0 .neq 3 (i64 k) (i64 1)=some FF)(h4:loadA E0 st 3 (.ptr a 0)=some (i64 k))(h5:binA E0 .neq 3 (i64 k) (i64 5)=some FF)(h6:loadA E0 st 3 (.ptr a 0)=some (i64 k))(h7:binA E0 .neq 3 (i64 k) (i64 2)=some FF){T:Tm}(hT:f30L2 T (.ptr a 0) (str s) TT):AW Tryz.prog (f30P 2) (fun ex T' st'=>ex= .normal∧f30L3 T' (.ptr a 0) (str s) TT FF∧st'=st) T st:=by
  obtain ⟨hn,g1,g4,g5⟩:=hT
  exact (gen_run (G:=fun T=>([T.get 1,T.get 4,T.get 5,T.get 61]:List AV)) hE (f30_2_FTFFF_e a s st k) (Ob.ok_cons.2 ⟨h1,(Ob.ok_cons.2 ⟨⟨h2,rfl⟩,(Ob.ok_cons.2 ⟨h3,(Ob.ok_cons.2 ⟨⟨h4,rfl⟩,(Ob.ok_cons.2 ⟨h5,(Ob.ok_cons.2 ⟨⟨h6,rfl⟩,(Ob.ok_cons.2 ⟨h7,Ob.ok_nil⟩)⟩)⟩)⟩)⟩)⟩)⟩) hn (conz g1 (conz g4 (one g5)))).mono fun ex T' st' ⟨q1,q2,q3,q4⟩=>by simp only [List.cons.injEq,and_true] at q3;exact ⟨q1,⟨q2,q3⟩,q4⟩
theorem f30_2_FFT_e(a:Nat)(s:ByteArray)(st:St)(c:Int):((evS Tryz.prog E0 noOv noS 100000 [2020,2025,2034,2039,2048,2053,2058,7014,7021,7026,7035,7040,7049,7054,7055] (f30P 2) ⟨103,[(1,(.ptr a 0)),(4,(str s)),(5,FF)],[]⟩ st [.av FF,.eff (i64 c) id,.av TT]).map fun q=>(q.1,q.2.1.n,([q.2.1.get 1,q.2.1.get 4,q.2.1.get 5,q.2.1.get 61]:List AV),q.2.2.1,q.2.2.2.2))=some (.normal,103,[(.ptr a 0),(str s),FF,TT],st,[binA E0 .eql 9 (str s) (str ⟨#[]⟩)=some FF,loadA E0 st 3 (.ptr a 2)=some (i64 c)∧st=st,binA E0 .neq 3 (i64 c) (i64 0)=some TT]):=by kernel_rfl
theorem f30_2_FFT{a:Nat}{s:ByteArray}{st:St}{c:Int}(h1:binA E0 .eql 9 (str s) (str ⟨#[]⟩)=some FF)(h2:loadA E0 st 3 (.ptr a 2)=some (i64 c))(h3:binA E0 .neq 3 (i64 c) (i64 0)=some TT){T:Tm}(hT:f30L2 T (.ptr a 0) (str s) FF):AW Tryz.prog (f30P 2) (fun ex T' st'=>ex= .normal∧f30L3 T' (.ptr a 0) (str s) FF TT∧st'=st) T st:=by
  obtain ⟨hn,g1,g4,g5⟩:=hT
  exact (gen_run (G:=fun T=>([T.get 1,T.get 4,T.get 5,T.get 61]:List AV)) hE (f30_2_FFT_e a s st c) (Ob.ok_cons.2 ⟨h1,(Ob.ok_cons.2 ⟨⟨h2,rfl⟩,(Ob.ok_cons.2 ⟨h3,Ob.ok_nil⟩)⟩)⟩) hn (conz g1 (conz g4 (one g5)))).mono fun ex T' st' ⟨q1,q2,q3,q4⟩=>by simp only [List.cons.injEq,and_true] at q3;exact ⟨q1,⟨q2,q3⟩,q4⟩
theorem f30_2_FFFT_e(a:Nat)(s:ByteArray)(st:St)(c n:Int):((evS Tryz.prog E0 noOv noS 100000 [2020,2025,2034,2039,2048,2053,2058,7014,7021,7026,7035,7040,7049,7054,7055] (f30P 2) ⟨103,[(1,(.ptr a 0)),(4,(str s)),(5,FF)],[]⟩ st [.av FF,.eff (i64 c) id,.av FF,.eff (i64 n) id,.av TT]).map fun q=>(q.1,q.2.1.n,([q.2.1.get 1,q.2.1.get 4,q.2.1.get 5,q.2.1.get 61]:List AV),q.2.2.1,q.2.2.2.2))=some (.normal,103,[(.ptr a 0),(str s),FF,TT],st,[binA E0 .eql 9 (str s) (str ⟨#[]⟩)=some FF,loadA E0 st 3 (.ptr a 2)=some (i64 c)∧st=st,binA E0 .neq 3 (i64 c) (i64 0)=some FF,loadA E0 st 3 (.ptr a 3)=some (i64 n)∧st=st,binA E0 .neq 3 (i64 n) (i64 0)=some TT]):=by kernel_rfl
theorem f30_2_FFFT{a:Nat}{s:ByteArray}{st:St}{c n:Int}(h1:binA E0 .eql 9 (str s) (str ⟨#[]⟩)=some FF)(h2:loadA E0 st 3 (.ptr a 2)=some (i64 c))(h3:binA E0 .neq 3 (i64 c) (i64 0)=some FF)(h4:loadA E0 st 3 (.ptr a 3)=some (i64 n))(h5:binA E0 .neq 3 (i64 n) (i64 0)=some TT){T:Tm}(hT:f30L2 T (.ptr a 0) (str s) FF):AW Tryz.prog (f30P 2) (fun ex T' st'=>ex= .normal∧f30L3 T' (.ptr a 0) (str s) FF TT∧st'=st) T st:=by
  obtain ⟨hn,g1,g4,g5⟩:=hT
  exact (gen_run (G:=fun T=>([T.get 1,T.get 4,T.get 5,T.get 61]:List AV)) hE (f30_2_FFFT_e a s st c n) (Ob.ok_cons.2 ⟨h1,(Ob.ok_cons.2 ⟨⟨h2,rfl⟩,(Ob.ok_cons.2 ⟨h3,(Ob.ok_cons.2 ⟨⟨h4,rfl⟩,(Ob.ok_cons.2 ⟨h5,Ob.ok_nil⟩)⟩)⟩)⟩)⟩) hn (conz g1 (conz g4 (one g5)))).mono fun ex T' st' ⟨q1,q2,q3,q4⟩=>by simp only [List.cons.injEq,and_true] at q3;exact ⟨q1,⟨q2,q3⟩,q4⟩
theorem f30_2_FFFFT_e(a:Nat)(s:ByteArray)(st:St)(c n n54:Int)(v53:AV):((evS Tryz.prog E0 noOv noS 100000 [2020,2025,2034,2039,2048,2053,2058,7014,7021,7026,7035,7040,7049,7054,7055] (f30P 2) ⟨103,[(1,(.ptr a 0)),(4,(str s)),(5,FF)],[]⟩ st [.av FF,.eff (i64 c) id,.av FF,.eff (i64 n) id,.av FF,.eff v53 id,.av (i64 n54),.av TT]).map fun q=>(q.1,q.2.1.n,([q.2.1.get 1,q.2.1.get 4,q.2.1.get 5,q.2.1.get 61]:List AV),q.2.2.1,q.2.2.2.2))=some (.normal,103,[(.ptr a 0),(str s),FF,TT],st,[binA E0 .eql 9 (str s) (str ⟨#[]⟩)=some FF,loadA E0 st 3 (.ptr a 2)=some (i64 c)∧st=st,binA E0 .neq 3 (i64 c) (i64 0)=some FF,loadA E0 st 3 (.ptr a 3)=some (i64 n)∧st=st,binA E0 .neq 3 (i64 n) (i64 0)=some FF,loadA E0 st 51 (.ptr a 4)=some v53∧st=st,lenA E0 51 v53=some (i64 n54),binA E0 .gtr 3 (i64 n54) (i64 0)=some TT]):=by kernel_rfl
theorem f30_2_FFFFT{a:Nat}{s:ByteArray}{st:St}{c n n54:Int}{v53:AV}(h1:binA E0 .eql 9 (str s) (str ⟨#[]⟩)=some FF)(h2:loadA E0 st 3 (.ptr a 2)=some (i64 c))(h3:binA E0 .neq 3 (i64 c) (i64 0)=some FF)(h4:loadA E0 st 3 (.ptr a 3)=some (i64 n))(h5:binA E0 .neq 3 (i64 n) (i64 0)=some FF)(h6:loadA E0 st 51 (.ptr a 4)=some v53)(h7:lenA E0 51 v53=some (i64 n54))(h8:binA E0 .gtr 3 (i64 n54) (i64 0)=some TT){T:Tm}(hT:f30L2 T (.ptr a 0) (str s) FF):AW Tryz.prog (f30P 2) (fun ex T' st'=>ex= .normal∧f30L3 T' (.ptr a 0) (str s) FF TT∧st'=st) T st:=by
  obtain ⟨hn,g1,g4,g5⟩:=hT
  exact (gen_run (G:=fun T=>([T.get 1,T.get 4,T.get 5,T.get 61]:List AV)) hE (f30_2_FFFFT_e a s st c n n54 v53) (Ob.ok_cons.2 ⟨h1,(Ob.ok_cons.2 ⟨⟨h2,rfl⟩,(Ob.ok_cons.2 ⟨h3,(Ob.ok_cons.2 ⟨⟨h4,rfl⟩,(Ob.ok_cons.2 ⟨h5,(Ob.ok_cons.2 ⟨⟨h6,rfl⟩,(Ob.ok_cons.2 ⟨h7,(Ob.ok_cons.2 ⟨h8,Ob.ok_nil⟩)⟩)⟩)⟩)⟩)⟩)⟩)⟩) hn (conz g1 (conz g4 (one g5)))).mono fun ex T' st' ⟨q1,q2,q3,q4⟩=>by simp only [List.cons.injEq,and_true] at q3;exact ⟨q1,⟨q2,q3⟩,q4⟩
theorem f30_2_FFFFF_e(a:Nat)(s:ByteArray)(st:St)(c n n54:Int)(v53:AV)(en:Bool):((evS Tryz.prog E0 noOv noS 100000 [2020,2025,2034,2039,2048,2053,2058,7014,7021,7026,7035,7040,7049,7054,7055] (f30P 2) ⟨103,[(1,(.ptr a 0)),(4,(str s)),(5,FF)],[]⟩ st [.av FF,.eff (i64 c) id,.av FF,.eff (i64 n) id,.av FF,.eff v53 id,.av (i64 n54),.av FF,.eff (bo en) id]).map fun q=>(q.1,q.2.1.n,([q.2.1.get 1,q.2.1.get 4,q.2.1.get 5,q.2.1.get 61]:List AV),q.2.2.1,q.2.2.2.2))=some (.normal,103,[(.ptr a 0),(str s),FF,(bo en)],st,[binA E0 .eql 9 (str s) (str ⟨#[]⟩)=some FF,loadA E0 st 3 (.ptr a 2)=some (i64 c)∧st=st,binA E0 .neq 3 (i64 c) (i64 0)=some FF,loadA E0 st 3 (.ptr a 3)=some (i64 n)∧st=st,binA E0 .neq 3 (i64 n) (i64 0)=some FF,loadA E0 st 51 (.ptr a 4)=some v53∧st=st,lenA E0 51 v53=some (i64 n54),binA E0 .gtr 3 (i64 n54) (i64 0)=some FF,loadA E0 st 4 (.ptr a 5)=some (bo en)∧st=st]):=by kernel_rfl
theorem f30_2_FFFFF{a:Nat}{s:ByteArray}{st:St}{c n n54:Int}{v53:AV}{en:Bool}(h1:binA E0 .eql 9 (str s) (str ⟨#[]⟩)=some FF)(h2:loadA E0 st 3 (.ptr a 2)=some (i64 c))(h3:binA E0 .neq 3 (i64 c) (i64 0)=some FF)(h4:loadA E0 st 3 (.ptr a 3)=some (i64 n))(h5:binA E0 .neq 3 (i64 n) (i64 0)=some FF)(h6:loadA E0 st 51 (.ptr a 4)=some v53)(h7:lenA E0 51 v53=some (i64 n54))(h8:binA E0 .gtr 3 (i64 n54) (i64 0)=some FF)(h9:loadA E0 st 4 (.ptr a 5)=some (bo en)){T:Tm}(hT:f30L2 T (.ptr a 0) (str s) FF):AW Tryz.prog (f30P 2) (fun ex T' st'=>ex= .normal∧f30L3 T' (.ptr a 0) (str s) FF (bo en)∧st'=st) T st:=by
  obtain ⟨hn,g1,g4,g5⟩:=hT
  exact (gen_run (G:=fun T=>([T.get 1,T.get 4,T.get 5,T.get 61]:List AV)) hE (f30_2_FFFFF_e a s st c n n54 v53 en) (Ob.ok_cons.2 ⟨h1,(Ob.ok_cons.2 ⟨⟨h2,rfl⟩,(Ob.ok_cons.2 ⟨h3,(Ob.ok_cons.2 ⟨⟨h4,rfl⟩,(Ob.ok_cons.2 ⟨h5,(Ob.ok_cons.2 ⟨⟨h6,rfl⟩,(Ob.ok_cons.2 ⟨h7,(Ob.ok_cons.2 ⟨h8,(Ob.ok_cons.2 ⟨⟨h9,rfl⟩,Ob.ok_nil⟩)⟩)⟩)⟩)⟩)⟩)⟩)⟩)⟩) hn (conz g1 (conz g4 (one g5)))).mono fun ex T' st' ⟨q1,q2,q3,q4⟩=>by simp only [List.cons.injEq,and_true] at q3;exact ⟨q1,⟨q2,q3⟩,q4⟩
def f30L4(T:Tm):Prop:=T.n=103
def f30L5(T:Tm)(a2 a3:AV):Prop:=T.n=103∧T.get 2=a2∧T.get 3=a3
theorem f30_3_e(st:St):((evS Tryz.prog E0 noOv noS 100000 [] (f30P 3) ⟨103,[],[]⟩ st []).map fun q=>(q.1,q.2.1.n,([q.2.1.get 2,q.2.1.get 3]:List AV),q.2.2.1,q.2.2.2.2))=some (.normal,103,[(str ⟨#[]⟩),FF],st,[]):=by kernel_rfl
theorem f30_3{st:St}{T:Tm}(hT:f30L4 T):AW Tryz.prog (f30P 3) (fun ex T' st'=>ex= .normal∧f30L5 T' (str ⟨#[]⟩) FF∧st'=st) T st:=by
  have hn:T.n=103:=hT
  exact (gen_run (G:=fun T=>([T.get 2,T.get 3]:List AV)) hE (f30_3_e st) Ob.ok_nil hn (fun q hq=>by cases hq)).mono fun ex T' st' ⟨q1,q2,q3,q4⟩=>by simp only [List.cons.injEq,and_true] at q3;exact ⟨q1,⟨q2,q3⟩,q4⟩
def f30L6(T:Tm)(a1 a4 a63:AV):Prop:=T.n=103∧T.get 1=a1∧T.get 4=a4∧T.get 63=a63
theorem f30_6_T_e(a:Nat)(s:ByteArray)(st:St):((evS Tryz.prog E0 noOv noS 100000 [] (f30P 6) ⟨103,[(1,(.ptr a 0)),(4,(str s)),(5,TT)],[]⟩ st []).map fun q=>(q.1,q.2.1.n,([q.2.1.get 1,q.2.1.get 4,q.2.1.get 63]:List AV),q.2.2.1,q.2.2.2.2))=some (.normal,103,[(.ptr a 0),(str s),FF],st,[]):=by kernel_rfl
theorem f30_6_T{a:Nat}{s:ByteArray}{st:St}{T:Tm}(hT:f30L2 T (.ptr a 0) (str s) TT):AW Tryz.prog (f30P 6) (fun ex T' st'=>ex= .normal∧f30L6 T' (.ptr a 0) (str s) FF∧st'=st) T st:=by
  obtain ⟨hn,g1,g4,g5⟩:=hT
  exact (gen_run (G:=fun T=>([T.get 1,T.get 4,T.get 63]:List AV)) hE (f30_6_T_e a s st) Ob.ok_nil hn (conz g1 (conz g4 (one g5)))).mono fun ex T' st' ⟨q1,q2,q3,q4⟩=>by simp only [List.cons.injEq,and_true] at q3;exact ⟨q1,⟨q2,q3⟩,q4⟩
theorem f30_6_F_e(a:Nat)(s:ByteArray)(st:St):((evS Tryz.prog E0 noOv noS 100000 [] (f30P 6) ⟨103,[(1,(.ptr a 0)),(4,(str s)),(5,FF)],[]⟩ st []).map fun q=>(q.1,q.2.1.n,([q.2.1.get 1,q.2.1.get 4,q.2.1.get 63]:List AV),q.2.2.1,q.2.2.2.2))=some (.normal,103,[(.ptr a 0),(str s),TT],st,[]):=by kernel_rfl
theorem f30_6_F{a:Nat}{s:ByteArray}{st:St}{T:Tm}(hT:f30L2 T (.ptr a 0) (str s) FF):AW Tryz.prog (f30P 6) (fun ex T' st'=>ex= .normal∧f30L6 T' (.ptr a 0) (str s) TT∧st'=st) T st:=by
  obtain ⟨hn,g1,g4,g5⟩:=hT
  exact (gen_run (G:=fun T=>([T.get 1,T.get 4,T.get 63]:List AV)) hE (f30_6_F_e a s st) Ob.ok_nil hn (conz g1 (conz g4 (one g5)))).mono fun ex T' st' ⟨q1,q2,q3,q4⟩=>by simp only [List.cons.injEq,and_true] at q3;exact ⟨q1,⟨q2,q3⟩,q4⟩
def f30L7(T:Tm)(a1 a4:AV):Prop:=T.n=103∧T.get 1=a1∧T.get 4=a4
theorem f30_7_e(a:Nat)(s w67 w69:ByteArray)(st s1 s2 s3:St)(e:Int)(v68:AV):((evS Tryz.prog E0 noOv noS 100000 [2066,2068,6039,6040] (f30P 7) ⟨103,[(1,(.ptr a 0)),(4,(str s))],[]⟩ st [.eff (i64 e) id,.eff (str w67) (fun _=>s1),.eff v68 (fun _=>s2),.eff (str w69) (fun _=>s3)]).map fun q=>(q.1,q.2.1.n,([q.2.1.get 2,q.2.1.get 3]:List AV),q.2.2.1,q.2.2.2.2))=some (.normal,103,[(str w69),TT],s3,[loadA E0 st 23 (.ptr a 1)=some (i64 e)∧st=st,obC 40 [(i64 e)] st (str w67) s1,buildSliceA E0 s1 61 3 [(0,(str s)),(1,(str ⟨#[101,114,114,111,114]⟩)),(2,(str w67))]=some (v68,s2),obC 39 [v68] s2 (str w69) s3]):=by kernel_rfl
theorem f30_7{a:Nat}{s w67 w69:ByteArray}{st s1 s2 s3:St}{e:Int}{v68:AV}(h1:loadA E0 st 23 (.ptr a 1)=some (i64 e))(h2:obC 40 [(i64 e)] st (str w67) s1)(h3:buildSliceA E0 s1 61 3 [(0,(str s)),(1,(str ⟨#[101,114,114,111,114]⟩)),(2,(str w67))]=some (v68,s2))(h4:obC 39 [v68] s2 (str w69) s3){T:Tm}(hT:f30L7 T (.ptr a 0) (str s)):AW Tryz.prog (f30P 7) (fun ex T' st'=>ex= .normal∧f30L5 T' (str w69) TT∧st'=s3) T st:=by
  obtain ⟨hn,g1,g4⟩:=hT
  exact (gen_run (G:=fun T=>([T.get 2,T.get 3]:List AV)) hE (f30_7_e a s w67 w69 st s1 s2 s3 e v68) (Ob.ok_cons.2 ⟨⟨h1,rfl⟩,(Ob.ok_cons.2 ⟨h2,(Ob.ok_cons.2 ⟨h3,(Ob.ok_cons.2 ⟨h4,Ob.ok_nil⟩)⟩)⟩)⟩) hn (conz g1 (one g4))).mono fun ex T' st' ⟨q1,q2,q3,q4⟩=>by simp only [List.cons.injEq,and_true] at q3;exact ⟨q1,⟨q2,q3⟩,q4⟩
theorem f30_10_e(a:Nat)(s w72:ByteArray)(st s1 s2:St)(v71:AV):((evS Tryz.prog E0 noOv noS 100000 [2071,6039] (f30P 10) ⟨103,[(1,(.ptr a 0)),(4,(str s))],[]⟩ st [.eff v71 (fun _=>s1),.eff (str w72) (fun _=>s2)]).map fun q=>(q.1,q.2.1.n,([q.2.1.get 1,q.2.1.get 4]:List AV),q.2.2.1,q.2.2.2.2))=some (.normal,103,[(.ptr a 0),(str w72)],s2,[buildSliceA E0 st 61 2 [(0,(str s)),(1,(str ⟨#[111,107]⟩))]=some (v71,s1),obC 39 [v71] s1 (str w72) s2]):=by kernel_rfl
theorem f30_10{a:Nat}{s w72:ByteArray}{st s1 s2:St}{v71:AV}(h1:buildSliceA E0 st 61 2 [(0,(str s)),(1,(str ⟨#[111,107]⟩))]=some (v71,s1))(h2:obC 39 [v71] s1 (str w72) s2){T:Tm}(hT:f30L7 T (.ptr a 0) (str s)):AW Tryz.prog (f30P 10) (fun ex T' st'=>ex= .normal∧f30L7 T' (.ptr a 0) (str w72)∧st'=s2) T st:=by
  obtain ⟨hn,g1,g4⟩:=hT
  exact (gen_run (G:=fun T=>([T.get 1,T.get 4]:List AV)) hE (f30_10_e a s w72 st s1 s2 v71) (Ob.ok_cons.2 ⟨h1,(Ob.ok_cons.2 ⟨h2,Ob.ok_nil⟩)⟩) hn (conz g1 (one g4))).mono fun ex T' st' ⟨q1,q2,q3,q4⟩=>by simp only [List.cons.injEq,and_true] at q3;exact ⟨q1,⟨q2,q3⟩,q4⟩
def f30L8(T:Tm)(a1 a4 a74:AV):Prop:=T.n=103∧T.get 1=a1∧T.get 4=a4∧T.get 74=a74
theorem f30_11_e(a:Nat)(s:ByteArray)(st:St)(k:Int):((evS Tryz.prog E0 noOv noS 100000 [2074] (f30P 11) ⟨103,[(1,(.ptr a 0)),(4,(str s))],[]⟩ st [.eff (i64 k) id]).map fun q=>(q.1,q.2.1.n,([q.2.1.get 1,q.2.1.get 4,q.2.1.get 74]:List AV),q.2.2.1,q.2.2.2.2))=some (.normal,103,[(.ptr a 0),(str s),(i64 k)],st,[loadA E0 st 3 (.ptr a 0)=some (i64 k)∧st=st]):=by kernel_rfl
theorem f30_11{a:Nat}{s:ByteArray}{st:St}{k:Int}(h1:loadA E0 st 3 (.ptr a 0)=some (i64 k)){T:Tm}(hT:f30L7 T (.ptr a 0) (str s)):AW Tryz.prog (f30P 11) (fun ex T' st'=>ex= .normal∧f30L8 T' (.ptr a 0) (str s) (i64 k)∧st'=st) T st:=by
  obtain ⟨hn,g1,g4⟩:=hT
  exact (gen_run (G:=fun T=>([T.get 1,T.get 4,T.get 74]:List AV)) hE (f30_11_e a s st k) (Ob.ok_cons.2 ⟨⟨h1,rfl⟩,Ob.ok_nil⟩) hn (conz g1 (one g4))).mono fun ex T' st' ⟨q1,q2,q3,q4⟩=>by simp only [List.cons.injEq,and_true] at q3;exact ⟨q1,⟨q2,q3⟩,q4⟩
def f30L9(T:Tm)(a1 a4 a74 a75:AV):Prop:=T.n=103∧T.get 1=a1∧T.get 4=a4∧T.get 74=a74∧T.get 75=a75
theorem f30_12_T_e(a:Nat)(s:ByteArray)(k:Int)(st:St):((evS Tryz.prog E0 noOv noS 100000 [7076] (f30P 12) ⟨103,[(1,(.ptr a 0)),(4,(str s)),(74,(i64 k))],[]⟩ st [.av TT]).map fun q=>(q.1,q.2.1.n,([q.2.1.get 1,q.2.1.get 4,q.2.1.get 74,q.2.1.get 75]:List AV),q.2.2.1,q.2.2.2.2))=some (.normal,103,[(.ptr a 0),(str s),(i64 k),TT],st,[binA E0 .eql 3 (i64 k) (i64 1)=some TT]):=by kernel_rfl
theorem f30_12_T{a:Nat}{s:ByteArray}{k:Int}{st:St}(h1:binA E0 .eql 3 (i64 k) (i64 1)=some TT){T:Tm}(hT:f30L8 T (.ptr a 0) (str s) (i64 k)):AW Tryz.prog (f30P 12) (fun ex T' st'=>ex= .normal∧f30L9 T' (.ptr a 0) (str s) (i64 k) TT∧st'=st) T st:=by
  obtain ⟨hn,g1,g4,g74⟩:=hT
  exact (gen_run (G:=fun T=>([T.get 1,T.get 4,T.get 74,T.get 75]:List AV)) hE (f30_12_T_e a s k st) (Ob.ok_cons.2 ⟨h1,Ob.ok_nil⟩) hn (conz g1 (conz g4 (one g74)))).mono fun ex T' st' ⟨q1,q2,q3,q4⟩=>by simp only [List.cons.injEq,and_true] at q3;exact ⟨q1,⟨q2,q3⟩,q4⟩
theorem f30_12_F_e(a:Nat)(s:ByteArray)(k:Int)(st:St):((evS Tryz.prog E0 noOv noS 100000 [7076] (f30P 12) ⟨103,[(1,(.ptr a 0)),(4,(str s)),(74,(i64 k))],[]⟩ st [.av FF]).map fun q=>(q.1,q.2.1.n,([q.2.1.get 1,q.2.1.get 4,q.2.1.get 74,q.2.1.get 75]:List AV),q.2.2.1,q.2.2.2.2))=some (.normal,103,[(.ptr a 0),(str s),(i64 k),FF],st,[binA E0 .eql 3 (i64 k) (i64 1)=some FF]):=by kernel_rfl
theorem f30_12_F{a:Nat}{s:ByteArray}{k:Int}{st:St}(h1:binA E0 .eql 3 (i64 k) (i64 1)=some FF){T:Tm}(hT:f30L8 T (.ptr a 0) (str s) (i64 k)):AW Tryz.prog (f30P 12) (fun ex T' st'=>ex= .normal∧f30L9 T' (.ptr a 0) (str s) (i64 k) FF∧st'=st) T st:=by
  obtain ⟨hn,g1,g4,g74⟩:=hT
  exact (gen_run (G:=fun T=>([T.get 1,T.get 4,T.get 74,T.get 75]:List AV)) hE (f30_12_F_e a s k st) (Ob.ok_cons.2 ⟨h1,Ob.ok_nil⟩) hn (conz g1 (conz g4 (one g74)))).mono fun ex T' st' ⟨q1,q2,q3,q4⟩=>by simp only [List.cons.injEq,and_true] at q3;exact ⟨q1,⟨q2,q3⟩,q4⟩
def f30L10(T:Tm)(a4:AV):Prop:=T.n=103∧T.get 4=a4
theorem f30_13_e(a:Nat)(s w80 w82:ByteArray)(st s1 s2 s3:St)(c:Int)(v81:AV):((evS Tryz.prog E0 noOv noS 100000 [2079,2081,6039,6040] (f30P 13) ⟨103,[(1,(.ptr a 0)),(4,(str s))],[]⟩ st [.eff (i64 c) id,.eff (str w80) (fun _=>s1),.eff v81 (fun _=>s2),.eff (str w82) (fun _=>s3)]).map fun q=>(q.1,q.2.1.n,([q.2.1.get 4]:List AV),q.2.2.1,q.2.2.2.2))=some (.normal,103,[(str w82)],s3,[loadA E0 st 3 (.ptr a 2)=some (i64 c)∧st=st,obC 40 [(i64 c)] st (str w80) s1,buildSliceA E0 s1 61 2 [(0,(str s)),(1,(str w80))]=some (v81,s2),obC 39 [v81] s2 (str w82) s3]):=by kernel_rfl
theorem f30_13{a:Nat}{s w80 w82:ByteArray}{st s1 s2 s3:St}{c:Int}{v81:AV}(h1:loadA E0 st 3 (.ptr a 2)=some (i64 c))(h2:obC 40 [(i64 c)] st (str w80) s1)(h3:buildSliceA E0 s1 61 2 [(0,(str s)),(1,(str w80))]=some (v81,s2))(h4:obC 39 [v81] s2 (str w82) s3){T:Tm}(hT:f30L7 T (.ptr a 0) (str s)):AW Tryz.prog (f30P 13) (fun ex T' st'=>ex= .normal∧f30L10 T' (str w82)∧st'=s3) T st:=by
  obtain ⟨hn,g1,g4⟩:=hT
  exact (gen_run (G:=fun T=>([T.get 4]:List AV)) hE (f30_13_e a s w80 w82 st s1 s2 s3 c v81) (Ob.ok_cons.2 ⟨⟨h1,rfl⟩,(Ob.ok_cons.2 ⟨h2,(Ob.ok_cons.2 ⟨h3,(Ob.ok_cons.2 ⟨h4,Ob.ok_nil⟩)⟩)⟩)⟩) hn (conz g1 (one g4))).mono fun ex T' st' ⟨q1,q2,q3,q4⟩=>by simp only [List.cons.injEq,and_true] at q3;exact ⟨q1,⟨q2,q3⟩,q4⟩
def f30L11(T:Tm)(a1 a4 a74 a83:AV):Prop:=T.n=103∧T.get 1=a1∧T.get 4=a4∧T.get 74=a74∧T.get 83=a83
theorem f30_14_T_e(a:Nat)(s:ByteArray)(k:Int)(st:St):((evS Tryz.prog E0 noOv noS 100000 [7084] (f30P 14) ⟨103,[(1,(.ptr a 0)),(4,(str s)),(74,(i64 k))],[]⟩ st [.av TT]).map fun q=>(q.1,q.2.1.n,([q.2.1.get 1,q.2.1.get 4,q.2.1.get 74,q.2.1.get 83]:List AV),q.2.2.1,q.2.2.2.2))=some (.normal,103,[(.ptr a 0),(str s),(i64 k),TT],st,[binA E0 .eql 3 (i64 k) (i64 5)=some TT]):=by kernel_rfl
theorem f30_14_T{a:Nat}{s:ByteArray}{k:Int}{st:St}(h1:binA E0 .eql 3 (i64 k) (i64 5)=some TT){T:Tm}(hT:f30L8 T (.ptr a 0) (str s) (i64 k)):AW Tryz.prog (f30P 14) (fun ex T' st'=>ex= .normal∧f30L11 T' (.ptr a 0) (str s) (i64 k) TT∧st'=st) T st:=by
  obtain ⟨hn,g1,g4,g74⟩:=hT
  exact (gen_run (G:=fun T=>([T.get 1,T.get 4,T.get 74,T.get 83]:List AV)) hE (f30_14_T_e a s k st) (Ob.ok_cons.2 ⟨h1,Ob.ok_nil⟩) hn (conz g1 (conz g4 (one g74)))).mono fun ex T' st' ⟨q1,q2,q3,q4⟩=>by simp only [List.cons.injEq,and_true] at q3;exact ⟨q1,⟨q2,q3⟩,q4⟩
theorem f30_14_F_e(a:Nat)(s:ByteArray)(k:Int)(st:St):((evS Tryz.prog E0 noOv noS 100000 [7084] (f30P 14) ⟨103,[(1,(.ptr a 0)),(4,(str s)),(74,(i64 k))],[]⟩ st [.av FF]).map fun q=>(q.1,q.2.1.n,([q.2.1.get 1,q.2.1.get 4,q.2.1.get 74,q.2.1.get 83]:List AV),q.2.2.1,q.2.2.2.2))=some (.normal,103,[(.ptr a 0),(str s),(i64 k),FF],st,[binA E0 .eql 3 (i64 k) (i64 5)=some FF]):=by kernel_rfl
theorem f30_14_F{a:Nat}{s:ByteArray}{k:Int}{st:St}(h1:binA E0 .eql 3 (i64 k) (i64 5)=some FF){T:Tm}(hT:f30L8 T (.ptr a 0) (str s) (i64 k)):AW Tryz.prog (f30P 14) (fun ex T' st'=>ex= .normal∧f30L11 T' (.ptr a 0) (str s) (i64 k) FF∧st'=st) T st:=by
  obtain ⟨hn,g1,g4,g74⟩:=hT
  exact (gen_run (G:=fun T=>([T.get 1,T.get 4,T.get 74,T.get 83]:List AV)) hE (f30_14_F_e a s k st) (Ob.ok_cons.2 ⟨h1,Ob.ok_nil⟩) hn (conz g1 (conz g4 (one g74)))).mono fun ex T' st' ⟨q1,q2,q3,q4⟩=>by simp only [List.cons.injEq,and_true] at q3;exact ⟨q1,⟨q2,q3⟩,q4⟩
theorem f30_15_e(a:Nat)(s w88 w90:ByteArray)(st s1 s2 s3:St)(n:Int)(v89:AV):((evS Tryz.prog E0 noOv noS 100000 [2087,2089,6039,6040] (f30P 15) ⟨103,[(1,(.ptr a 0)),(4,(str s))],[]⟩ st [.eff (i64 n) id,.eff (str w88) (fun _=>s1),.eff v89 (fun _=>s2),.eff (str w90) (fun _=>s3)]).map fun q=>(q.1,q.2.1.n,([q.2.1.get 4]:List AV),q.2.2.1,q.2.2.2.2))=some (.normal,103,[(str w90)],s3,[loadA E0 st 3 (.ptr a 3)=some (i64 n)∧st=st,obC 40 [(i64 n)] st (str w88) s1,buildSliceA E0 s1 61 2 [(0,(str s)),(1,(str w88))]=some (v89,s2),obC 39 [v89] s2 (str w90) s3]):=by kernel_rfl
theorem f30_15{a:Nat}{s w88 w90:ByteArray}{st s1 s2 s3:St}{n:Int}{v89:AV}(h1:loadA E0 st 3 (.ptr a 3)=some (i64 n))(h2:obC 40 [(i64 n)] st (str w88) s1)(h3:buildSliceA E0 s1 61 2 [(0,(str s)),(1,(str w88))]=some (v89,s2))(h4:obC 39 [v89] s2 (str w90) s3){T:Tm}(hT:f30L7 T (.ptr a 0) (str s)):AW Tryz.prog (f30P 15) (fun ex T' st'=>ex= .normal∧f30L10 T' (str w90)∧st'=s3) T st:=by
  obtain ⟨hn,g1,g4⟩:=hT
  exact (gen_run (G:=fun T=>([T.get 4]:List AV)) hE (f30_15_e a s w88 w90 st s1 s2 s3 n v89) (Ob.ok_cons.2 ⟨⟨h1,rfl⟩,(Ob.ok_cons.2 ⟨h2,(Ob.ok_cons.2 ⟨h3,(Ob.ok_cons.2 ⟨h4,Ob.ok_nil⟩)⟩)⟩)⟩) hn (conz g1 (one g4))).mono fun ex T' st' ⟨q1,q2,q3,q4⟩=>by simp only [List.cons.injEq,and_true] at q3;exact ⟨q1,⟨q2,q3⟩,q4⟩
def f30L12(T:Tm)(a1 a4 a91:AV):Prop:=T.n=103∧T.get 1=a1∧T.get 4=a4∧T.get 91=a91
theorem f30_16_T_e(a:Nat)(s:ByteArray)(k:Int)(st:St):((evS Tryz.prog E0 noOv noS 100000 [7092] (f30P 16) ⟨103,[(1,(.ptr a 0)),(4,(str s)),(74,(i64 k))],[]⟩ st [.av TT]).map fun q=>(q.1,q.2.1.n,([q.2.1.get 1,q.2.1.get 4,q.2.1.get 91]:List AV),q.2.2.1,q.2.2.2.2))=some (.normal,103,[(.ptr a 0),(str s),TT],st,[binA E0 .eql 3 (i64 k) (i64 2)=some TT]):=by kernel_rfl
theorem f30_16_T{a:Nat}{s:ByteArray}{k:Int}{st:St}(h1:binA E0 .eql 3 (i64 k) (i64 2)=some TT){T:Tm}(hT:f30L8 T (.ptr a 0) (str s) (i64 k)):AW Tryz.prog (f30P 16) (fun ex T' st'=>ex= .normal∧f30L12 T' (.ptr a 0) (str s) TT∧st'=st) T st:=by
  obtain ⟨hn,g1,g4,g74⟩:=hT
  exact (gen_run (G:=fun T=>([T.get 1,T.get 4,T.get 91]:List AV)) hE (f30_16_T_e a s k st) (Ob.ok_cons.2 ⟨h1,Ob.ok_nil⟩) hn (conz g1 (conz g4 (one g74)))).mono fun ex T' st' ⟨q1,q2,q3,q4⟩=>by simp only [List.cons.injEq,and_true] at q3;exact ⟨q1,⟨q2,q3⟩,q4⟩
theorem f30_16_F_e(a:Nat)(s:ByteArray)(k:Int)(st:St):((evS Tryz.prog E0 noOv noS 100000 [7092] (f30P 16) ⟨103,[(1,(.ptr a 0)),(4,(str s)),(74,(i64 k))],[]⟩ st [.av FF]).map fun q=>(q.1,q.2.1.n,([q.2.1.get 1,q.2.1.get 4,q.2.1.get 91]:List AV),q.2.2.1,q.2.2.2.2))=some (.normal,103,[(.ptr a 0),(str s),FF],st,[binA E0 .eql 3 (i64 k) (i64 2)=some FF]):=by kernel_rfl
theorem f30_16_F{a:Nat}{s:ByteArray}{k:Int}{st:St}(h1:binA E0 .eql 3 (i64 k) (i64 2)=some FF){T:Tm}(hT:f30L8 T (.ptr a 0) (str s) (i64 k)):AW Tryz.prog (f30P 16) (fun ex T' st'=>ex= .normal∧f30L12 T' (.ptr a 0) (str s) FF∧st'=st) T st:=by
  obtain ⟨hn,g1,g4,g74⟩:=hT
  exact (gen_run (G:=fun T=>([T.get 1,T.get 4,T.get 91]:List AV)) hE (f30_16_F_e a s k st) (Ob.ok_cons.2 ⟨h1,Ob.ok_nil⟩) hn (conz g1 (conz g4 (one g74)))).mono fun ex T' st' ⟨q1,q2,q3,q4⟩=>by simp only [List.cons.injEq,and_true] at q3;exact ⟨q1,⟨q2,q3⟩,q4⟩
def f30L13(T:Tm)(a1 a4 a6:AV):Prop:=T.n=103∧T.get 1=a1∧T.get 4=a4∧T.get 6=a6
theorem f30_17_e(a:Nat)(s:ByteArray)(st:St):((evS Tryz.prog E0 noOv noS 100000 [] (f30P 17) ⟨103,[(1,(.ptr a 0)),(4,(str s))],[]⟩ st []).map fun q=>(q.1,q.2.1.n,([q.2.1.get 1,q.2.1.get 4,q.2.1.get 6]:List AV),q.2.2.1,q.2.2.2.2))=some (.normal,103,[(.ptr a 0),(str s),(str ⟨#[111,112,101,110]⟩)],st,[]):=by kernel_rfl
theorem f30_17{a:Nat}{s:ByteArray}{st:St}{T:Tm}(hT:f30L7 T (.ptr a 0) (str s)):AW Tryz.prog (f30P 17) (fun ex T' st'=>ex= .normal∧f30L13 T' (.ptr a 0) (str s) (str ⟨#[111,112,101,110]⟩)∧st'=st) T st:=by
  obtain ⟨hn,g1,g4⟩:=hT
  exact (gen_run (G:=fun T=>([T.get 1,T.get 4,T.get 6]:List AV)) hE (f30_17_e a s st) Ob.ok_nil hn (conz g1 (one g4))).mono fun ex T' st' ⟨q1,q2,q3,q4⟩=>by simp only [List.cons.injEq,and_true] at q3;exact ⟨q1,⟨q2,q3⟩,q4⟩
def f30L14(T:Tm)(a1 a4 a6 a94:AV):Prop:=T.n=103∧T.get 1=a1∧T.get 4=a4∧T.get 6=a6∧T.get 94=a94
theorem f30_18_e(a:Nat)(s en6:ByteArray)(st:St)(en:Bool):((evS Tryz.prog E0 noOv noS 100000 [2094] (f30P 18) ⟨103,[(1,(.ptr a 0)),(4,(str s)),(6,(str en6))],[]⟩ st [.eff (bo en) id]).map fun q=>(q.1,q.2.1.n,([q.2.1.get 1,q.2.1.get 4,q.2.1.get 6,q.2.1.get 94]:List AV),q.2.2.1,q.2.2.2.2))=some (.normal,103,[(.ptr a 0),(str s),(str en6),(bo en)],st,[loadA E0 st 4 (.ptr a 5)=some (bo en)∧st=st]):=by kernel_rfl
theorem f30_18{a:Nat}{s en6:ByteArray}{st:St}{en:Bool}(h1:loadA E0 st 4 (.ptr a 5)=some (bo en)){T:Tm}(hT:f30L13 T (.ptr a 0) (str s) (str en6)):AW Tryz.prog (f30P 18) (fun ex T' st'=>ex= .normal∧f30L14 T' (.ptr a 0) (str s) (str en6) (bo en)∧st'=st) T st:=by
  obtain ⟨hn,g1,g4,g6⟩:=hT
  exact (gen_run (G:=fun T=>([T.get 1,T.get 4,T.get 6,T.get 94]:List AV)) hE (f30_18_e a s en6 st en) (Ob.ok_cons.2 ⟨⟨h1,rfl⟩,Ob.ok_nil⟩) hn (conz g1 (conz g4 (one g6)))).mono fun ex T' st' ⟨q1,q2,q3,q4⟩=>by simp only [List.cons.injEq,and_true] at q3;exact ⟨q1,⟨q2,q3⟩,q4⟩
theorem f30_19_e(a:Nat)(s:ByteArray)(st:St):((evS Tryz.prog E0 noOv noS 100000 [] (f30P 19) ⟨103,[(1,(.ptr a 0)),(4,(str s))],[]⟩ st []).map fun q=>(q.1,q.2.1.n,([q.2.1.get 1,q.2.1.get 4,q.2.1.get 6]:List AV),q.2.2.1,q.2.2.2.2))=some (.normal,103,[(.ptr a 0),(str s),(str ⟨#[101,110,100,101,100]⟩)],st,[]):=by kernel_rfl
theorem f30_19{a:Nat}{s:ByteArray}{st:St}{T:Tm}(hT:f30L7 T (.ptr a 0) (str s)):AW Tryz.prog (f30P 19) (fun ex T' st'=>ex= .normal∧f30L13 T' (.ptr a 0) (str s) (str ⟨#[101,110,100,101,100]⟩)∧st'=st) T st:=by
  obtain ⟨hn,g1,g4⟩:=hT
  exact (gen_run (G:=fun T=>([T.get 1,T.get 4,T.get 6]:List AV)) hE (f30_19_e a s st) Ob.ok_nil hn (conz g1 (one g4))).mono fun ex T' st' ⟨q1,q2,q3,q4⟩=>by simp only [List.cons.injEq,and_true] at q3;exact ⟨q1,⟨q2,q3⟩,q4⟩
theorem f30_21_e(a:Nat)(s en6 w98 w101:ByteArray)(st s1 s2 s3:St)(v97 v100:AV):((evS Tryz.prog E0 noOv noS 100000 [2097,2100,6028,6039] (f30P 21) ⟨103,[(1,(.ptr a 0)),(4,(str s)),(6,(str en6))],[]⟩ st [.eff v97 id,.eff (str w98) (fun _=>s1),.eff v100 (fun _=>s2),.eff (str w101) (fun _=>s3)]).map fun q=>(q.1,q.2.1.n,([q.2.1.get 4]:List AV),q.2.2.1,q.2.2.2.2))=some (.normal,103,[(str w101)],s3,[loadA E0 st 51 (.ptr a 4)=some v97∧st=st,obC 28 [v97] st (str w98) s1,buildSliceA E0 s1 61 3 [(0,(str s)),(1,(str w98)),(2,(str en6))]=some (v100,s2),obC 39 [v100] s2 (str w101) s3]):=by kernel_rfl
theorem f30_21{a:Nat}{s en6 w98 w101:ByteArray}{st s1 s2 s3:St}{v97 v100:AV}(h1:loadA E0 st 51 (.ptr a 4)=some v97)(h2:obC 28 [v97] st (str w98) s1)(h3:buildSliceA E0 s1 61 3 [(0,(str s)),(1,(str w98)),(2,(str en6))]=some (v100,s2))(h4:obC 39 [v100] s2 (str w101) s3){T:Tm}(hT:f30L13 T (.ptr a 0) (str s) (str en6)):AW Tryz.prog (f30P 21) (fun ex T' st'=>ex= .normal∧f30L10 T' (str w101)∧st'=s3) T st:=by
  obtain ⟨hn,g1,g4,g6⟩:=hT
  exact (gen_run (G:=fun T=>([T.get 4]:List AV)) hE (f30_21_e a s en6 w98 w101 st s1 s2 s3 v97 v100) (Ob.ok_cons.2 ⟨⟨h1,rfl⟩,(Ob.ok_cons.2 ⟨h2,(Ob.ok_cons.2 ⟨h3,(Ob.ok_cons.2 ⟨h4,Ob.ok_nil⟩)⟩)⟩)⟩) hn (conz g1 (conz g4 (one g6)))).mono fun ex T' st' ⟨q1,q2,q3,q4⟩=>by simp only [List.cons.injEq,and_true] at q3;exact ⟨q1,⟨q2,q3⟩,q4⟩
theorem f30_23_e(s:ByteArray)(st:St):((evS Tryz.prog E0 noOv noS 100000 [] (f30P 23) ⟨103,[(4,(str s))],[]⟩ st []).map fun q=>(q.1,q.2.1.n,([q.2.1.get 2,q.2.1.get 3]:List AV),q.2.2.1,q.2.2.2.2))=some (.normal,103,[(str s),TT],st,[]):=by kernel_rfl
theorem f30_23{s:ByteArray}{st:St}{T:Tm}(hT:f30L10 T (str s)):AW Tryz.prog (f30P 23) (fun ex T' st'=>ex= .normal∧f30L5 T' (str s) TT∧st'=st) T st:=by
  obtain ⟨hn,g4⟩:=hT
  exact (gen_run (G:=fun T=>([T.get 2,T.get 3]:List AV)) hE (f30_23_e s st) Ob.ok_nil hn (one g4)).mono fun ex T' st' ⟨q1,q2,q3,q4⟩=>by simp only [List.cons.injEq,and_true] at q3;exact ⟨q1,⟨q2,q3⟩,q4⟩
end
section
set_option maxRecDepth 100000
theorem f38_T_e(st s1:St)(k:Int)(v4:AV):evCallS Tryz.prog E0 noOv (fun _=> [2016,6064,7006,7010,7011,7015]) 100000 38 [(i64 k)] st [.eff v4 (fun _=>s1),.av TT]=some ((str ⟨#[]⟩),s1,[],[obC 64 [(str ⟨#[32,99,111,110,110,101,99,116,32,112,117,115,104,32,99,108,111,115,101,32,116,105,99,107,32,115,116,101,112,32,113,117,111,116,97,32,102,117,115,101,32,99,114,97,115,104,32,111,112,101,110]⟩),(str ⟨#[32]⟩)] st v4 s1,binA E0 .lss 3 (i64 k) (i64 1)=some TT]):=by kernel_rfl
theorem f38_T{st s1:St}{k:Int}{v4:AV}(h1:obC 64 [(str ⟨#[32,99,111,110,110,101,99,116,32,112,117,115,104,32,99,108,111,115,101,32,116,105,99,107,32,115,116,101,112,32,113,117,111,116,97,32,102,117,115,101,32,99,114,97,115,104,32,111,112,101,110]⟩),(str ⟨#[32]⟩)] st v4 s1)(h2:binA E0 .lss 3 (i64 k) (i64 1)=some TT):obC 38 [(i64 k)] st (str ⟨#[]⟩) s1:=ACalls.run hE noOv_ok (f38_T_e st s1 k v4) (Ob.ok_cons.2 ⟨h1,(Ob.ok_cons.2 ⟨h2,Ob.ok_nil⟩)⟩)
theorem f38_FT_e(st s1:St)(k n10:Int)(v4:AV):evCallS Tryz.prog E0 noOv (fun _=> [2016,6064,7006,7010,7011,7015]) 100000 38 [(i64 k)] st [.eff v4 (fun _=>s1),.av FF,.av (i64 n10),.av TT]=some ((str ⟨#[]⟩),s1,[],[obC 64 [(str ⟨#[32,99,111,110,110,101,99,116,32,112,117,115,104,32,99,108,111,115,101,32,116,105,99,107,32,115,116,101,112,32,113,117,111,116,97,32,102,117,115,101,32,99,114,97,115,104,32,111,112,101,110]⟩),(str ⟨#[32]⟩)] st v4 s1,binA E0 .lss 3 (i64 k) (i64 1)=some FF,lenA E0 61 v4=some (i64 n10),binA E0 .geq 3 (i64 k) (i64 n10)=some TT]):=by kernel_rfl
theorem f38_FT{st s1:St}{k n10:Int}{v4:AV}(h1:obC 64 [(str ⟨#[32,99,111,110,110,101,99,116,32,112,117,115,104,32,99,108,111,115,101,32,116,105,99,107,32,115,116,101,112,32,113,117,111,116,97,32,102,117,115,101,32,99,114,97,115,104,32,111,112,101,110]⟩),(str ⟨#[32]⟩)] st v4 s1)(h2:binA E0 .lss 3 (i64 k) (i64 1)=some FF)(h3:lenA E0 61 v4=some (i64 n10))(h4:binA E0 .geq 3 (i64 k) (i64 n10)=some TT):obC 38 [(i64 k)] st (str ⟨#[]⟩) s1:=ACalls.run hE noOv_ok (f38_FT_e st s1 k n10 v4) (Ob.ok_cons.2 ⟨h1,(Ob.ok_cons.2 ⟨h2,(Ob.ok_cons.2 ⟨h3,(Ob.ok_cons.2 ⟨h4,Ob.ok_nil⟩)⟩)⟩)⟩)
theorem f38_FF_e(st s1:St)(k n10:Int)(v4 q15:AV)(w16:ByteArray):evCallS Tryz.prog E0 noOv (fun _=> [2016,6064,7006,7010,7011,7015]) 100000 38 [(i64 k)] st [.eff v4 (fun _=>s1),.av FF,.av (i64 n10),.av FF,.av q15,.eff (str w16) id]=some ((str w16),s1,[],[obC 64 [(str ⟨#[32,99,111,110,110,101,99,116,32,112,117,115,104,32,99,108,111,115,101,32,116,105,99,107,32,115,116,101,112,32,113,117,111,116,97,32,102,117,115,101,32,99,114,97,115,104,32,111,112,101,110]⟩),(str ⟨#[32]⟩)] st v4 s1,binA E0 .lss 3 (i64 k) (i64 1)=some FF,lenA E0 61 v4=some (i64 n10),binA E0 .geq 3 (i64 k) (i64 n10)=some FF,indexAddrA E0 61 v4 (i64 k)=some q15,loadA E0 s1 9 q15=some (str w16)∧s1=s1]):=by kernel_rfl
theorem f38_FF{st s1:St}{k n10:Int}{v4 q15:AV}{w16:ByteArray}(h1:obC 64 [(str ⟨#[32,99,111,110,110,101,99,116,32,112,117,115,104,32,99,108,111,115,101,32,116,105,99,107,32,115,116,101,112,32,113,117,111,116,97,32,102,117,115,101,32,99,114,97,115,104,32,111,112,101,110]⟩),(str ⟨#[32]⟩)] st v4 s1)(h2:binA E0 .lss 3 (i64 k) (i64 1)=some FF)(h3:lenA E0 61 v4=some (i64 n10))(h4:binA E0 .geq 3 (i64 k) (i64 n10)=some FF)(h5:indexAddrA E0 61 v4 (i64 k)=some q15)(h6:loadA E0 s1 9 q15=some (str w16)):obC 38 [(i64 k)] st (str w16) s1:=ACalls.run hE noOv_ok (f38_FF_e st s1 k n10 v4 q15 w16) (Ob.ok_cons.2 ⟨h1,(Ob.ok_cons.2 ⟨h2,(Ob.ok_cons.2 ⟨h3,(Ob.ok_cons.2 ⟨h4,(Ob.ok_cons.2 ⟨h5,(Ob.ok_cons.2 ⟨⟨h6,rfl⟩,Ob.ok_nil⟩)⟩)⟩)⟩)⟩)⟩)
theorem f39_e(st s1:St)(x:AV)(w4:ByteArray):evCallS Tryz.prog E0 noOv (fun _=> [6065]) 100000 39 [x] st [.eff (str w4) (fun _=>s1)]=some ((str w4),s1,[],[obC 65 [x,(str ⟨#[32]⟩)] st (str w4) s1]):=by kernel_rfl
theorem f39{st s1:St}{x:AV}{w4:ByteArray}(h1:obC 65 [x,(str ⟨#[32]⟩)] st (str w4) s1):obC 39 [x] st (str w4) s1:=ACalls.run hE noOv_ok (f39_e st s1 x w4) (Ob.ok_cons.2 ⟨h1,Ob.ok_nil⟩)
noncomputable def f21P(i:Nat):Code:=match Tryz.f21.body with
  |some (.seq x0 (.seq x1 (.seq x2 (.seq x3 (.seq (.seq x4 (.cond _ (.seq x5 x6) x7)) (.seq (.seq x8 (.cond _ x9 x10)) (.seq (.seq x11 (.cond _ x12 x13)) (.seq (.seq x14 (.cond _ x15 x16)) (.seq (.seq x17 (.block 0 (.loop x18))) (.seq x19 x20))))))))))=> [x0,x1,x2,x3,x4,x5,x6,x7,x8,x9,x10,x11,x12,x13,x14,x15,x16,x17,x18,x19,x20].getD i .skip
  |_=> .skip
theorem f21body:Tryz.f21.body=some (.seq (f21P 0) (.seq (f21P 1) (.seq (f21P 2) (.seq (f21P 3) (.seq (.seq (f21P 4) (.cond (.tmp 79) (.seq (f21P 5) (f21P 6)) (f21P 7))) (.seq (.seq (f21P 8) (.cond (.tmp 80) (f21P 9) (f21P 10))) (.seq (.seq (f21P 11) (.cond (.tmp 87) (f21P 12) (f21P 13))) (.seq (.seq (f21P 14) (.cond (.tmp 96) (f21P 15) (f21P 16))) (.seq (.seq (f21P 17) (.block 0 (.loop (f21P 18)))) (.seq (f21P 19) (f21P 20))))))))))):=by kernel_rfl
def f21L0(T:Tm)(a0:AV):Prop:=T.n=118∧T.get 0=a0
def f21L1(T:Tm)(a1:AV):Prop:=T.n=118∧T.get 1=a1
theorem f21_0_e(k c n:Int)(d p:AV)(st s1:St)(a1:Nat):((evS Tryz.prog E0 noOv noS 100000 [2001] (f21P 0) ⟨118,[(0,(.agg [(i64 k),(i64 c),(i64 n),d,p]))],[]⟩ st [.eff (.ptr a1 0) (fun _=>s1)]).map fun q=>(q.1,q.2.1.n,([q.2.1.get 1]:List AV),q.2.2.1,q.2.2.2.2))=some (.normal,118,[(.ptr a1 0)],s1,[boxA st 54 (.agg [(i64 k),(i64 c),(i64 n),d,p])=some ((.ptr a1 0),s1)]):=by kernel_rfl
theorem f21_0{k c n:Int}{d p:AV}{st s1:St}{a1:Nat}(h1:boxA st 54 (.agg [(i64 k),(i64 c),(i64 n),d,p])=some ((.ptr a1 0),s1)){T:Tm}(hT:f21L0 T (.agg [(i64 k),(i64 c),(i64 n),d,p])):AW Tryz.prog (f21P 0) (fun ex T' st'=>ex= .normal∧f21L1 T' (.ptr a1 0)∧st'=s1) T st:=by
  obtain ⟨hn,g0⟩:=hT
  exact (gen_run (G:=fun T=>([T.get 1]:List AV)) hE (f21_0_e k c n d p st s1 a1) (Ob.ok_cons.2 ⟨h1,Ob.ok_nil⟩) hn (one g0)).mono fun ex T' st' ⟨q1,q2,q3,q4⟩=>by simp only [List.cons.injEq,and_true] at q3;exact ⟨q1,⟨q2,q3⟩,q4⟩
def f21L2(T:Tm)(a1 a4:AV):Prop:=T.n=118∧T.get 1=a1∧T.get 4=a4
theorem f21_1_e(a:Nat)(st s1:St)(k:Int)(w11:ByteArray):((evS Tryz.prog E0 noOv noS 100000 [2010,6038] (f21P 1) ⟨118,[(1,(.ptr a 0))],[]⟩ st [.eff (i64 k) id,.eff (str w11) (fun _=>s1)]).map fun q=>(q.1,q.2.1.n,([q.2.1.get 1,q.2.1.get 4]:List AV),q.2.2.1,q.2.2.2.2))=some (.normal,118,[(.ptr a 0),(str w11)],s1,[loadA E0 st 3 (.ptr a 0)=some (i64 k)∧st=st,obC 38 [(i64 k)] st (str w11) s1]):=by kernel_rfl
theorem f21_1{a:Nat}{st s1:St}{k:Int}{w11:ByteArray}(h1:loadA E0 st 3 (.ptr a 0)=some (i64 k))(h2:obC 38 [(i64 k)] st (str w11) s1){T:Tm}(hT:f21L1 T (.ptr a 0)):AW Tryz.prog (f21P 1) (fun ex T' st'=>ex= .normal∧f21L2 T' (.ptr a 0) (str w11)∧st'=s1) T st:=by
  obtain ⟨hn,g1⟩:=hT
  exact (gen_run (G:=fun T=>([T.get 1,T.get 4]:List AV)) hE (f21_1_e a st s1 k w11) (Ob.ok_cons.2 ⟨⟨h1,rfl⟩,(Ob.ok_cons.2 ⟨h2,Ob.ok_nil⟩)⟩) hn (one g1)).mono fun ex T' st' ⟨q1,q2,q3,q4⟩=>by simp only [List.cons.injEq,and_true] at q3;exact ⟨q1,⟨q2,q3⟩,q4⟩
def f21L3(T:Tm)(a1 a4 a5:AV):Prop:=T.n=118∧T.get 1=a1∧T.get 4=a4∧T.get 5=a5
theorem f21_2_T_e(a:Nat)(s:ByteArray)(st:St)(k:Int):((evS Tryz.prog E0 noOv noS 100000 [2013,2017,7014,7018] (f21P 2) ⟨118,[(1,(.ptr a 0)),(4,(str s))],[]⟩ st [.eff (i64 k) id,.av TT]).map fun q=>(q.1,q.2.1.n,([q.2.1.get 1,q.2.1.get 4,q.2.1.get 5]:List AV),q.2.2.1,q.2.2.2.2))=some (.normal,118,[(.ptr a 0),(str s),TT],st,[loadA E0 st 3 (.ptr a 0)=some (i64 k)∧st=st,binA E0 .eql 3 (i64 k) (i64 2)=some TT]):=by kernel_rfl
theorem f21_2_T{a:Nat}{s:ByteArray}{st:St}{k:Int}(h1:loadA E0 st 3 (.ptr a 0)=some (i64 k))(h2:binA E0 .eql 3 (i64 k) (i64 2)=some TT){T:Tm}(hT:f21L2 T (.ptr a 0) (str s)):AW Tryz.prog (f21P 2) (fun ex T' st'=>ex= .normal∧f21L3 T' (.ptr a 0) (str s) TT∧st'=st) T st:=by
  obtain ⟨hn,g1,g4⟩:=hT
  exact (gen_run (G:=fun T=>([T.get 1,T.get 4,T.get 5]:List AV)) hE (f21_2_T_e a s st k) (Ob.ok_cons.2 ⟨⟨h1,rfl⟩,(Ob.ok_cons.2 ⟨h2,Ob.ok_nil⟩)⟩) hn (conz g1 (one g4))).mono fun ex T' st' ⟨q1,q2,q3,q4⟩=>by simp only [List.cons.injEq,and_true] at q3;exact ⟨q1,⟨q2,q3⟩,q4⟩
theorem f21_2_FT_e(a:Nat)(s:ByteArray)(st:St)(k:Int):((evS Tryz.prog E0 noOv noS 100000 [2013,2017,7014,7018] (f21P 2) ⟨118,[(1,(.ptr a 0)),(4,(str s))],[]⟩ st [.eff (i64 k) id,.av FF,.eff (i64 k) id,.av TT]).map fun q=>(q.1,q.2.1.n,([q.2.1.get 1,q.2.1.get 4,q.2.1.get 5]:List AV),q.2.2.1,q.2.2.2.2))=some (.normal,118,[(.ptr a 0),(str s),TT],st,[loadA E0 st 3 (.ptr a 0)=some (i64 k)∧st=st,binA E0 .eql 3 (i64 k) (i64 2)=some FF,loadA E0 st 3 (.ptr a 0)=some (i64 k)∧st=st,binA E0 .eql 3 (i64 k) (i64 3)=some TT]):=by kernel_rfl
theorem f21_2_FT{a:Nat}{s:ByteArray}{st:St}{k:Int}(h1:loadA E0 st 3 (.ptr a 0)=some (i64 k))(h2:binA E0 .eql 3 (i64 k) (i64 2)=some FF)(h3:loadA E0 st 3 (.ptr a 0)=some (i64 k))(h4:binA E0 .eql 3 (i64 k) (i64 3)=some TT){T:Tm}(hT:f21L2 T (.ptr a 0) (str s)):AW Tryz.prog (f21P 2) (fun ex T' st'=>ex= .normal∧f21L3 T' (.ptr a 0) (str s) TT∧st'=st) T st:=by
  obtain ⟨hn,g1,g4⟩:=hT
  exact (gen_run (G:=fun T=>([T.get 1,T.get 4,T.get 5]:List AV)) hE (f21_2_FT_e a s st k) (Ob.ok_cons.2 ⟨⟨h1,rfl⟩,(Ob.ok_cons.2 ⟨h2,(Ob.ok_cons.2 ⟨⟨h3,rfl⟩,(Ob.ok_cons.2 ⟨h4,Ob.ok_nil⟩)⟩)⟩)⟩) hn (conz g1 (one g4))).mono fun ex T' st' ⟨q1,q2,q3,q4⟩=>by simp only [List.cons.injEq,and_true] at q3;exact ⟨q1,⟨q2,q3⟩,q4⟩
theorem f21_2_FF_e(a:Nat)(s:ByteArray)(st:St)(k:Int):((evS Tryz.prog E0 noOv noS 100000 [2013,2017,7014,7018] (f21P 2) ⟨118,[(1,(.ptr a 0)),(4,(str s))],[]⟩ st [.eff (i64 k) id,.av FF,.eff (i64 k) id,.av FF]).map fun q=>(q.1,q.2.1.n,([q.2.1.get 1,q.2.1.get 4,q.2.1.get 5]:List AV),q.2.2.1,q.2.2.2.2))=some (.normal,118,[(.ptr a 0),(str s),FF],st,[loadA E0 st 3 (.ptr a 0)=some (i64 k)∧st=st,binA E0 .eql 3 (i64 k) (i64 2)=some FF,loadA E0 st 3 (.ptr a 0)=some (i64 k)∧st=st,binA E0 .eql 3 (i64 k) (i64 3)=some FF]):=by kernel_rfl
theorem f21_2_FF{a:Nat}{s:ByteArray}{st:St}{k:Int}(h1:loadA E0 st 3 (.ptr a 0)=some (i64 k))(h2:binA E0 .eql 3 (i64 k) (i64 2)=some FF)(h3:loadA E0 st 3 (.ptr a 0)=some (i64 k))(h4:binA E0 .eql 3 (i64 k) (i64 3)=some FF){T:Tm}(hT:f21L2 T (.ptr a 0) (str s)):AW Tryz.prog (f21P 2) (fun ex T' st'=>ex= .normal∧f21L3 T' (.ptr a 0) (str s) FF∧st'=st) T st:=by
  obtain ⟨hn,g1,g4⟩:=hT
  exact (gen_run (G:=fun T=>([T.get 1,T.get 4,T.get 5]:List AV)) hE (f21_2_FF_e a s st k) (Ob.ok_cons.2 ⟨⟨h1,rfl⟩,(Ob.ok_cons.2 ⟨h2,(Ob.ok_cons.2 ⟨⟨h3,rfl⟩,(Ob.ok_cons.2 ⟨h4,Ob.ok_nil⟩)⟩)⟩)⟩) hn (conz g1 (one g4))).mono fun ex T' st' ⟨q1,q2,q3,q4⟩=>by simp only [List.cons.injEq,and_true] at q3;exact ⟨q1,⟨q2,q3⟩,q4⟩
def f21L4(T:Tm)(a1 a4 a5 a6:AV):Prop:=T.n=118∧T.get 1=a1∧T.get 4=a4∧T.get 5=a5∧T.get 6=a6
theorem f21_3_T_e(a:Nat)(s:ByteArray)(b5:Bool)(st:St)(k:Int):((evS Tryz.prog E0 noOv noS 100000 [2021,2025,2030,2035,7022,7026,7031,7036] (f21P 3) ⟨118,[(1,(.ptr a 0)),(4,(str s)),(5,(bo b5))],[]⟩ st [.eff (i64 k) id,.av TT]).map fun q=>(q.1,q.2.1.n,([q.2.1.get 1,q.2.1.get 4,q.2.1.get 5,q.2.1.get 6]:List AV),q.2.2.1,q.2.2.2.2))=some (.normal,118,[(.ptr a 0),(str s),(bo b5),TT],st,[loadA E0 st 3 (.ptr a 0)=some (i64 k)∧st=st,binA E0 .eql 3 (i64 k) (i64 4)=some TT]):=by kernel_rfl
theorem f21_3_T{a:Nat}{s:ByteArray}{b5:Bool}{st:St}{k:Int}(h1:loadA E0 st 3 (.ptr a 0)=some (i64 k))(h2:binA E0 .eql 3 (i64 k) (i64 4)=some TT){T:Tm}(hT:f21L3 T (.ptr a 0) (str s) (bo b5)):AW Tryz.prog (f21P 3) (fun ex T' st'=>ex= .normal∧f21L4 T' (.ptr a 0) (str s) (bo b5) TT∧st'=st) T st:=by
  obtain ⟨hn,g1,g4,g5⟩:=hT
  exact (gen_run (G:=fun T=>([T.get 1,T.get 4,T.get 5,T.get 6]:List AV)) hE (f21_3_T_e a s b5 st k) (Ob.ok_cons.2 ⟨⟨h1,rfl⟩,(Ob.ok_cons.2 ⟨h2,Ob.ok_nil⟩)⟩) hn (conz g1 (conz g4 (one g5)))).mono fun ex T' st' ⟨q1,q2,q3,q4⟩=>by simp only [List.cons.injEq,and_true] at q3;exact ⟨q1,⟨q2,q3⟩,q4⟩
theorem f21_3_FT_e(a:Nat)(s:ByteArray)(b5:Bool)(st:St)(k:Int):((evS Tryz.prog E0 noOv noS 100000 [2021,2025,2030,2035,7022,7026,7031,7036] (f21P 3) ⟨118,[(1,(.ptr a 0)),(4,(str s)),(5,(bo b5))],[]⟩ st [.eff (i64 k) id,.av FF,.eff (i64 k) id,.av TT]).map fun q=>(q.1,q.2.1.n,([q.2.1.get 1,q.2.1.get 4,q.2.1.get 5,q.2.1.get 6]:List AV),q.2.2.1,q.2.2.2.2))=some (.normal,118,[(.ptr a 0),(str s),(bo b5),TT],st,[loadA E0 st 3 (.ptr a 0)=some (i64 k)∧st=st,binA E0 .eql 3 (i64 k) (i64 4)=some FF,loadA E0 st 3 (.ptr a 0)=some (i64 k)∧st=st,binA E0 .eql 3 (i64 k) (i64 6)=some TT]):=by kernel_rfl
theorem f21_3_FT{a:Nat}{s:ByteArray}{b5:Bool}{st:St}{k:Int}(h1:loadA E0 st 3 (.ptr a 0)=some (i64 k))(h2:binA E0 .eql 3 (i64 k) (i64 4)=some FF)(h3:loadA E0 st 3 (.ptr a 0)=some (i64 k))(h4:binA E0 .eql 3 (i64 k) (i64 6)=some TT){T:Tm}(hT:f21L3 T (.ptr a 0) (str s) (bo b5)):AW Tryz.prog (f21P 3) (fun ex T' st'=>ex= .normal∧f21L4 T' (.ptr a 0) (str s) (bo b5) TT∧st'=st) T st:=by
  obtain ⟨hn,g1,g4,g5⟩:=hT
  exact (gen_run (G:=fun T=>([T.get 1,T.get 4,T.get 5,T.get 6]:List AV)) hE (f21_3_FT_e a s b5 st k) (Ob.ok_cons.2 ⟨⟨h1,rfl⟩,(Ob.ok_cons.2 ⟨h2,(Ob.ok_cons.2 ⟨⟨h3,rfl⟩,(Ob.ok_cons.2 ⟨h4,Ob.ok_nil⟩)⟩)⟩)⟩) hn (conz g1 (conz g4 (one g5)))).mono fun ex T' st' ⟨q1,q2,q3,q4⟩=>by simp only [List.cons.injEq,and_true] at q3;exact ⟨q1,⟨q2,q3⟩,q4⟩
theorem f21_3_FFT_e(a:Nat)(s:ByteArray)(b5:Bool)(st:St)(k:Int):((evS Tryz.prog E0 noOv noS 100000 [2021,2025,2030,2035,7022,7026,7031,7036] (f21P 3) ⟨118,[(1,(.ptr a 0)),(4,(str s)),(5,(bo b5))],[]⟩ st [.eff (i64 k) id,.av FF,.eff (i64 k) id,.av FF,.eff (i64 k) id,.av TT]).map fun q=>(q.1,q.2.1.n,([q.2.1.get 1,q.2.1.get 4,q.2.1.get 5,q.2.1.get 6]:List AV),q.2.2.1,q.2.2.2.2))=some (.normal,118,[(.ptr a 0),(str s),(bo b5),TT],st,[loadA E0 st 3 (.ptr a 0)=some (i64 k)∧st=st,binA E0 .eql 3 (i64 k) (i64 4)=some FF,loadA E0 st 3 (.ptr a 0)=some (i64 k)∧st=st,binA E0 .eql 3 (i64 k) (i64 6)=some FF,loadA E0 st 3 (.ptr a 0)=some (i64 k)∧st=st,binA E0 .eql 3 (i64 k) (i64 7)=some TT]):=by kernel_rfl
theorem f21_3_FFT{a:Nat}{s:ByteArray}{b5:Bool}{st:St}{k:Int}(h1:loadA E0 st 3 (.ptr a 0)=some (i64 k))(h2:binA E0 .eql 3 (i64 k) (i64 4)=some FF)(h3:loadA E0 st 3 (.ptr a 0)=some (i64 k))(h4:binA E0 .eql 3 (i64 k) (i64 6)=some FF)(h5:loadA E0 st 3 (.ptr a 0)=some (i64 k))(h6:binA E0 .eql 3 (i64 k) (i64 7)=some TT){T:Tm}(hT:f21L3 T (.ptr a 0) (str s) (bo b5)):AW Tryz.prog (f21P 3) (fun ex T' st'=>ex= .normal∧f21L4 T' (.ptr a 0) (str s) (bo b5) TT∧st'=st) T st:=by
  obtain ⟨hn,g1,g4,g5⟩:=hT
  exact (gen_run (G:=fun T=>([T.get 1,T.get 4,T.get 5,T.get 6]:List AV)) hE (f21_3_FFT_e a s b5 st k) (Ob.ok_cons.2 ⟨⟨h1,rfl⟩,(Ob.ok_cons.2 ⟨h2,(Ob.ok_cons.2 ⟨⟨h3,rfl⟩,(Ob.ok_cons.2 ⟨h4,(Ob.ok_cons.2 ⟨⟨h5,rfl⟩,(Ob.ok_cons.2 ⟨h6,Ob.ok_nil⟩)⟩)⟩)⟩)⟩)⟩) hn (conz g1 (conz g4 (one g5)))).mono fun ex T' st' ⟨q1,q2,q3,q4⟩=>by simp only [List.cons.injEq,and_true] at q3;exact ⟨q1,⟨q2,q3⟩,q4⟩
theorem f21_3_FFFT_e(a:Nat)(s:ByteArray)(b5:Bool)(st:St)(k:Int):((evS Tryz.prog E0 noOv noS 100000 [2021,2025,2030,2035,7022,7026,7031,7036] (f21P 3) ⟨118,[(1,(.ptr a 0)),(4,(str s)),(5,(bo b5))],[]⟩ st [.eff (i64 k) id,.av FF,.eff (i64 k) id,.av FF,.eff (i64 k) id,.av FF,.eff (i64 k) id,.av TT]).map fun q=>(q.1,q.2.1.n,([q.2.1.get 1,q.2.1.get 4,q.2.1.get 5,q.2.1.get 6]:List AV),q.2.2.1,q.2.2.2.2))=some (.normal,118,[(.ptr a 0),(str s),(bo b5),TT],st,[loadA E0 st 3 (.ptr a 0)=some (i64 k)∧st=st,binA E0 .eql 3 (i64 k) (i64 4)=some FF,loadA E0 st 3 (.ptr a 0)=some (i64 k)∧st=st,binA E0 .eql 3 (i64 k) (i64 6)=some FF,loadA E0 st 3 (.ptr a 0)=some (i64 k)∧st=st,binA E0 .eql 3 (i64 k) (i64 7)=some FF,loadA E0 st 3 (.ptr a 0)=some (i64 k)∧st=st,binA E0 .eql 3 (i64 k) (i64 8)=some TT]):=by kernel_rfl
theorem f21_3_FFFT{a:Nat}{s:ByteArray}{b5:Bool}{st:St}{k:Int}(h1:loadA E0 st 3 (.ptr a 0)=some (i64 k))(h2:binA E0 .eql 3 (i64 k) (i64 4)=some FF)(h3:loadA E0 st 3 (.ptr a 0)=some (i64 k))(h4:binA E0 .eql 3 (i64 k) (i64 6)=some FF)(h5:loadA E0 st 3 (.ptr a 0)=some (i64 k))(h6:binA E0 .eql 3 (i64 k) (i64 7)=some FF)(h7:loadA E0 st 3 (.ptr a 0)=some (i64 k))(h8:binA E0 .eql 3 (i64 k) (i64 8)=some TT){T:Tm}(hT:f21L3 T (.ptr a 0) (str s) (bo b5)):AW Tryz.prog (f21P 3) (fun ex T' st'=>ex= .normal∧f21L4 T' (.ptr a 0) (str s) (bo b5) TT∧st'=st) T st:=by
  obtain ⟨hn,g1,g4,g5⟩:=hT
  exact (gen_run (G:=fun T=>([T.get 1,T.get 4,T.get 5,T.get 6]:List AV)) hE (f21_3_FFFT_e a s b5 st k) (Ob.ok_cons.2 ⟨⟨h1,rfl⟩,(Ob.ok_cons.2 ⟨h2,(Ob.ok_cons.2 ⟨⟨h3,rfl⟩,(Ob.ok_cons.2 ⟨h4,(Ob.ok_cons.2 ⟨⟨h5,rfl⟩,(Ob.ok_cons.2 ⟨h6,(Ob.ok_cons.2 ⟨⟨h7,rfl⟩,(Ob.ok_cons.2 ⟨h8,Ob.ok_nil⟩)⟩)⟩)⟩)⟩)⟩)⟩)⟩) hn (conz g1 (conz g4 (one g5)))).mono fun ex T' st' ⟨q1,q2,q3,q4⟩=>by simp only [List.cons.injEq,and_true] at q3;exact ⟨q1,⟨q2,q3⟩,q4⟩
theorem f21_3_FFFF_e(a:Nat)(s:ByteArray)(b5:Bool)(st:St)(k:Int):((evS Tryz.prog E0 noOv noS 100000 [2021,2025,2030,2035,7022,7026,7031,7036] (f21P 3) ⟨118,[(1,(.ptr a 0)),(4,(str s)),(5,(bo b5))],[]⟩ st [.eff (i64 k) id,.av FF,.eff (i64 k) id,.av FF,.eff (i64 k) id,.av FF,.eff (i64 k) id,.av FF]).map fun q=>(q.1,q.2.1.n,([q.2.1.get 1,q.2.1.get 4,q.2.1.get 5,q.2.1.get 6]:List AV),q.2.2.1,q.2.2.2.2))=some (.normal,118,[(.ptr a 0),(str s),(bo b5),FF],st,[loadA E0 st 3 (.ptr a 0)=some (i64 k)∧st=st,binA E0 .eql 3 (i64 k) (i64 4)=some FF,loadA E0 st 3 (.ptr a 0)=some (i64 k)∧st=st,binA E0 .eql 3 (i64 k) (i64 6)=some FF,loadA E0 st 3 (.ptr a 0)=some (i64 k)∧st=st,binA E0 .eql 3 (i64 k) (i64 7)=some FF,loadA E0 st 3 (.ptr a 0)=some (i64 k)∧st=st,binA E0 .eql 3 (i64 k) (i64 8)=some FF]):=by kernel_rfl
theorem f21_3_FFFF{a:Nat}{s:ByteArray}{b5:Bool}{st:St}{k:Int}(h1:loadA E0 st 3 (.ptr a 0)=some (i64 k))(h2:binA E0 .eql 3 (i64 k) (i64 4)=some FF)(h3:loadA E0 st 3 (.ptr a 0)=some (i64 k))(h4:binA E0 .eql 3 (i64 k) (i64 6)=some FF)(h5:loadA E0 st 3 (.ptr a 0)=some (i64 k))(h6:binA E0 .eql 3 (i64 k) (i64 7)=some FF)(h7:loadA E0 st 3 (.ptr a 0)=some (i64 k))(h8:binA E0 .eql 3 (i64 k) (i64 8)=some FF){T:Tm}(hT:f21L3 T (.ptr a 0) (str s) (bo b5)):AW Tryz.prog (f21P 3) (fun ex T' st'=>ex= .normal∧f21L4 T' (.ptr a 0) (str s) (bo b5) FF∧st'=st) T st:=by
  obtain ⟨hn,g1,g4,g5⟩:=hT
  exact (gen_run (G:=fun T=>([T.get 1,T.get 4,T.get 5,T.get 6]:List AV)) hE (f21_3_FFFF_e a s b5 st k) (Ob.ok_cons.2 ⟨⟨h1,rfl⟩,(Ob.ok_cons.2 ⟨h2,(Ob.ok_cons.2 ⟨⟨h3,rfl⟩,(Ob.ok_cons.2 ⟨h4,(Ob.ok_cons.2 ⟨⟨h5,rfl⟩,(Ob.ok_cons.2 ⟨h6,(Ob.ok_cons.2 ⟨⟨h7,rfl⟩,(Ob.ok_cons.2 ⟨h8,Ob.ok_nil⟩)⟩)⟩)⟩)⟩)⟩)⟩)⟩) hn (conz g1 (conz g4 (one g5)))).mono fun ex T' st' ⟨q1,q2,q3,q4⟩=>by simp only [List.cons.injEq,and_true] at q3;exact ⟨q1,⟨q2,q3⟩,q4⟩
def f21L5(T:Tm)(a1 a4 a5 a6 a79:AV):Prop:=T.n=118∧T.get 1=a1∧T.get 4=a4∧T.get 5=a5∧T.get 6=a6∧T.get 79=a79
theorem f21_4_T_e(a:Nat)(s:ByteArray)(b5 b6:Bool)(st:St):((evS Tryz.prog E0 noOv noS 100000 [2045,2054,2060,2064,2071,2075,7039,7046,7055,7061,7065,7066,7072,7076,7077] (f21P 4) ⟨118,[(1,(.ptr a 0)),(4,(str s)),(5,(bo b5)),(6,(bo b6))],[]⟩ st [.av TT]).map fun q=>(q.1,q.2.1.n,([q.2.1.get 1,q.2.1.get 4,q.2.1.get 5,q.2.1.get 6,q.2.1.get 79]:List AV),q.2.2.1,q.2.2.2.2))=some (.normal,118,[(.ptr a 0),(str s),(bo b5),(bo b6),TT],st,[binA E0 .eql 9 (str s) (str ⟨#[]⟩)=some TT]):=by kernel_rfl
theorem f21_4_T{a:Nat}{s:ByteArray}{b5 b6:Bool}{st:St}(h1:binA E0 .eql 9 (str s) (str ⟨#[]⟩)=some TT){T:Tm}(hT:f21L4 T (.ptr a 0) (str s) (bo b5) (bo b6)):AW Tryz.prog (f21P 4) (fun ex T' st'=>ex= .normal∧f21L5 T' (.ptr a 0) (str s) (bo b5) (bo b6) TT∧st'=st) T st:=by
  obtain ⟨hn,g1,g4,g5,g6⟩:=hT
  exact (gen_run (G:=fun T=>([T.get 1,T.get 4,T.get 5,T.get 6,T.get 79]:List AV)) hE (f21_4_T_e a s b5 b6 st) (Ob.ok_cons.2 ⟨h1,Ob.ok_nil⟩) hn (conz g1 (conz g4 (conz g5 (one g6))))).mono fun ex T' st' ⟨q1,q2,q3,q4⟩=>by simp only [List.cons.injEq,and_true] at q3;exact ⟨q1,⟨q2,q3⟩,q4⟩
theorem f21_4_FTTTT_e(a:Nat)(s:ByteArray)(st:St)(k n65:Int)(v64:AV):((evS Tryz.prog E0 noOv noS 100000 [2045,2054,2060,2064,2071,2075,7039,7046,7055,7061,7065,7066,7072,7076,7077] (f21P 4) ⟨118,[(1,(.ptr a 0)),(4,(str s)),(5,TT),(6,TT)],[]⟩ st [.av FF,.eff (i64 k) id,.av TT,.eff v64 id,.av (i64 n65),.av TT]).map fun q=>(q.1,q.2.1.n,([q.2.1.get 1,q.2.1.get 4,q.2.1.get 5,q.2.1.get 6,q.2.1.get 79]:List AV),q.2.2.1,q.2.2.2.2))=some (.normal,118,[(.ptr a 0),(str s),TT,TT,TT],st,[binA E0 .eql 9 (str s) (str ⟨#[]⟩)=some FF,loadA E0 st 3 (.ptr a 0)=some (i64 k)∧st=st,binA E0 .neq 3 (i64 k) (i64 2)=some TT,loadA E0 st 51 (.ptr a 3)=some v64∧st=st,lenA E0 51 v64=some (i64 n65),binA E0 .gtr 3 (i64 n65) (i64 0)=some TT]):=by kernel_rfl
theorem f21_4_FTTTT{a:Nat}{s:ByteArray}{st:St}{k n65:Int}{v64:AV}(h1:binA E0 .eql 9 (str s) (str ⟨#[]⟩)=some FF)(h2:loadA E0 st 3 (.ptr a 0)=some (i64 k))(h3:binA E0 .neq 3 (i64 k) (i64 2)=some TT)(h4:loadA E0 st 51 (.ptr a 3)=some v64)(h5:lenA E0 51 v64=some (i64 n65))(h6:binA E0 .gtr 3 (i64 n65) (i64 0)=some TT){T:Tm}(hT:f21L4 T (.ptr a 0) (str s) TT TT):AW Tryz.prog (f21P 4) (fun ex T' st'=>ex= .normal∧f21L5 T' (.ptr a 0) (str s) TT TT TT∧st'=st) T st:=by
  obtain ⟨hn,g1,g4,g5,g6⟩:=hT
  exact (gen_run (G:=fun T=>([T.get 1,T.get 4,T.get 5,T.get 6,T.get 79]:List AV)) hE (f21_4_FTTTT_e a s st k n65 v64) (Ob.ok_cons.2 ⟨h1,(Ob.ok_cons.2 ⟨⟨h2,rfl⟩,(Ob.ok_cons.2 ⟨h3,(Ob.ok_cons.2 ⟨⟨h4,rfl⟩,(Ob.ok_cons.2 ⟨h5,(Ob.ok_cons.2 ⟨h6,Ob.ok_nil⟩)⟩)⟩)⟩)⟩)⟩) hn (conz g1 (conz g4 (conz g5 (one g6))))).mono fun ex T' st' ⟨q1,q2,q3,q4⟩=>by simp only [List.cons.injEq,and_true] at q3;exact ⟨q1,⟨q2,q3⟩,q4⟩
theorem f21_4_FTTTFTT_e(a:Nat)(s:ByteArray)(st:St)(k n65 n76:Int)(v64 v75:AV):((evS Tryz.prog E0 noOv noS 100000 [2045,2054,2060,2064,2071,2075,7039,7046,7055,7061,7065,7066,7072,7076,7077] (f21P 4) ⟨118,[(1,(.ptr a 0)),(4,(str s)),(5,TT),(6,TT)],[]⟩ st [.av FF,.eff (i64 k) id,.av TT,.eff v64 id,.av (i64 n65),.av FF,.eff (i64 k) id,.av TT,.eff v75 id,.av (i64 n76),.av TT]).map fun q=>(q.1,q.2.1.n,([q.2.1.get 1,q.2.1.get 4,q.2.1.get 5,q.2.1.get 6,q.2.1.get 79]:List AV),q.2.2.1,q.2.2.2.2))=some (.normal,118,[(.ptr a 0),(str s),TT,TT,TT],st,[binA E0 .eql 9 (str s) (str ⟨#[]⟩)=some FF,loadA E0 st 3 (.ptr a 0)=some (i64 k)∧st=st,binA E0 .neq 3 (i64 k) (i64 2)=some TT,loadA E0 st 51 (.ptr a 3)=some v64∧st=st,lenA E0 51 v64=some (i64 n65),binA E0 .gtr 3 (i64 n65) (i64 0)=some FF,loadA E0 st 3 (.ptr a 0)=some (i64 k)∧st=st,binA E0 .neq 3 (i64 k) (i64 8)=some TT,loadA E0 st 52 (.ptr a 4)=some v75∧st=st,lenA E0 52 v75=some (i64 n76),binA E0 .gtr 3 (i64 n76) (i64 0)=some TT]):=by kernel_rfl
theorem f21_4_FTTTFTT{a:Nat}{s:ByteArray}{st:St}{k n65 n76:Int}{v64 v75:AV}(h1:binA E0 .eql 9 (str s) (str ⟨#[]⟩)=some FF)(h2:loadA E0 st 3 (.ptr a 0)=some (i64 k))(h3:binA E0 .neq 3 (i64 k) (i64 2)=some TT)(h4:loadA E0 st 51 (.ptr a 3)=some v64)(h5:lenA E0 51 v64=some (i64 n65))(h6:binA E0 .gtr 3 (i64 n65) (i64 0)=some FF)(h7:loadA E0 st 3 (.ptr a 0)=some (i64 k))(h8:binA E0 .neq 3 (i64 k) (i64 8)=some TT)(h9:loadA E0 st 52 (.ptr a 4)=some v75)(h10:lenA E0 52 v75=some (i64 n76))(h11:binA E0 .gtr 3 (i64 n76) (i64 0)=some TT){T:Tm}(hT:f21L4 T (.ptr a 0) (str s) TT TT):AW Tryz.prog (f21P 4) (fun ex T' st'=>ex= .normal∧f21L5 T' (.ptr a 0) (str s) TT TT TT∧st'=st) T st:=by
  obtain ⟨hn,g1,g4,g5,g6⟩:=hT
  exact (gen_run (G:=fun T=>([T.get 1,T.get 4,T.get 5,T.get 6,T.get 79]:List AV)) hE (f21_4_FTTTFTT_e a s st k n65 n76 v64 v75) (Ob.ok_cons.2 ⟨h1,(Ob.ok_cons.2 ⟨⟨h2,rfl⟩,(Ob.ok_cons.2 ⟨h3,(Ob.ok_cons.2 ⟨⟨h4,rfl⟩,(Ob.ok_cons.2 ⟨h5,(Ob.ok_cons.2 ⟨h6,(Ob.ok_cons.2 ⟨⟨h7,rfl⟩,(Ob.ok_cons.2 ⟨h8,(Ob.ok_cons.2 ⟨⟨h9,rfl⟩,(Ob.ok_cons.2 ⟨h10,(Ob.ok_cons.2 ⟨h11,Ob.ok_nil⟩)⟩)⟩)⟩)⟩)⟩)⟩)⟩)⟩)⟩)⟩) hn (conz g1 (conz g4 (conz g5 (one g6))))).mono fun ex T' st' ⟨q1,q2,q3,q4⟩=>by simp only [List.cons.injEq,and_true] at q3;exact ⟨q1,⟨q2,q3⟩,q4⟩
theorem f21_4_FTTTFTF_e(a:Nat)(s:ByteArray)(st:St)(k n65 n76:Int)(v64 v75:AV):((evS Tryz.prog E0 noOv noS 100000 [2045,2054,2060,2064,2071,2075,7039,7046,7055,7061,7065,7066,7072,7076,7077] (f21P 4) ⟨118,[(1,(.ptr a 0)),(4,(str s)),(5,TT),(6,TT)],[]⟩ st [.av FF,.eff (i64 k) id,.av TT,.eff v64 id,.av (i64 n65),.av FF,.eff (i64 k) id,.av TT,.eff v75 id,.av (i64 n76),.av FF]).map fun q=>(q.1,q.2.1.n,([q.2.1.get 1,q.2.1.get 4,q.2.1.get 5,q.2.1.get 6,q.2.1.get 79]:List AV),q.2.2.1,q.2.2.2.2))=some (.normal,118,[(.ptr a 0),(str s),TT,TT,FF],st,[binA E0 .eql 9 (str s) (str ⟨#[]⟩)=some FF,loadA E0 st 3 (.ptr a 0)=some (i64 k)∧st=st,binA E0 .neq 3 (i64 k) (i64 2)=some TT,loadA E0 st 51 (.ptr a 3)=some v64∧st=st,lenA E0 51 v64=some (i64 n65),binA E0 .gtr 3 (i64 n65) (i64 0)=some FF,loadA E0 st 3 (.ptr a 0)=some (i64 k)∧st=st,binA E0 .neq 3 (i64 k) (i64 8)=some TT,loadA E0 st 52 (.ptr a 4)=some v75∧st=st,lenA E0 52 v75=some (i64 n76),binA E0 .gtr 3 (i64 n76) (i64 0)=some FF]):=by kernel_rfl
theorem f21_4_FTTTFTF{a:Nat}{s:ByteArray}{st:St}{k n65 n76:Int}{v64 v75:AV}(h1:binA E0 .eql 9 (str s) (str ⟨#[]⟩)=some FF)(h2:loadA E0 st 3 (.ptr a 0)=some (i64 k))(h3:binA E0 .neq 3 (i64 k) (i64 2)=some TT)(h4:loadA E0 st 51 (.ptr a 3)=some v64)(h5:lenA E0 51 v64=some (i64 n65))(h6:binA E0 .gtr 3 (i64 n65) (i64 0)=some FF)(h7:loadA E0 st 3 (.ptr a 0)=some (i64 k))(h8:binA E0 .neq 3 (i64 k) (i64 8)=some TT)(h9:loadA E0 st 52 (.ptr a 4)=some v75)(h10:lenA E0 52 v75=some (i64 n76))(h11:binA E0 .gtr 3 (i64 n76) (i64 0)=some FF){T:Tm}(hT:f21L4 T (.ptr a 0) (str s) TT TT):AW Tryz.prog (f21P 4) (fun ex T' st'=>ex= .normal∧f21L5 T' (.ptr a 0) (str s) TT TT FF∧st'=st) T st:=by
  obtain ⟨hn,g1,g4,g5,g6⟩:=hT
  exact (gen_run (G:=fun T=>([T.get 1,T.get 4,T.get 5,T.get 6,T.get 79]:List AV)) hE (f21_4_FTTTFTF_e a s st k n65 n76 v64 v75) (Ob.ok_cons.2 ⟨h1,(Ob.ok_cons.2 ⟨⟨h2,rfl⟩,(Ob.ok_cons.2 ⟨h3,(Ob.ok_cons.2 ⟨⟨h4,rfl⟩,(Ob.ok_cons.2 ⟨h5,(Ob.ok_cons.2 ⟨h6,(Ob.ok_cons.2 ⟨⟨h7,rfl⟩,(Ob.ok_cons.2 ⟨h8,(Ob.ok_cons.2 ⟨⟨h9,rfl⟩,(Ob.ok_cons.2 ⟨h10,(Ob.ok_cons.2 ⟨h11,Ob.ok_nil⟩)⟩)⟩)⟩)⟩)⟩)⟩)⟩)⟩)⟩)⟩) hn (conz g1 (conz g4 (conz g5 (one g6))))).mono fun ex T' st' ⟨q1,q2,q3,q4⟩=>by simp only [List.cons.injEq,and_true] at q3;exact ⟨q1,⟨q2,q3⟩,q4⟩
theorem f21_4_FTTTFF_e(a:Nat)(s:ByteArray)(st:St)(k n65:Int)(v64:AV):((evS Tryz.prog E0 noOv noS 100000 [2045,2054,2060,2064,2071,2075,7039,7046,7055,7061,7065,7066,7072,7076,7077] (f21P 4) ⟨118,[(1,(.ptr a 0)),(4,(str s)),(5,TT),(6,TT)],[]⟩ st [.av FF,.eff (i64 k) id,.av TT,.eff v64 id,.av (i64 n65),.av FF,.eff (i64 k) id,.av FF]).map fun q=>(q.1,q.2.1.n,([q.2.1.get 1,q.2.1.get 4,q.2.1.get 5,q.2.1.get 6,q.2.1.get 79]:List AV),q.2.2.1,q.2.2.2.2))=some (.normal,118,[(.ptr a 0),(str s),TT,TT,FF],st,[binA E0 .eql 9 (str s) (str ⟨#[]⟩)=some FF,loadA E0 st 3 (.ptr a 0)=some (i64 k)∧st=st,binA E0 .neq 3 (i64 k) (i64 2)=some TT,loadA E0 st 51 (.ptr a 3)=some v64∧st=st,lenA E0 51 v64=some (i64 n65),binA E0 .gtr 3 (i64 n65) (i64 0)=some FF,loadA E0 st 3 (.ptr a 0)=some (i64 k)∧st=st,binA E0 .neq 3 (i64 k) (i64 8)=some FF]):=by kernel_rfl
theorem f21_4_FTTTFF{a:Nat}{s:ByteArray}{st:St}{k n65:Int}{v64:AV}(h1:binA E0 .eql 9 (str s) (str ⟨#[]⟩)=some FF)(h2:loadA E0 st 3 (.ptr a 0)=some (i64 k))(h3:binA E0 .neq 3 (i64 k) (i64 2)=some TT)(h4:loadA E0 st 51 (.ptr a 3)=some v64)(h5:lenA E0 51 v64=some (i64 n65))(h6:binA E0 .gtr 3 (i64 n65) (i64 0)=some FF)(h7:loadA E0 st 3 (.ptr a 0)=some (i64 k))(h8:binA E0 .neq 3 (i64 k) (i64 8)=some FF){T:Tm}(hT:f21L4 T (.ptr a 0) (str s) TT TT):AW Tryz.prog (f21P 4) (fun ex T' st'=>ex= .normal∧f21L5 T' (.ptr a 0) (str s) TT TT FF∧st'=st) T st:=by
  obtain ⟨hn,g1,g4,g5,g6⟩:=hT
  exact (gen_run (G:=fun T=>([T.get 1,T.get 4,T.get 5,T.get 6,T.get 79]:List AV)) hE (f21_4_FTTTFF_e a s st k n65 v64) (Ob.ok_cons.2 ⟨h1,(Ob.ok_cons.2 ⟨⟨h2,rfl⟩,(Ob.ok_cons.2 ⟨h3,(Ob.ok_cons.2 ⟨⟨h4,rfl⟩,(Ob.ok_cons.2 ⟨h5,(Ob.ok_cons.2 ⟨h6,(Ob.ok_cons.2 ⟨⟨h7,rfl⟩,(Ob.ok_cons.2 ⟨h8,Ob.ok_nil⟩)⟩)⟩)⟩)⟩)⟩)⟩)⟩) hn (conz g1 (conz g4 (conz g5 (one g6))))).mono fun ex T' st' ⟨q1,q2,q3,q4⟩=>by simp only [List.cons.injEq,and_true] at q3;exact ⟨q1,⟨q2,q3⟩,q4⟩
theorem f21_4_FTTFTT_e(a:Nat)(s:ByteArray)(st:St)(k n76:Int)(v75:AV):((evS Tryz.prog E0 noOv noS 100000 [2045,2054,2060,2064,2071,2075,7039,7046,7055,7061,7065,7066,7072,7076,7077] (f21P 4) ⟨118,[(1,(.ptr a 0)),(4,(str s)),(5,TT),(6,TT)],[]⟩ st [.av FF,.eff (i64 k) id,.av FF,.eff (i64 k) id,.av TT,.eff v75 id,.av (i64 n76),.av TT]).map fun q=>(q.1,q.2.1.n,([q.2.1.get 1,q.2.1.get 4,q.2.1.get 5,q.2.1.get 6,q.2.1.get 79]:List AV),q.2.2.1,q.2.2.2.2))=some (.normal,118,[(.ptr a 0),(str s),TT,TT,TT],st,[binA E0 .eql 9 (str s) (str ⟨#[]⟩)=some FF,loadA E0 st 3 (.ptr a 0)=some (i64 k)∧st=st,binA E0 .neq 3 (i64 k) (i64 2)=some FF,loadA E0 st 3 (.ptr a 0)=some (i64 k)∧st=st,binA E0 .neq 3 (i64 k) (i64 8)=some TT,loadA E0 st 52 (.ptr a 4)=some v75∧st=st,lenA E0 52 v75=some (i64 n76),binA E0 .gtr 3 (i64 n76) (i64 0)=some TT]):=by kernel_rfl
theorem f21_4_FTTFTT{a:Nat}{s:ByteArray}{st:St}{k n76:Int}{v75:AV}(h1:binA E0 .eql 9 (str s) (str ⟨#[]⟩)=some FF)(h2:loadA E0 st 3 (.ptr a 0)=some (i64 k))(h3:binA E0 .neq 3 (i64 k) (i64 2)=some FF)(h4:loadA E0 st 3 (.ptr a 0)=some (i64 k))(h5:binA E0 .neq 3 (i64 k) (i64 8)=some TT)(h6:loadA E0 st 52 (.ptr a 4)=some v75)(h7:lenA E0 52 v75=some (i64 n76))(h8:binA E0 .gtr 3 (i64 n76) (i64 0)=some TT){T:Tm}(hT:f21L4 T (.ptr a 0) (str s) TT TT):AW Tryz.prog (f21P 4) (fun ex T' st'=>ex= .normal∧f21L5 T' (.ptr a 0) (str s) TT TT TT∧st'=st) T st:=by
  obtain ⟨hn,g1,g4,g5,g6⟩:=hT
  exact (gen_run (G:=fun T=>([T.get 1,T.get 4,T.get 5,T.get 6,T.get 79]:List AV)) hE (f21_4_FTTFTT_e a s st k n76 v75) (Ob.ok_cons.2 ⟨h1,(Ob.ok_cons.2 ⟨⟨h2,rfl⟩,(Ob.ok_cons.2 ⟨h3,(Ob.ok_cons.2 ⟨⟨h4,rfl⟩,(Ob.ok_cons.2 ⟨h5,(Ob.ok_cons.2 ⟨⟨h6,rfl⟩,(Ob.ok_cons.2 ⟨h7,(Ob.ok_cons.2 ⟨h8,Ob.ok_nil⟩)⟩)⟩)⟩)⟩)⟩)⟩)⟩) hn (conz g1 (conz g4 (conz g5 (one g6))))).mono fun ex T' st' ⟨q1,q2,q3,q4⟩=>by simp only [List.cons.injEq,and_true] at q3;exact ⟨q1,⟨q2,q3⟩,q4⟩
theorem f21_4_FTTFTF_e(a:Nat)(s:ByteArray)(st:St)(k n76:Int)(v75:AV):((evS Tryz.prog E0 noOv noS 100000 [2045,2054,2060,2064,2071,2075,7039,7046,7055,7061,7065,7066,7072,7076,7077] (f21P 4) ⟨118,[(1,(.ptr a 0)),(4,(str s)),(5,TT),(6,TT)],[]⟩ st [.av FF,.eff (i64 k) id,.av FF,.eff (i64 k) id,.av TT,.eff v75 id,.av (i64 n76),.av FF]).map fun q=>(q.1,q.2.1.n,([q.2.1.get 1,q.2.1.get 4,q.2.1.get 5,q.2.1.get 6,q.2.1.get 79]:List AV),q.2.2.1,q.2.2.2.2))=some (.normal,118,[(.ptr a 0),(str s),TT,TT,FF],st,[binA E0 .eql 9 (str s) (str ⟨#[]⟩)=some FF,loadA E0 st 3 (.ptr a 0)=some (i64 k)∧st=st,binA E0 .neq 3 (i64 k) (i64 2)=some FF,loadA E0 st 3 (.ptr a 0)=some (i64 k)∧st=st,binA E0 .neq 3 (i64 k) (i64 8)=some TT,loadA E0 st 52 (.ptr a 4)=some v75∧st=st,lenA E0 52 v75=some (i64 n76),binA E0 .gtr 3 (i64 n76) (i64 0)=some FF]):=by kernel_rfl
theorem f21_4_FTTFTF{a:Nat}{s:ByteArray}{st:St}{k n76:Int}{v75:AV}(h1:binA E0 .eql 9 (str s) (str ⟨#[]⟩)=some FF)(h2:loadA E0 st 3 (.ptr a 0)=some (i64 k))(h3:binA E0 .neq 3 (i64 k) (i64 2)=some FF)(h4:loadA E0 st 3 (.ptr a 0)=some (i64 k))(h5:binA E0 .neq 3 (i64 k) (i64 8)=some TT)(h6:loadA E0 st 52 (.ptr a 4)=some v75)(h7:lenA E0 52 v75=some (i64 n76))(h8:binA E0 .gtr 3 (i64 n76) (i64 0)=some FF){T:Tm}(hT:f21L4 T (.ptr a 0) (str s) TT TT):AW Tryz.prog (f21P 4) (fun ex T' st'=>ex= .normal∧f21L5 T' (.ptr a 0) (str s) TT TT FF∧st'=st) T st:=by
  obtain ⟨hn,g1,g4,g5,g6⟩:=hT
  exact (gen_run (G:=fun T=>([T.get 1,T.get 4,T.get 5,T.get 6,T.get 79]:List AV)) hE (f21_4_FTTFTF_e a s st k n76 v75) (Ob.ok_cons.2 ⟨h1,(Ob.ok_cons.2 ⟨⟨h2,rfl⟩,(Ob.ok_cons.2 ⟨h3,(Ob.ok_cons.2 ⟨⟨h4,rfl⟩,(Ob.ok_cons.2 ⟨h5,(Ob.ok_cons.2 ⟨⟨h6,rfl⟩,(Ob.ok_cons.2 ⟨h7,(Ob.ok_cons.2 ⟨h8,Ob.ok_nil⟩)⟩)⟩)⟩)⟩)⟩)⟩)⟩) hn (conz g1 (conz g4 (conz g5 (one g6))))).mono fun ex T' st' ⟨q1,q2,q3,q4⟩=>by simp only [List.cons.injEq,and_true] at q3;exact ⟨q1,⟨q2,q3⟩,q4⟩
theorem f21_4_FTTFF_e(a:Nat)(s:ByteArray)(st:St)(k:Int):((evS Tryz.prog E0 noOv noS 100000 [2045,2054,2060,2064,2071,2075,7039,7046,7055,7061,7065,7066,7072,7076,7077] (f21P 4) ⟨118,[(1,(.ptr a 0)),(4,(str s)),(5,TT),(6,TT)],[]⟩ st [.av FF,.eff (i64 k) id,.av FF,.eff (i64 k) id,.av FF]).map fun q=>(q.1,q.2.1.n,([q.2.1.get 1,q.2.1.get 4,q.2.1.get 5,q.2.1.get 6,q.2.1.get 79]:List AV),q.2.2.1,q.2.2.2.2))=some (.normal,118,[(.ptr a 0),(str s),TT,TT,FF],st,[binA E0 .eql 9 (str s) (str ⟨#[]⟩)=some FF,loadA E0 st 3 (.ptr a 0)=some (i64 k)∧st=st,binA E0 .neq 3 (i64 k) (i64 2)=some FF,loadA E0 st 3 (.ptr a 0)=some (i64 k)∧st=st,binA E0 .neq 3 (i64 k) (i64 8)=some FF]):=by kernel_rfl
theorem f21_4_FTTFF{a:Nat}{s:ByteArray}{st:St}{k:Int}(h1:binA E0 .eql 9 (str s) (str ⟨#[]⟩)=some FF)(h2:loadA E0 st 3 (.ptr a 0)=some (i64 k))(h3:binA E0 .neq 3 (i64 k) (i64 2)=some FF)(h4:loadA E0 st 3 (.ptr a 0)=some (i64 k))(h5:binA E0 .neq 3 (i64 k) (i64 8)=some FF){T:Tm}(hT:f21L4 T (.ptr a 0) (str s) TT TT):AW Tryz.prog (f21P 4) (fun ex T' st'=>ex= .normal∧f21L5 T' (.ptr a 0) (str s) TT TT FF∧st'=st) T st:=by
  obtain ⟨hn,g1,g4,g5,g6⟩:=hT
  exact (gen_run (G:=fun T=>([T.get 1,T.get 4,T.get 5,T.get 6,T.get 79]:List AV)) hE (f21_4_FTTFF_e a s st k) (Ob.ok_cons.2 ⟨h1,(Ob.ok_cons.2 ⟨⟨h2,rfl⟩,(Ob.ok_cons.2 ⟨h3,(Ob.ok_cons.2 ⟨⟨h4,rfl⟩,(Ob.ok_cons.2 ⟨h5,Ob.ok_nil⟩)⟩)⟩)⟩)⟩) hn (conz g1 (conz g4 (conz g5 (one g6))))).mono fun ex T' st' ⟨q1,q2,q3,q4⟩=>by simp only [List.cons.injEq,and_true] at q3;exact ⟨q1,⟨q2,q3⟩,q4⟩
theorem f21_4_FTFT_e(a:Nat)(s:ByteArray)(st:St)(n:Int):((evS Tryz.prog E0 noOv noS 100000 [2045,2054,2060,2064,2071,2075,7039,7046,7055,7061,7065,7066,7072,7076,7077] (f21P 4) ⟨118,[(1,(.ptr a 0)),(4,(str s)),(5,TT),(6,FF)],[]⟩ st [.av FF,.eff (i64 n) id,.av TT]).map fun q=>(q.1,q.2.1.n,([q.2.1.get 1,q.2.1.get 4,q.2.1.get 5,q.2.1.get 6,q.2.1.get 79]:List AV),q.2.2.1,q.2.2.2.2))=some (.normal,118,[(.ptr a 0),(str s),TT,FF,TT],st,[binA E0 .eql 9 (str s) (str ⟨#[]⟩)=some FF,loadA E0 st 3 (.ptr a 2)=some (i64 n)∧st=st,binA E0 .neq 3 (i64 n) (i64 0)=some TT]):=by kernel_rfl
theorem f21_4_FTFT{a:Nat}{s:ByteArray}{st:St}{n:Int}(h1:binA E0 .eql 9 (str s) (str ⟨#[]⟩)=some FF)(h2:loadA E0 st 3 (.ptr a 2)=some (i64 n))(h3:binA E0 .neq 3 (i64 n) (i64 0)=some TT){T:Tm}(hT:f21L4 T (.ptr a 0) (str s) TT FF):AW Tryz.prog (f21P 4) (fun ex T' st'=>ex= .normal∧f21L5 T' (.ptr a 0) (str s) TT FF TT∧st'=st) T st:=by
  obtain ⟨hn,g1,g4,g5,g6⟩:=hT
  exact (gen_run (G:=fun T=>([T.get 1,T.get 4,T.get 5,T.get 6,T.get 79]:List AV)) hE (f21_4_FTFT_e a s st n) (Ob.ok_cons.2 ⟨h1,(Ob.ok_cons.2 ⟨⟨h2,rfl⟩,(Ob.ok_cons.2 ⟨h3,Ob.ok_nil⟩)⟩)⟩) hn (conz g1 (conz g4 (conz g5 (one g6))))).mono fun ex T' st' ⟨q1,q2,q3,q4⟩=>by simp only [List.cons.injEq,and_true] at q3;exact ⟨q1,⟨q2,q3⟩,q4⟩
theorem f21_4_FTFFTT_e(a:Nat)(s:ByteArray)(st:St)(n k n65:Int)(v64:AV):((evS Tryz.prog E0 noOv noS 100000 [2045,2054,2060,2064,2071,2075,7039,7046,7055,7061,7065,7066,7072,7076,7077] (f21P 4) ⟨118,[(1,(.ptr a 0)),(4,(str s)),(5,TT),(6,FF)],[]⟩ st [.av FF,.eff (i64 n) id,.av FF,.eff (i64 k) id,.av TT,.eff v64 id,.av (i64 n65),.av TT]).map fun q=>(q.1,q.2.1.n,([q.2.1.get 1,q.2.1.get 4,q.2.1.get 5,q.2.1.get 6,q.2.1.get 79]:List AV),q.2.2.1,q.2.2.2.2))=some (.normal,118,[(.ptr a 0),(str s),TT,FF,TT],st,[binA E0 .eql 9 (str s) (str ⟨#[]⟩)=some FF,loadA E0 st 3 (.ptr a 2)=some (i64 n)∧st=st,binA E0 .neq 3 (i64 n) (i64 0)=some FF,loadA E0 st 3 (.ptr a 0)=some (i64 k)∧st=st,binA E0 .neq 3 (i64 k) (i64 2)=some TT,loadA E0 st 51 (.ptr a 3)=some v64∧st=st,lenA E0 51 v64=some (i64 n65),binA E0 .gtr 3 (i64 n65) (i64 0)=some TT]):=by kernel_rfl
theorem f21_4_FTFFTT{a:Nat}{s:ByteArray}{st:St}{n k n65:Int}{v64:AV}(h1:binA E0 .eql 9 (str s) (str ⟨#[]⟩)=some FF)(h2:loadA E0 st 3 (.ptr a 2)=some (i64 n))(h3:binA E0 .neq 3 (i64 n) (i64 0)=some FF)(h4:loadA E0 st 3 (.ptr a 0)=some (i64 k))(h5:binA E0 .neq 3 (i64 k) (i64 2)=some TT)(h6:loadA E0 st 51 (.ptr a 3)=some v64)(h7:lenA E0 51 v64=some (i64 n65))(h8:binA E0 .gtr 3 (i64 n65) (i64 0)=some TT){T:Tm}(hT:f21L4 T (.ptr a 0) (str s) TT FF):AW Tryz.prog (f21P 4) (fun ex T' st'=>ex= .normal∧f21L5 T' (.ptr a 0) (str s) TT FF TT∧st'=st) T st:=by
  obtain ⟨hn,g1,g4,g5,g6⟩:=hT
  exact (gen_run (G:=fun T=>([T.get 1,T.get 4,T.get 5,T.get 6,T.get 79]:List AV)) hE (f21_4_FTFFTT_e a s st n k n65 v64) (Ob.ok_cons.2 ⟨h1,(Ob.ok_cons.2 ⟨⟨h2,rfl⟩,(Ob.ok_cons.2 ⟨h3,(Ob.ok_cons.2 ⟨⟨h4,rfl⟩,(Ob.ok_cons.2 ⟨h5,(Ob.ok_cons.2 ⟨⟨h6,rfl⟩,(Ob.ok_cons.2 ⟨h7,(Ob.ok_cons.2 ⟨h8,Ob.ok_nil⟩)⟩)⟩)⟩)⟩)⟩)⟩)⟩) hn (conz g1 (conz g4 (conz g5 (one g6))))).mono fun ex T' st' ⟨q1,q2,q3,q4⟩=>by simp only [List.cons.injEq,and_true] at q3;exact ⟨q1,⟨q2,q3⟩,q4⟩
theorem f21_4_FTFFTFTT_e(a:Nat)(s:ByteArray)(st:St)(n k n65 n76:Int)(v64 v75:AV):((evS Tryz.prog E0 noOv noS 100000 [2045,2054,2060,2064,2071,2075,7039,7046,7055,7061,7065,7066,7072,7076,7077] (f21P 4) ⟨118,[(1,(.ptr a 0)),(4,(str s)),(5,TT),(6,FF)],[]⟩ st [.av FF,.eff (i64 n) id,.av FF,.eff (i64 k) id,.av TT,.eff v64 id,.av (i64 n65),.av FF,.eff (i64 k) id,.av TT,.eff v75 id,.av (i64 n76),.av TT]).map fun q=>(q.1,q.2.1.n,([q.2.1.get 1,q.2.1.get 4,q.2.1.get 5,q.2.1.get 6,q.2.1.get 79]:List AV),q.2.2.1,q.2.2.2.2))=some (.normal,118,[(.ptr a 0),(str s),TT,FF,TT],st,[binA E0 .eql 9 (str s) (str ⟨#[]⟩)=some FF,loadA E0 st 3 (.ptr a 2)=some (i64 n)∧st=st,binA E0 .neq 3 (i64 n) (i64 0)=some FF,loadA E0 st 3 (.ptr a 0)=some (i64 k)∧st=st,binA E0 .neq 3 (i64 k) (i64 2)=some TT,loadA E0 st 51 (.ptr a 3)=some v64∧st=st,lenA E0 51 v64=some (i64 n65),binA E0 .gtr 3 (i64 n65) (i64 0)=some FF,loadA E0 st 3 (.ptr a 0)=some (i64 k)∧st=st,binA E0 .neq 3 (i64 k) (i64 8)=some TT,loadA E0 st 52 (.ptr a 4)=some v75∧st=st,lenA E0 52 v75=some (i64 n76),binA E0 .gtr 3 (i64 n76) (i64 0)=some TT]):=by kernel_rfl
theorem f21_4_FTFFTFTT{a:Nat}{s:ByteArray}{st:St}{n k n65 n76:Int}{v64 v75:AV}(h1:binA E0 .eql 9 (str s) (str ⟨#[]⟩)=some FF)(h2:loadA E0 st 3 (.ptr a 2)=some (i64 n))(h3:binA E0 .neq 3 (i64 n) (i64 0)=some FF)(h4:loadA E0 st 3 (.ptr a 0)=some (i64 k))(h5:binA E0 .neq 3 (i64 k) (i64 2)=some TT)(h6:loadA E0 st 51 (.ptr a 3)=some v64)(h7:lenA E0 51 v64=some (i64 n65))(h8:binA E0 .gtr 3 (i64 n65) (i64 0)=some FF)(h9:loadA E0 st 3 (.ptr a 0)=some (i64 k))(h10:binA E0 .neq 3 (i64 k) (i64 8)=some TT)(h11:loadA E0 st 52 (.ptr a 4)=some v75)(h12:lenA E0 52 v75=some (i64 n76))(h13:binA E0 .gtr 3 (i64 n76) (i64 0)=some TT){T:Tm}(hT:f21L4 T (.ptr a 0) (str s) TT FF):AW Tryz.prog (f21P 4) (fun ex T' st'=>ex= .normal∧f21L5 T' (.ptr a 0) (str s) TT FF TT∧st'=st) T st:=by
  obtain ⟨hn,g1,g4,g5,g6⟩:=hT
  exact (gen_run (G:=fun T=>([T.get 1,T.get 4,T.get 5,T.get 6,T.get 79]:List AV)) hE (f21_4_FTFFTFTT_e a s st n k n65 n76 v64 v75) (Ob.ok_cons.2 ⟨h1,(Ob.ok_cons.2 ⟨⟨h2,rfl⟩,(Ob.ok_cons.2 ⟨h3,(Ob.ok_cons.2 ⟨⟨h4,rfl⟩,(Ob.ok_cons.2 ⟨h5,(Ob.ok_cons.2 ⟨⟨h6,rfl⟩,(Ob.ok_cons.2 ⟨h7,(Ob.ok_cons.2 ⟨h8,(Ob.ok_cons.2 ⟨⟨h9,rfl⟩,(Ob.ok_cons.2 ⟨h10,(Ob.ok_cons.2 ⟨⟨h11,rfl⟩,(Ob.ok_cons.2 ⟨h12,(Ob.ok_cons.2 ⟨h13,Ob.ok_nil⟩)⟩)⟩)⟩)⟩)⟩)⟩)⟩)⟩)⟩)⟩)⟩)⟩) hn (conz g1 (conz g4 (conz g5 (one g6))))).mono fun ex T' st' ⟨q1,q2,q3,q4⟩=>by simp only [List.cons.injEq,and_true] at q3;exact ⟨q1,⟨q2,q3⟩,q4⟩
theorem f21_4_FTFFTFTF_e(a:Nat)(s:ByteArray)(st:St)(n k n65 n76:Int)(v64 v75:AV):((evS Tryz.prog E0 noOv noS 100000 [2045,2054,2060,2064,2071,2075,7039,7046,7055,7061,7065,7066,7072,7076,7077] (f21P 4) ⟨118,[(1,(.ptr a 0)),(4,(str s)),(5,TT),(6,FF)],[]⟩ st [.av FF,.eff (i64 n) id,.av FF,.eff (i64 k) id,.av TT,.eff v64 id,.av (i64 n65),.av FF,.eff (i64 k) id,.av TT,.eff v75 id,.av (i64 n76),.av FF]).map fun q=>(q.1,q.2.1.n,([q.2.1.get 1,q.2.1.get 4,q.2.1.get 5,q.2.1.get 6,q.2.1.get 79]:List AV),q.2.2.1,q.2.2.2.2))=some (.normal,118,[(.ptr a 0),(str s),TT,FF,FF],st,[binA E0 .eql 9 (str s) (str ⟨#[]⟩)=some FF,loadA E0 st 3 (.ptr a 2)=some (i64 n)∧st=st,binA E0 .neq 3 (i64 n) (i64 0)=some FF,loadA E0 st 3 (.ptr a 0)=some (i64 k)∧st=st,binA E0 .neq 3 (i64 k) (i64 2)=some TT,loadA E0 st 51 (.ptr a 3)=some v64∧st=st,lenA E0 51 v64=some (i64 n65),binA E0 .gtr 3 (i64 n65) (i64 0)=some FF,loadA E0 st 3 (.ptr a 0)=some (i64 k)∧st=st,binA E0 .neq 3 (i64 k) (i64 8)=some TT,loadA E0 st 52 (.ptr a 4)=some v75∧st=st,lenA E0 52 v75=some (i64 n76),binA E0 .gtr 3 (i64 n76) (i64 0)=some FF]):=by kernel_rfl
theorem f21_4_FTFFTFTF{a:Nat}{s:ByteArray}{st:St}{n k n65 n76:Int}{v64 v75:AV}(h1:binA E0 .eql 9 (str s) (str ⟨#[]⟩)=some FF)(h2:loadA E0 st 3 (.ptr a 2)=some (i64 n))(h3:binA E0 .neq 3 (i64 n) (i64 0)=some FF)(h4:loadA E0 st 3 (.ptr a 0)=some (i64 k))(h5:binA E0 .neq 3 (i64 k) (i64 2)=some TT)(h6:loadA E0 st 51 (.ptr a 3)=some v64)(h7:lenA E0 51 v64=some (i64 n65))(h8:binA E0 .gtr 3 (i64 n65) (i64 0)=some FF)(h9:loadA E0 st 3 (.ptr a 0)=some (i64 k))(h10:binA E0 .neq 3 (i64 k) (i64 8)=some TT)(h11:loadA E0 st 52 (.ptr a 4)=some v75)(h12:lenA E0 52 v75=some (i64 n76))(h13:binA E0 .gtr 3 (i64 n76) (i64 0)=some FF){T:Tm}(hT:f21L4 T (.ptr a 0) (str s) TT FF):AW Tryz.prog (f21P 4) (fun ex T' st'=>ex= .normal∧f21L5 T' (.ptr a 0) (str s) TT FF FF∧st'=st) T st:=by
  obtain ⟨hn,g1,g4,g5,g6⟩:=hT
  exact (gen_run (G:=fun T=>([T.get 1,T.get 4,T.get 5,T.get 6,T.get 79]:List AV)) hE (f21_4_FTFFTFTF_e a s st n k n65 n76 v64 v75) (Ob.ok_cons.2 ⟨h1,(Ob.ok_cons.2 ⟨⟨h2,rfl⟩,(Ob.ok_cons.2 ⟨h3,(Ob.ok_cons.2 ⟨⟨h4,rfl⟩,(Ob.ok_cons.2 ⟨h5,(Ob.ok_cons.2 ⟨⟨h6,rfl⟩,(Ob.ok_cons.2 ⟨h7,(Ob.ok_cons.2 ⟨h8,(Ob.ok_cons.2 ⟨⟨h9,rfl⟩,(Ob.ok_cons.2 ⟨h10,(Ob.ok_cons.2 ⟨⟨h11,rfl⟩,(Ob.ok_cons.2 ⟨h12,(Ob.ok_cons.2 ⟨h13,Ob.ok_nil⟩)⟩)⟩)⟩)⟩)⟩)⟩)⟩)⟩)⟩)⟩)⟩)⟩) hn (conz g1 (conz g4 (conz g5 (one g6))))).mono fun ex T' st' ⟨q1,q2,q3,q4⟩=>by simp only [List.cons.injEq,and_true] at q3;exact ⟨q1,⟨q2,q3⟩,q4⟩
theorem f21_4_FTFFTFF_e(a:Nat)(s:ByteArray)(st:St)(n k n65:Int)(v64:AV):((evS Tryz.prog E0 noOv noS 100000 [2045,2054,2060,2064,2071,2075,7039,7046,7055,7061,7065,7066,7072,7076,7077] (f21P 4) ⟨118,[(1,(.ptr a 0)),(4,(str s)),(5,TT),(6,FF)],[]⟩ st [.av FF,.eff (i64 n) id,.av FF,.eff (i64 k) id,.av TT,.eff v64 id,.av (i64 n65),.av FF,.eff (i64 k) id,.av FF]).map fun q=>(q.1,q.2.1.n,([q.2.1.get 1,q.2.1.get 4,q.2.1.get 5,q.2.1.get 6,q.2.1.get 79]:List AV),q.2.2.1,q.2.2.2.2))=some (.normal,118,[(.ptr a 0),(str s),TT,FF,FF],st,[binA E0 .eql 9 (str s) (str ⟨#[]⟩)=some FF,loadA E0 st 3 (.ptr a 2)=some (i64 n)∧st=st,binA E0 .neq 3 (i64 n) (i64 0)=some FF,loadA E0 st 3 (.ptr a 0)=some (i64 k)∧st=st,binA E0 .neq 3 (i64 k) (i64 2)=some TT,loadA E0 st 51 (.ptr a 3)=some v64∧st=st,lenA E0 51 v64=some (i64 n65),binA E0 .gtr 3 (i64 n65) (i64 0)=some FF,loadA E0 st 3 (.ptr a 0)=some (i64 k)∧st=st,binA E0 .neq 3 (i64 k) (i64 8)=some FF]):=by kernel_rfl
theorem f21_4_FTFFTFF{a:Nat}{s:ByteArray}{st:St}{n k n65:Int}{v64:AV}(h1:binA E0 .eql 9 (str s) (str ⟨#[]⟩)=some FF)(h2:loadA E0 st 3 (.ptr a 2)=some (i64 n))(h3:binA E0 .neq 3 (i64 n) (i64 0)=some FF)(h4:loadA E0 st 3 (.ptr a 0)=some (i64 k))(h5:binA E0 .neq 3 (i64 k) (i64 2)=some TT)(h6:loadA E0 st 51 (.ptr a 3)=some v64)(h7:lenA E0 51 v64=some (i64 n65))(h8:binA E0 .gtr 3 (i64 n65) (i64 0)=some FF)(h9:loadA E0 st 3 (.ptr a 0)=some (i64 k))(h10:binA E0 .neq 3 (i64 k) (i64 8)=some FF){T:Tm}(hT:f21L4 T (.ptr a 0) (str s) TT FF):AW Tryz.prog (f21P 4) (fun ex T' st'=>ex= .normal∧f21L5 T' (.ptr a 0) (str s) TT FF FF∧st'=st) T st:=by
  obtain ⟨hn,g1,g4,g5,g6⟩:=hT
  exact (gen_run (G:=fun T=>([T.get 1,T.get 4,T.get 5,T.get 6,T.get 79]:List AV)) hE (f21_4_FTFFTFF_e a s st n k n65 v64) (Ob.ok_cons.2 ⟨h1,(Ob.ok_cons.2 ⟨⟨h2,rfl⟩,(Ob.ok_cons.2 ⟨h3,(Ob.ok_cons.2 ⟨⟨h4,rfl⟩,(Ob.ok_cons.2 ⟨h5,(Ob.ok_cons.2 ⟨⟨h6,rfl⟩,(Ob.ok_cons.2 ⟨h7,(Ob.ok_cons.2 ⟨h8,(Ob.ok_cons.2 ⟨⟨h9,rfl⟩,(Ob.ok_cons.2 ⟨h10,Ob.ok_nil⟩)⟩)⟩)⟩)⟩)⟩)⟩)⟩)⟩)⟩) hn (conz g1 (conz g4 (conz g5 (one g6))))).mono fun ex T' st' ⟨q1,q2,q3,q4⟩=>by simp only [List.cons.injEq,and_true] at q3;exact ⟨q1,⟨q2,q3⟩,q4⟩
theorem f21_4_FTFFFTT_e(a:Nat)(s:ByteArray)(st:St)(n k n76:Int)(v75:AV):((evS Tryz.prog E0 noOv noS 100000 [2045,2054,2060,2064,2071,2075,7039,7046,7055,7061,7065,7066,7072,7076,7077] (f21P 4) ⟨118,[(1,(.ptr a 0)),(4,(str s)),(5,TT),(6,FF)],[]⟩ st [.av FF,.eff (i64 n) id,.av FF,.eff (i64 k) id,.av FF,.eff (i64 k) id,.av TT,.eff v75 id,.av (i64 n76),.av TT]).map fun q=>(q.1,q.2.1.n,([q.2.1.get 1,q.2.1.get 4,q.2.1.get 5,q.2.1.get 6,q.2.1.get 79]:List AV),q.2.2.1,q.2.2.2.2))=some (.normal,118,[(.ptr a 0),(str s),TT,FF,TT],st,[binA E0 .eql 9 (str s) (str ⟨#[]⟩)=some FF,loadA E0 st 3 (.ptr a 2)=some (i64 n)∧st=st,binA E0 .neq 3 (i64 n) (i64 0)=some FF,loadA E0 st 3 (.ptr a 0)=some (i64 k)∧st=st,binA E0 .neq 3 (i64 k) (i64 2)=some FF,loadA E0 st 3 (.ptr a 0)=some (i64 k)∧st=st,binA E0 .neq 3 (i64 k) (i64 8)=some TT,loadA E0 st 52 (.ptr a 4)=some v75∧st=st,lenA E0 52 v75=some (i64 n76),binA E0 .gtr 3 (i64 n76) (i64 0)=some TT]):=by kernel_rfl
theorem f21_4_FTFFFTT{a:Nat}{s:ByteArray}{st:St}{n k n76:Int}{v75:AV}(h1:binA E0 .eql 9 (str s) (str ⟨#[]⟩)=some FF)(h2:loadA E0 st 3 (.ptr a 2)=some (i64 n))(h3:binA E0 .neq 3 (i64 n) (i64 0)=some FF)(h4:loadA E0 st 3 (.ptr a 0)=some (i64 k))(h5:binA E0 .neq 3 (i64 k) (i64 2)=some FF)(h6:loadA E0 st 3 (.ptr a 0)=some (i64 k))(h7:binA E0 .neq 3 (i64 k) (i64 8)=some TT)(h8:loadA E0 st 52 (.ptr a 4)=some v75)(h9:lenA E0 52 v75=some (i64 n76))(h10:binA E0 .gtr 3 (i64 n76) (i64 0)=some TT){T:Tm}(hT:f21L4 T (.ptr a 0) (str s) TT FF):AW Tryz.prog (f21P 4) (fun ex T' st'=>ex= .normal∧f21L5 T' (.ptr a 0) (str s) TT FF TT∧st'=st) T st:=by
  obtain ⟨hn,g1,g4,g5,g6⟩:=hT
  exact (gen_run (G:=fun T=>([T.get 1,T.get 4,T.get 5,T.get 6,T.get 79]:List AV)) hE (f21_4_FTFFFTT_e a s st n k n76 v75) (Ob.ok_cons.2 ⟨h1,(Ob.ok_cons.2 ⟨⟨h2,rfl⟩,(Ob.ok_cons.2 ⟨h3,(Ob.ok_cons.2 ⟨⟨h4,rfl⟩,(Ob.ok_cons.2 ⟨h5,(Ob.ok_cons.2 ⟨⟨h6,rfl⟩,(Ob.ok_cons.2 ⟨h7,(Ob.ok_cons.2 ⟨⟨h8,rfl⟩,(Ob.ok_cons.2 ⟨h9,(Ob.ok_cons.2 ⟨h10,Ob.ok_nil⟩)⟩)⟩)⟩)⟩)⟩)⟩)⟩)⟩)⟩) hn (conz g1 (conz g4 (conz g5 (one g6))))).mono fun ex T' st' ⟨q1,q2,q3,q4⟩=>by simp only [List.cons.injEq,and_true] at q3;exact ⟨q1,⟨q2,q3⟩,q4⟩
theorem f21_4_FTFFFTF_e(a:Nat)(s:ByteArray)(st:St)(n k n76:Int)(v75:AV):((evS Tryz.prog E0 noOv noS 100000 [2045,2054,2060,2064,2071,2075,7039,7046,7055,7061,7065,7066,7072,7076,7077] (f21P 4) ⟨118,[(1,(.ptr a 0)),(4,(str s)),(5,TT),(6,FF)],[]⟩ st [.av FF,.eff (i64 n) id,.av FF,.eff (i64 k) id,.av FF,.eff (i64 k) id,.av TT,.eff v75 id,.av (i64 n76),.av FF]).map fun q=>(q.1,q.2.1.n,([q.2.1.get 1,q.2.1.get 4,q.2.1.get 5,q.2.1.get 6,q.2.1.get 79]:List AV),q.2.2.1,q.2.2.2.2))=some (.normal,118,[(.ptr a 0),(str s),TT,FF,FF],st,[binA E0 .eql 9 (str s) (str ⟨#[]⟩)=some FF,loadA E0 st 3 (.ptr a 2)=some (i64 n)∧st=st,binA E0 .neq 3 (i64 n) (i64 0)=some FF,loadA E0 st 3 (.ptr a 0)=some (i64 k)∧st=st,binA E0 .neq 3 (i64 k) (i64 2)=some FF,loadA E0 st 3 (.ptr a 0)=some (i64 k)∧st=st,binA E0 .neq 3 (i64 k) (i64 8)=some TT,loadA E0 st 52 (.ptr a 4)=some v75∧st=st,lenA E0 52 v75=some (i64 n76),binA E0 .gtr 3 (i64 n76) (i64 0)=some FF]):=by kernel_rfl
theorem f21_4_FTFFFTF{a:Nat}{s:ByteArray}{st:St}{n k n76:Int}{v75:AV}(h1:binA E0 .eql 9 (str s) (str ⟨#[]⟩)=some FF)(h2:loadA E0 st 3 (.ptr a 2)=some (i64 n))(h3:binA E0 .neq 3 (i64 n) (i64 0)=some FF)(h4:loadA E0 st 3 (.ptr a 0)=some (i64 k))(h5:binA E0 .neq 3 (i64 k) (i64 2)=some FF)(h6:loadA E0 st 3 (.ptr a 0)=some (i64 k))(h7:binA E0 .neq 3 (i64 k) (i64 8)=some TT)(h8:loadA E0 st 52 (.ptr a 4)=some v75)(h9:lenA E0 52 v75=some (i64 n76))(h10:binA E0 .gtr 3 (i64 n76) (i64 0)=some FF){T:Tm}(hT:f21L4 T (.ptr a 0) (str s) TT FF):AW Tryz.prog (f21P 4) (fun ex T' st'=>ex= .normal∧f21L5 T' (.ptr a 0) (str s) TT FF FF∧st'=st) T st:=by
  obtain ⟨hn,g1,g4,g5,g6⟩:=hT
  exact (gen_run (G:=fun T=>([T.get 1,T.get 4,T.get 5,T.get 6,T.get 79]:List AV)) hE (f21_4_FTFFFTF_e a s st n k n76 v75) (Ob.ok_cons.2 ⟨h1,(Ob.ok_cons.2 ⟨⟨h2,rfl⟩,(Ob.ok_cons.2 ⟨h3,(Ob.ok_cons.2 ⟨⟨h4,rfl⟩,(Ob.ok_cons.2 ⟨h5,(Ob.ok_cons.2 ⟨⟨h6,rfl⟩,(Ob.ok_cons.2 ⟨h7,(Ob.ok_cons.2 ⟨⟨h8,rfl⟩,(Ob.ok_cons.2 ⟨h9,(Ob.ok_cons.2 ⟨h10,Ob.ok_nil⟩)⟩)⟩)⟩)⟩)⟩)⟩)⟩)⟩)⟩) hn (conz g1 (conz g4 (conz g5 (one g6))))).mono fun ex T' st' ⟨q1,q2,q3,q4⟩=>by simp only [List.cons.injEq,and_true] at q3;exact ⟨q1,⟨q2,q3⟩,q4⟩
theorem f21_4_FTFFFF_e(a:Nat)(s:ByteArray)(st:St)(n k:Int):((evS Tryz.prog E0 noOv noS 100000 [2045,2054,2060,2064,2071,2075,7039,7046,7055,7061,7065,7066,7072,7076,7077] (f21P 4) ⟨118,[(1,(.ptr a 0)),(4,(str s)),(5,TT),(6,FF)],[]⟩ st [.av FF,.eff (i64 n) id,.av FF,.eff (i64 k) id,.av FF,.eff (i64 k) id,.av FF]).map fun q=>(q.1,q.2.1.n,([q.2.1.get 1,q.2.1.get 4,q.2.1.get 5,q.2.1.get 6,q.2.1.get 79]:List AV),q.2.2.1,q.2.2.2.2))=some (.normal,118,[(.ptr a 0),(str s),TT,FF,FF],st,[binA E0 .eql 9 (str s) (str ⟨#[]⟩)=some FF,loadA E0 st 3 (.ptr a 2)=some (i64 n)∧st=st,binA E0 .neq 3 (i64 n) (i64 0)=some FF,loadA E0 st 3 (.ptr a 0)=some (i64 k)∧st=st,binA E0 .neq 3 (i64 k) (i64 2)=some FF,loadA E0 st 3 (.ptr a 0)=some (i64 k)∧st=st,binA E0 .neq 3 (i64 k) (i64 8)=some FF]):=by kernel_rfl
theorem f21_4_FTFFFF{a:Nat}{s:ByteArray}{st:St}{n k:Int}(h1:binA E0 .eql 9 (str s) (str ⟨#[]⟩)=some FF)(h2:loadA E0 st 3 (.ptr a 2)=some (i64 n))(h3:binA E0 .neq 3 (i64 n) (i64 0)=some FF)(h4:loadA E0 st 3 (.ptr a 0)=some (i64 k))(h5:binA E0 .neq 3 (i64 k) (i64 2)=some FF)(h6:loadA E0 st 3 (.ptr a 0)=some (i64 k))(h7:binA E0 .neq 3 (i64 k) (i64 8)=some FF){T:Tm}(hT:f21L4 T (.ptr a 0) (str s) TT FF):AW Tryz.prog (f21P 4) (fun ex T' st'=>ex= .normal∧f21L5 T' (.ptr a 0) (str s) TT FF FF∧st'=st) T st:=by
  obtain ⟨hn,g1,g4,g5,g6⟩:=hT
  exact (gen_run (G:=fun T=>([T.get 1,T.get 4,T.get 5,T.get 6,T.get 79]:List AV)) hE (f21_4_FTFFFF_e a s st n k) (Ob.ok_cons.2 ⟨h1,(Ob.ok_cons.2 ⟨⟨h2,rfl⟩,(Ob.ok_cons.2 ⟨h3,(Ob.ok_cons.2 ⟨⟨h4,rfl⟩,(Ob.ok_cons.2 ⟨h5,(Ob.ok_cons.2 ⟨⟨h6,rfl⟩,(Ob.ok_cons.2 ⟨h7,Ob.ok_nil⟩)⟩)⟩)⟩)⟩)⟩)⟩) hn (conz g1 (conz g4 (conz g5 (one g6))))).mono fun ex T' st' ⟨q1,q2,q3,q4⟩=>by simp only [List.cons.injEq,and_true] at q3;exact ⟨q1,⟨q2,q3⟩,q4⟩
theorem f21_4_FFT_e(a:Nat)(s:ByteArray)(b6:Bool)(st:St)(c:Int):((evS Tryz.prog E0 noOv noS 100000 [2045,2054,2060,2064,2071,2075,7039,7046,7055,7061,7065,7066,7072,7076,7077] (f21P 4) ⟨118,[(1,(.ptr a 0)),(4,(str s)),(5,FF),(6,(bo b6))],[]⟩ st [.av FF,.eff (i64 c) id,.av TT]).map fun q=>(q.1,q.2.1.n,([q.2.1.get 1,q.2.1.get 4,q.2.1.get 5,q.2.1.get 6,q.2.1.get 79]:List AV),q.2.2.1,q.2.2.2.2))=some (.normal,118,[(.ptr a 0),(str s),FF,(bo b6),TT],st,[binA E0 .eql 9 (str s) (str ⟨#[]⟩)=some FF,loadA E0 st 3 (.ptr a 1)=some (i64 c)∧st=st,binA E0 .neq 3 (i64 c) (i64 0)=some TT]):=by kernel_rfl
theorem f21_4_FFT{a:Nat}{s:ByteArray}{b6:Bool}{st:St}{c:Int}(h1:binA E0 .eql 9 (str s) (str ⟨#[]⟩)=some FF)(h2:loadA E0 st 3 (.ptr a 1)=some (i64 c))(h3:binA E0 .neq 3 (i64 c) (i64 0)=some TT){T:Tm}(hT:f21L4 T (.ptr a 0) (str s) FF (bo b6)):AW Tryz.prog (f21P 4) (fun ex T' st'=>ex= .normal∧f21L5 T' (.ptr a 0) (str s) FF (bo b6) TT∧st'=st) T st:=by
  obtain ⟨hn,g1,g4,g5,g6⟩:=hT
  exact (gen_run (G:=fun T=>([T.get 1,T.get 4,T.get 5,T.get 6,T.get 79]:List AV)) hE (f21_4_FFT_e a s b6 st c) (Ob.ok_cons.2 ⟨h1,(Ob.ok_cons.2 ⟨⟨h2,rfl⟩,(Ob.ok_cons.2 ⟨h3,Ob.ok_nil⟩)⟩)⟩) hn (conz g1 (conz g4 (conz g5 (one g6))))).mono fun ex T' st' ⟨q1,q2,q3,q4⟩=>by simp only [List.cons.injEq,and_true] at q3;exact ⟨q1,⟨q2,q3⟩,q4⟩
theorem f21_4_FFFTTT_e(a:Nat)(s:ByteArray)(st:St)(c k n65:Int)(v64:AV):((evS Tryz.prog E0 noOv noS 100000 [2045,2054,2060,2064,2071,2075,7039,7046,7055,7061,7065,7066,7072,7076,7077] (f21P 4) ⟨118,[(1,(.ptr a 0)),(4,(str s)),(5,FF),(6,TT)],[]⟩ st [.av FF,.eff (i64 c) id,.av FF,.eff (i64 k) id,.av TT,.eff v64 id,.av (i64 n65),.av TT]).map fun q=>(q.1,q.2.1.n,([q.2.1.get 1,q.2.1.get 4,q.2.1.get 5,q.2.1.get 6,q.2.1.get 79]:List AV),q.2.2.1,q.2.2.2.2))=some (.normal,118,[(.ptr a 0),(str s),FF,TT,TT],st,[binA E0 .eql 9 (str s) (str ⟨#[]⟩)=some FF,loadA E0 st 3 (.ptr a 1)=some (i64 c)∧st=st,binA E0 .neq 3 (i64 c) (i64 0)=some FF,loadA E0 st 3 (.ptr a 0)=some (i64 k)∧st=st,binA E0 .neq 3 (i64 k) (i64 2)=some TT,loadA E0 st 51 (.ptr a 3)=some v64∧st=st,lenA E0 51 v64=some (i64 n65),binA E0 .gtr 3 (i64 n65) (i64 0)=some TT]):=by kernel_rfl
theorem f21_4_FFFTTT{a:Nat}{s:ByteArray}{st:St}{c k n65:Int}{v64:AV}(h1:binA E0 .eql 9 (str s) (str ⟨#[]⟩)=some FF)(h2:loadA E0 st 3 (.ptr a 1)=some (i64 c))(h3:binA E0 .neq 3 (i64 c) (i64 0)=some FF)(h4:loadA E0 st 3 (.ptr a 0)=some (i64 k))(h5:binA E0 .neq 3 (i64 k) (i64 2)=some TT)(h6:loadA E0 st 51 (.ptr a 3)=some v64)(h7:lenA E0 51 v64=some (i64 n65))(h8:binA E0 .gtr 3 (i64 n65) (i64 0)=some TT){T:Tm}(hT:f21L4 T (.ptr a 0) (str s) FF TT):AW Tryz.prog (f21P 4) (fun ex T' st'=>ex= .normal∧f21L5 T' (.ptr a 0) (str s) FF TT TT∧st'=st) T st:=by
  obtain ⟨hn,g1,g4,g5,g6⟩:=hT
  exact (gen_run (G:=fun T=>([T.get 1,T.get 4,T.get 5,T.get 6,T.get 79]:List AV)) hE (f21_4_FFFTTT_e a s st c k n65 v64) (Ob.ok_cons.2 ⟨h1,(Ob.ok_cons.2 ⟨⟨h2,rfl⟩,(Ob.ok_cons.2 ⟨h3,(Ob.ok_cons.2 ⟨⟨h4,rfl⟩,(Ob.ok_cons.2 ⟨h5,(Ob.ok_cons.2 ⟨⟨h6,rfl⟩,(Ob.ok_cons.2 ⟨h7,(Ob.ok_cons.2 ⟨h8,Ob.ok_nil⟩)⟩)⟩)⟩)⟩)⟩)⟩)⟩) hn (conz g1 (conz g4 (conz g5 (one g6))))).mono fun ex T' st' ⟨q1,q2,q3,q4⟩=>by simp only [List.cons.injEq,and_true] at q3;exact ⟨q1,⟨q2,q3⟩,q4⟩
theorem f21_4_FFFTTFTT_e(a:Nat)(s:ByteArray)(st:St)(c k n65 n76:Int)(v64 v75:AV):((evS Tryz.prog E0 noOv noS 100000 [2045,2054,2060,2064,2071,2075,7039,7046,7055,7061,7065,7066,7072,7076,7077] (f21P 4) ⟨118,[(1,(.ptr a 0)),(4,(str s)),(5,FF),(6,TT)],[]⟩ st [.av FF,.eff (i64 c) id,.av FF,.eff (i64 k) id,.av TT,.eff v64 id,.av (i64 n65),.av FF,.eff (i64 k) id,.av TT,.eff v75 id,.av (i64 n76),.av TT]).map fun q=>(q.1,q.2.1.n,([q.2.1.get 1,q.2.1.get 4,q.2.1.get 5,q.2.1.get 6,q.2.1.get 79]:List AV),q.2.2.1,q.2.2.2.2))=some (.normal,118,[(.ptr a 0),(str s),FF,TT,TT],st,[binA E0 .eql 9 (str s) (str ⟨#[]⟩)=some FF,loadA E0 st 3 (.ptr a 1)=some (i64 c)∧st=st,binA E0 .neq 3 (i64 c) (i64 0)=some FF,loadA E0 st 3 (.ptr a 0)=some (i64 k)∧st=st,binA E0 .neq 3 (i64 k) (i64 2)=some TT,loadA E0 st 51 (.ptr a 3)=some v64∧st=st,lenA E0 51 v64=some (i64 n65),binA E0 .gtr 3 (i64 n65) (i64 0)=some FF,loadA E0 st 3 (.ptr a 0)=some (i64 k)∧st=st,binA E0 .neq 3 (i64 k) (i64 8)=some TT,loadA E0 st 52 (.ptr a 4)=some v75∧st=st,lenA E0 52 v75=some (i64 n76),binA E0 .gtr 3 (i64 n76) (i64 0)=some TT]):=by kernel_rfl
theorem f21_4_FFFTTFTT{a:Nat}{s:ByteArray}{st:St}{c k n65 n76:Int}{v64 v75:AV}(h1:binA E0 .eql 9 (str s) (str ⟨#[]⟩)=some FF)(h2:loadA E0 st 3 (.ptr a 1)=some (i64 c))(h3:binA E0 .neq 3 (i64 c) (i64 0)=some FF)(h4:loadA E0 st 3 (.ptr a 0)=some (i64 k))(h5:binA E0 .neq 3 (i64 k) (i64 2)=some TT)(h6:loadA E0 st 51 (.ptr a 3)=some v64)(h7:lenA E0 51 v64=some (i64 n65))(h8:binA E0 .gtr 3 (i64 n65) (i64 0)=some FF)(h9:loadA E0 st 3 (.ptr a 0)=some (i64 k))(h10:binA E0 .neq 3 (i64 k) (i64 8)=some TT)(h11:loadA E0 st 52 (.ptr a 4)=some v75)(h12:lenA E0 52 v75=some (i64 n76))(h13:binA E0 .gtr 3 (i64 n76) (i64 0)=some TT){T:Tm}(hT:f21L4 T (.ptr a 0) (str s) FF TT):AW Tryz.prog (f21P 4) (fun ex T' st'=>ex= .normal∧f21L5 T' (.ptr a 0) (str s) FF TT TT∧st'=st) T st:=by
  obtain ⟨hn,g1,g4,g5,g6⟩:=hT
  exact (gen_run (G:=fun T=>([T.get 1,T.get 4,T.get 5,T.get 6,T.get 79]:List AV)) hE (f21_4_FFFTTFTT_e a s st c k n65 n76 v64 v75) (Ob.ok_cons.2 ⟨h1,(Ob.ok_cons.2 ⟨⟨h2,rfl⟩,(Ob.ok_cons.2 ⟨h3,(Ob.ok_cons.2 ⟨⟨h4,rfl⟩,(Ob.ok_cons.2 ⟨h5,(Ob.ok_cons.2 ⟨⟨h6,rfl⟩,(Ob.ok_cons.2 ⟨h7,(Ob.ok_cons.2 ⟨h8,(Ob.ok_cons.2 ⟨⟨h9,rfl⟩,(Ob.ok_cons.2 ⟨h10,(Ob.ok_cons.2 ⟨⟨h11,rfl⟩,(Ob.ok_cons.2 ⟨h12,(Ob.ok_cons.2 ⟨h13,Ob.ok_nil⟩)⟩)⟩)⟩)⟩)⟩)⟩)⟩)⟩)⟩)⟩)⟩)⟩) hn (conz g1 (conz g4 (conz g5 (one g6))))).mono fun ex T' st' ⟨q1,q2,q3,q4⟩=>by simp only [List.cons.injEq,and_true] at q3;exact ⟨q1,⟨q2,q3⟩,q4⟩
theorem f21_4_FFFTTFTF_e(a:Nat)(s:ByteArray)(st:St)(c k n65 n76:Int)(v64 v75:AV):((evS Tryz.prog E0 noOv noS 100000 [2045,2054,2060,2064,2071,2075,7039,7046,7055,7061,7065,7066,7072,7076,7077] (f21P 4) ⟨118,[(1,(.ptr a 0)),(4,(str s)),(5,FF),(6,TT)],[]⟩ st [.av FF,.eff (i64 c) id,.av FF,.eff (i64 k) id,.av TT,.eff v64 id,.av (i64 n65),.av FF,.eff (i64 k) id,.av TT,.eff v75 id,.av (i64 n76),.av FF]).map fun q=>(q.1,q.2.1.n,([q.2.1.get 1,q.2.1.get 4,q.2.1.get 5,q.2.1.get 6,q.2.1.get 79]:List AV),q.2.2.1,q.2.2.2.2))=some (.normal,118,[(.ptr a 0),(str s),FF,TT,FF],st,[binA E0 .eql 9 (str s) (str ⟨#[]⟩)=some FF,loadA E0 st 3 (.ptr a 1)=some (i64 c)∧st=st,binA E0 .neq 3 (i64 c) (i64 0)=some FF,loadA E0 st 3 (.ptr a 0)=some (i64 k)∧st=st,binA E0 .neq 3 (i64 k) (i64 2)=some TT,loadA E0 st 51 (.ptr a 3)=some v64∧st=st,lenA E0 51 v64=some (i64 n65),binA E0 .gtr 3 (i64 n65) (i64 0)=some FF,loadA E0 st 3 (.ptr a 0)=some (i64 k)∧st=st,binA E0 .neq 3 (i64 k) (i64 8)=some TT,loadA E0 st 52 (.ptr a 4)=some v75∧st=st,lenA E0 52 v75=some (i64 n76),binA E0 .gtr 3 (i64 n76) (i64 0)=some FF]):=by kernel_rfl
theorem f21_4_FFFTTFTF{a:Nat}{s:ByteArray}{st:St}{c k n65 n76:Int}{v64 v75:AV}(h1:binA E0 .eql 9 (str s) (str ⟨#[]⟩)=some FF)(h2:loadA E0 st 3 (.ptr a 1)=some (i64 c))(h3:binA E0 .neq 3 (i64 c) (i64 0)=some FF)(h4:loadA E0 st 3 (.ptr a 0)=some (i64 k))(h5:binA E0 .neq 3 (i64 k) (i64 2)=some TT)(h6:loadA E0 st 51 (.ptr a 3)=some v64)(h7:lenA E0 51 v64=some (i64 n65))(h8:binA E0 .gtr 3 (i64 n65) (i64 0)=some FF)(h9:loadA E0 st 3 (.ptr a 0)=some (i64 k))(h10:binA E0 .neq 3 (i64 k) (i64 8)=some TT)(h11:loadA E0 st 52 (.ptr a 4)=some v75)(h12:lenA E0 52 v75=some (i64 n76))(h13:binA E0 .gtr 3 (i64 n76) (i64 0)=some FF){T:Tm}(hT:f21L4 T (.ptr a 0) (str s) FF TT):AW Tryz.prog (f21P 4) (fun ex T' st'=>ex= .normal∧f21L5 T' (.ptr a 0) (str s) FF TT FF∧st'=st) T st:=by
  obtain ⟨hn,g1,g4,g5,g6⟩:=hT
  exact (gen_run (G:=fun T=>([T.get 1,T.get 4,T.get 5,T.get 6,T.get 79]:List AV)) hE (f21_4_FFFTTFTF_e a s st c k n65 n76 v64 v75) (Ob.ok_cons.2 ⟨h1,(Ob.ok_cons.2 ⟨⟨h2,rfl⟩,(Ob.ok_cons.2 ⟨h3,(Ob.ok_cons.2 ⟨⟨h4,rfl⟩,(Ob.ok_cons.2 ⟨h5,(Ob.ok_cons.2 ⟨⟨h6,rfl⟩,(Ob.ok_cons.2 ⟨h7,(Ob.ok_cons.2 ⟨h8,(Ob.ok_cons.2 ⟨⟨h9,rfl⟩,(Ob.ok_cons.2 ⟨h10,(Ob.ok_cons.2 ⟨⟨h11,rfl⟩,(Ob.ok_cons.2 ⟨h12,(Ob.ok_cons.2 ⟨h13,Ob.ok_nil⟩)⟩)⟩)⟩)⟩)⟩)⟩)⟩)⟩)⟩)⟩)⟩)⟩) hn (conz g1 (conz g4 (conz g5 (one g6))))).mono fun ex T' st' ⟨q1,q2,q3,q4⟩=>by simp only [List.cons.injEq,and_true] at q3;exact ⟨q1,⟨q2,q3⟩,q4⟩
theorem f21_4_FFFTTFF_e(a:Nat)(s:ByteArray)(st:St)(c k n65:Int)(v64:AV):((evS Tryz.prog E0 noOv noS 100000 [2045,2054,2060,2064,2071,2075,7039,7046,7055,7061,7065,7066,7072,7076,7077] (f21P 4) ⟨118,[(1,(.ptr a 0)),(4,(str s)),(5,FF),(6,TT)],[]⟩ st [.av FF,.eff (i64 c) id,.av FF,.eff (i64 k) id,.av TT,.eff v64 id,.av (i64 n65),.av FF,.eff (i64 k) id,.av FF]).map fun q=>(q.1,q.2.1.n,([q.2.1.get 1,q.2.1.get 4,q.2.1.get 5,q.2.1.get 6,q.2.1.get 79]:List AV),q.2.2.1,q.2.2.2.2))=some (.normal,118,[(.ptr a 0),(str s),FF,TT,FF],st,[binA E0 .eql 9 (str s) (str ⟨#[]⟩)=some FF,loadA E0 st 3 (.ptr a 1)=some (i64 c)∧st=st,binA E0 .neq 3 (i64 c) (i64 0)=some FF,loadA E0 st 3 (.ptr a 0)=some (i64 k)∧st=st,binA E0 .neq 3 (i64 k) (i64 2)=some TT,loadA E0 st 51 (.ptr a 3)=some v64∧st=st,lenA E0 51 v64=some (i64 n65),binA E0 .gtr 3 (i64 n65) (i64 0)=some FF,loadA E0 st 3 (.ptr a 0)=some (i64 k)∧st=st,binA E0 .neq 3 (i64 k) (i64 8)=some FF]):=by kernel_rfl
theorem f21_4_FFFTTFF{a:Nat}{s:ByteArray}{st:St}{c k n65:Int}{v64:AV}(h1:binA E0 .eql 9 (str s) (str ⟨#[]⟩)=some FF)(h2:loadA E0 st 3 (.ptr a 1)=some (i64 c))(h3:binA E0 .neq 3 (i64 c) (i64 0)=some FF)(h4:loadA E0 st 3 (.ptr a 0)=some (i64 k))(h5:binA E0 .neq 3 (i64 k) (i64 2)=some TT)(h6:loadA E0 st 51 (.ptr a 3)=some v64)(h7:lenA E0 51 v64=some (i64 n65))(h8:binA E0 .gtr 3 (i64 n65) (i64 0)=some FF)(h9:loadA E0 st 3 (.ptr a 0)=some (i64 k))(h10:binA E0 .neq 3 (i64 k) (i64 8)=some FF){T:Tm}(hT:f21L4 T (.ptr a 0) (str s) FF TT):AW Tryz.prog (f21P 4) (fun ex T' st'=>ex= .normal∧f21L5 T' (.ptr a 0) (str s) FF TT FF∧st'=st) T st:=by
  obtain ⟨hn,g1,g4,g5,g6⟩:=hT
  exact (gen_run (G:=fun T=>([T.get 1,T.get 4,T.get 5,T.get 6,T.get 79]:List AV)) hE (f21_4_FFFTTFF_e a s st c k n65 v64) (Ob.ok_cons.2 ⟨h1,(Ob.ok_cons.2 ⟨⟨h2,rfl⟩,(Ob.ok_cons.2 ⟨h3,(Ob.ok_cons.2 ⟨⟨h4,rfl⟩,(Ob.ok_cons.2 ⟨h5,(Ob.ok_cons.2 ⟨⟨h6,rfl⟩,(Ob.ok_cons.2 ⟨h7,(Ob.ok_cons.2 ⟨h8,(Ob.ok_cons.2 ⟨⟨h9,rfl⟩,(Ob.ok_cons.2 ⟨h10,Ob.ok_nil⟩)⟩)⟩)⟩)⟩)⟩)⟩)⟩)⟩)⟩) hn (conz g1 (conz g4 (conz g5 (one g6))))).mono fun ex T' st' ⟨q1,q2,q3,q4⟩=>by simp only [List.cons.injEq,and_true] at q3;exact ⟨q1,⟨q2,q3⟩,q4⟩
theorem f21_4_FFFTFTT_e(a:Nat)(s:ByteArray)(st:St)(c k n76:Int)(v75:AV):((evS Tryz.prog E0 noOv noS 100000 [2045,2054,2060,2064,2071,2075,7039,7046,7055,7061,7065,7066,7072,7076,7077] (f21P 4) ⟨118,[(1,(.ptr a 0)),(4,(str s)),(5,FF),(6,TT)],[]⟩ st [.av FF,.eff (i64 c) id,.av FF,.eff (i64 k) id,.av FF,.eff (i64 k) id,.av TT,.eff v75 id,.av (i64 n76),.av TT]).map fun q=>(q.1,q.2.1.n,([q.2.1.get 1,q.2.1.get 4,q.2.1.get 5,q.2.1.get 6,q.2.1.get 79]:List AV),q.2.2.1,q.2.2.2.2))=some (.normal,118,[(.ptr a 0),(str s),FF,TT,TT],st,[binA E0 .eql 9 (str s) (str ⟨#[]⟩)=some FF,loadA E0 st 3 (.ptr a 1)=some (i64 c)∧st=st,binA E0 .neq 3 (i64 c) (i64 0)=some FF,loadA E0 st 3 (.ptr a 0)=some (i64 k)∧st=st,binA E0 .neq 3 (i64 k) (i64 2)=some FF,loadA E0 st 3 (.ptr a 0)=some (i64 k)∧st=st,binA E0 .neq 3 (i64 k) (i64 8)=some TT,loadA E0 st 52 (.ptr a 4)=some v75∧st=st,lenA E0 52 v75=some (i64 n76),binA E0 .gtr 3 (i64 n76) (i64 0)=some TT]):=by kernel_rfl
theorem f21_4_FFFTFTT{a:Nat}{s:ByteArray}{st:St}{c k n76:Int}{v75:AV}(h1:binA E0 .eql 9 (str s) (str ⟨#[]⟩)=some FF)(h2:loadA E0 st 3 (.ptr a 1)=some (i64 c))(h3:binA E0 .neq 3 (i64 c) (i64 0)=some FF)(h4:loadA E0 st 3 (.ptr a 0)=some (i64 k))(h5:binA E0 .neq 3 (i64 k) (i64 2)=some FF)(h6:loadA E0 st 3 (.ptr a 0)=some (i64 k))(h7:binA E0 .neq 3 (i64 k) (i64 8)=some TT)(h8:loadA E0 st 52 (.ptr a 4)=some v75)(h9:lenA E0 52 v75=some (i64 n76))(h10:binA E0 .gtr 3 (i64 n76) (i64 0)=some TT){T:Tm}(hT:f21L4 T (.ptr a 0) (str s) FF TT):AW Tryz.prog (f21P 4) (fun ex T' st'=>ex= .normal∧f21L5 T' (.ptr a 0) (str s) FF TT TT∧st'=st) T st:=by
  obtain ⟨hn,g1,g4,g5,g6⟩:=hT
  exact (gen_run (G:=fun T=>([T.get 1,T.get 4,T.get 5,T.get 6,T.get 79]:List AV)) hE (f21_4_FFFTFTT_e a s st c k n76 v75) (Ob.ok_cons.2 ⟨h1,(Ob.ok_cons.2 ⟨⟨h2,rfl⟩,(Ob.ok_cons.2 ⟨h3,(Ob.ok_cons.2 ⟨⟨h4,rfl⟩,(Ob.ok_cons.2 ⟨h5,(Ob.ok_cons.2 ⟨⟨h6,rfl⟩,(Ob.ok_cons.2 ⟨h7,(Ob.ok_cons.2 ⟨⟨h8,rfl⟩,(Ob.ok_cons.2 ⟨h9,(Ob.ok_cons.2 ⟨h10,Ob.ok_nil⟩)⟩)⟩)⟩)⟩)⟩)⟩)⟩)⟩)⟩) hn (conz g1 (conz g4 (conz g5 (one g6))))).mono fun ex T' st' ⟨q1,q2,q3,q4⟩=>by simp only [List.cons.injEq,and_true] at q3;exact ⟨q1,⟨q2,q3⟩,q4⟩
theorem f21_4_FFFTFTF_e(a:Nat)(s:ByteArray)(st:St)(c k n76:Int)(v75:AV):((evS Tryz.prog E0 noOv noS 100000 [2045,2054,2060,2064,2071,2075,7039,7046,7055,7061,7065,7066,7072,7076,7077] (f21P 4) ⟨118,[(1,(.ptr a 0)),(4,(str s)),(5,FF),(6,TT)],[]⟩ st [.av FF,.eff (i64 c) id,.av FF,.eff (i64 k) id,.av FF,.eff (i64 k) id,.av TT,.eff v75 id,.av (i64 n76),.av FF]).map fun q=>(q.1,q.2.1.n,([q.2.1.get 1,q.2.1.get 4,q.2.1.get 5,q.2.1.get 6,q.2.1.get 79]:List AV),q.2.2.1,q.2.2.2.2))=some (.normal,118,[(.ptr a 0),(str s),FF,TT,FF],st,[binA E0 .eql 9 (str s) (str ⟨#[]⟩)=some FF,loadA E0 st 3 (.ptr a 1)=some (i64 c)∧st=st,binA E0 .neq 3 (i64 c) (i64 0)=some FF,loadA E0 st 3 (.ptr a 0)=some (i64 k)∧st=st,binA E0 .neq 3 (i64 k) (i64 2)=some FF,loadA E0 st 3 (.ptr a 0)=some (i64 k)∧st=st,binA E0 .neq 3 (i64 k) (i64 8)=some TT,loadA E0 st 52 (.ptr a 4)=some v75∧st=st,lenA E0 52 v75=some (i64 n76),binA E0 .gtr 3 (i64 n76) (i64 0)=some FF]):=by kernel_rfl
theorem f21_4_FFFTFTF{a:Nat}{s:ByteArray}{st:St}{c k n76:Int}{v75:AV}(h1:binA E0 .eql 9 (str s) (str ⟨#[]⟩)=some FF)(h2:loadA E0 st 3 (.ptr a 1)=some (i64 c))(h3:binA E0 .neq 3 (i64 c) (i64 0)=some FF)(h4:loadA E0 st 3 (.ptr a 0)=some (i64 k))(h5:binA E0 .neq 3 (i64 k) (i64 2)=some FF)(h6:loadA E0 st 3 (.ptr a 0)=some (i64 k))(h7:binA E0 .neq 3 (i64 k) (i64 8)=some TT)(h8:loadA E0 st 52 (.ptr a 4)=some v75)(h9:lenA E0 52 v75=some (i64 n76))(h10:binA E0 .gtr 3 (i64 n76) (i64 0)=some FF){T:Tm}(hT:f21L4 T (.ptr a 0) (str s) FF TT):AW Tryz.prog (f21P 4) (fun ex T' st'=>ex= .normal∧f21L5 T' (.ptr a 0) (str s) FF TT FF∧st'=st) T st:=by
  obtain ⟨hn,g1,g4,g5,g6⟩:=hT
  exact (gen_run (G:=fun T=>([T.get 1,T.get 4,T.get 5,T.get 6,T.get 79]:List AV)) hE (f21_4_FFFTFTF_e a s st c k n76 v75) (Ob.ok_cons.2 ⟨h1,(Ob.ok_cons.2 ⟨⟨h2,rfl⟩,(Ob.ok_cons.2 ⟨h3,(Ob.ok_cons.2 ⟨⟨h4,rfl⟩,(Ob.ok_cons.2 ⟨h5,(Ob.ok_cons.2 ⟨⟨h6,rfl⟩,(Ob.ok_cons.2 ⟨h7,(Ob.ok_cons.2 ⟨⟨h8,rfl⟩,(Ob.ok_cons.2 ⟨h9,(Ob.ok_cons.2 ⟨h10,Ob.ok_nil⟩)⟩)⟩)⟩)⟩)⟩)⟩)⟩)⟩)⟩) hn (conz g1 (conz g4 (conz g5 (one g6))))).mono fun ex T' st' ⟨q1,q2,q3,q4⟩=>by simp only [List.cons.injEq,and_true] at q3;exact ⟨q1,⟨q2,q3⟩,q4⟩
theorem f21_4_FFFTFF_e(a:Nat)(s:ByteArray)(st:St)(c k:Int):((evS Tryz.prog E0 noOv noS 100000 [2045,2054,2060,2064,2071,2075,7039,7046,7055,7061,7065,7066,7072,7076,7077] (f21P 4) ⟨118,[(1,(.ptr a 0)),(4,(str s)),(5,FF),(6,TT)],[]⟩ st [.av FF,.eff (i64 c) id,.av FF,.eff (i64 k) id,.av FF,.eff (i64 k) id,.av FF]).map fun q=>(q.1,q.2.1.n,([q.2.1.get 1,q.2.1.get 4,q.2.1.get 5,q.2.1.get 6,q.2.1.get 79]:List AV),q.2.2.1,q.2.2.2.2))=some (.normal,118,[(.ptr a 0),(str s),FF,TT,FF],st,[binA E0 .eql 9 (str s) (str ⟨#[]⟩)=some FF,loadA E0 st 3 (.ptr a 1)=some (i64 c)∧st=st,binA E0 .neq 3 (i64 c) (i64 0)=some FF,loadA E0 st 3 (.ptr a 0)=some (i64 k)∧st=st,binA E0 .neq 3 (i64 k) (i64 2)=some FF,loadA E0 st 3 (.ptr a 0)=some (i64 k)∧st=st,binA E0 .neq 3 (i64 k) (i64 8)=some FF]):=by kernel_rfl
theorem f21_4_FFFTFF{a:Nat}{s:ByteArray}{st:St}{c k:Int}(h1:binA E0 .eql 9 (str s) (str ⟨#[]⟩)=some FF)(h2:loadA E0 st 3 (.ptr a 1)=some (i64 c))(h3:binA E0 .neq 3 (i64 c) (i64 0)=some FF)(h4:loadA E0 st 3 (.ptr a 0)=some (i64 k))(h5:binA E0 .neq 3 (i64 k) (i64 2)=some FF)(h6:loadA E0 st 3 (.ptr a 0)=some (i64 k))(h7:binA E0 .neq 3 (i64 k) (i64 8)=some FF){T:Tm}(hT:f21L4 T (.ptr a 0) (str s) FF TT):AW Tryz.prog (f21P 4) (fun ex T' st'=>ex= .normal∧f21L5 T' (.ptr a 0) (str s) FF TT FF∧st'=st) T st:=by
  obtain ⟨hn,g1,g4,g5,g6⟩:=hT
  exact (gen_run (G:=fun T=>([T.get 1,T.get 4,T.get 5,T.get 6,T.get 79]:List AV)) hE (f21_4_FFFTFF_e a s st c k) (Ob.ok_cons.2 ⟨h1,(Ob.ok_cons.2 ⟨⟨h2,rfl⟩,(Ob.ok_cons.2 ⟨h3,(Ob.ok_cons.2 ⟨⟨h4,rfl⟩,(Ob.ok_cons.2 ⟨h5,(Ob.ok_cons.2 ⟨⟨h6,rfl⟩,(Ob.ok_cons.2 ⟨h7,Ob.ok_nil⟩)⟩)⟩)⟩)⟩)⟩)⟩) hn (conz g1 (conz g4 (conz g5 (one g6))))).mono fun ex T' st' ⟨q1,q2,q3,q4⟩=>by simp only [List.cons.injEq,and_true] at q3;exact ⟨q1,⟨q2,q3⟩,q4⟩
theorem f21_4_FFFFT_e(a:Nat)(s:ByteArray)(st:St)(c n:Int):((evS Tryz.prog E0 noOv noS 100000 [2045,2054,2060,2064,2071,2075,7039,7046,7055,7061,7065,7066,7072,7076,7077] (f21P 4) ⟨118,[(1,(.ptr a 0)),(4,(str s)),(5,FF),(6,FF)],[]⟩ st [.av FF,.eff (i64 c) id,.av FF,.eff (i64 n) id,.av TT]).map fun q=>(q.1,q.2.1.n,([q.2.1.get 1,q.2.1.get 4,q.2.1.get 5,q.2.1.get 6,q.2.1.get 79]:List AV),q.2.2.1,q.2.2.2.2))=some (.normal,118,[(.ptr a 0),(str s),FF,FF,TT],st,[binA E0 .eql 9 (str s) (str ⟨#[]⟩)=some FF,loadA E0 st 3 (.ptr a 1)=some (i64 c)∧st=st,binA E0 .neq 3 (i64 c) (i64 0)=some FF,loadA E0 st 3 (.ptr a 2)=some (i64 n)∧st=st,binA E0 .neq 3 (i64 n) (i64 0)=some TT]):=by kernel_rfl
theorem f21_4_FFFFT{a:Nat}{s:ByteArray}{st:St}{c n:Int}(h1:binA E0 .eql 9 (str s) (str ⟨#[]⟩)=some FF)(h2:loadA E0 st 3 (.ptr a 1)=some (i64 c))(h3:binA E0 .neq 3 (i64 c) (i64 0)=some FF)(h4:loadA E0 st 3 (.ptr a 2)=some (i64 n))(h5:binA E0 .neq 3 (i64 n) (i64 0)=some TT){T:Tm}(hT:f21L4 T (.ptr a 0) (str s) FF FF):AW Tryz.prog (f21P 4) (fun ex T' st'=>ex= .normal∧f21L5 T' (.ptr a 0) (str s) FF FF TT∧st'=st) T st:=by
  obtain ⟨hn,g1,g4,g5,g6⟩:=hT
  exact (gen_run (G:=fun T=>([T.get 1,T.get 4,T.get 5,T.get 6,T.get 79]:List AV)) hE (f21_4_FFFFT_e a s st c n) (Ob.ok_cons.2 ⟨h1,(Ob.ok_cons.2 ⟨⟨h2,rfl⟩,(Ob.ok_cons.2 ⟨h3,(Ob.ok_cons.2 ⟨⟨h4,rfl⟩,(Ob.ok_cons.2 ⟨h5,Ob.ok_nil⟩)⟩)⟩)⟩)⟩) hn (conz g1 (conz g4 (conz g5 (one g6))))).mono fun ex T' st' ⟨q1,q2,q3,q4⟩=>by simp only [List.cons.injEq,and_true] at q3;exact ⟨q1,⟨q2,q3⟩,q4⟩
theorem f21_4_FFFFFTT_e(a:Nat)(s:ByteArray)(st:St)(c n k n65:Int)(v64:AV):((evS Tryz.prog E0 noOv noS 100000 [2045,2054,2060,2064,2071,2075,7039,7046,7055,7061,7065,7066,7072,7076,7077] (f21P 4) ⟨118,[(1,(.ptr a 0)),(4,(str s)),(5,FF),(6,FF)],[]⟩ st [.av FF,.eff (i64 c) id,.av FF,.eff (i64 n) id,.av FF,.eff (i64 k) id,.av TT,.eff v64 id,.av (i64 n65),.av TT]).map fun q=>(q.1,q.2.1.n,([q.2.1.get 1,q.2.1.get 4,q.2.1.get 5,q.2.1.get 6,q.2.1.get 79]:List AV),q.2.2.1,q.2.2.2.2))=some (.normal,118,[(.ptr a 0),(str s),FF,FF,TT],st,[binA E0 .eql 9 (str s) (str ⟨#[]⟩)=some FF,loadA E0 st 3 (.ptr a 1)=some (i64 c)∧st=st,binA E0 .neq 3 (i64 c) (i64 0)=some FF,loadA E0 st 3 (.ptr a 2)=some (i64 n)∧st=st,binA E0 .neq 3 (i64 n) (i64 0)=some FF,loadA E0 st 3 (.ptr a 0)=some (i64 k)∧st=st,binA E0 .neq 3 (i64 k) (i64 2)=some TT,loadA E0 st 51 (.ptr a 3)=some v64∧st=st,lenA E0 51 v64=some (i64 n65),binA E0 .gtr 3 (i64 n65) (i64 0)=some TT]):=by kernel_rfl
theorem f21_4_FFFFFTT{a:Nat}{s:ByteArray}{st:St}{c n k n65:Int}{v64:AV}(h1:binA E0 .eql 9 (str s) (str ⟨#[]⟩)=some FF)(h2:loadA E0 st 3 (.ptr a 1)=some (i64 c))(h3:binA E0 .neq 3 (i64 c) (i64 0)=some FF)(h4:loadA E0 st 3 (.ptr a 2)=some (i64 n))(h5:binA E0 .neq 3 (i64 n) (i64 0)=some FF)(h6:loadA E0 st 3 (.ptr a 0)=some (i64 k))(h7:binA E0 .neq 3 (i64 k) (i64 2)=some TT)(h8:loadA E0 st 51 (.ptr a 3)=some v64)(h9:lenA E0 51 v64=some (i64 n65))(h10:binA E0 .gtr 3 (i64 n65) (i64 0)=some TT){T:Tm}(hT:f21L4 T (.ptr a 0) (str s) FF FF):AW Tryz.prog (f21P 4) (fun ex T' st'=>ex= .normal∧f21L5 T' (.ptr a 0) (str s) FF FF TT∧st'=st) T st:=by
  obtain ⟨hn,g1,g4,g5,g6⟩:=hT
  exact (gen_run (G:=fun T=>([T.get 1,T.get 4,T.get 5,T.get 6,T.get 79]:List AV)) hE (f21_4_FFFFFTT_e a s st c n k n65 v64) (Ob.ok_cons.2 ⟨h1,(Ob.ok_cons.2 ⟨⟨h2,rfl⟩,(Ob.ok_cons.2 ⟨h3,(Ob.ok_cons.2 ⟨⟨h4,rfl⟩,(Ob.ok_cons.2 ⟨h5,(Ob.ok_cons.2 ⟨⟨h6,rfl⟩,(Ob.ok_cons.2 ⟨h7,(Ob.ok_cons.2 ⟨⟨h8,rfl⟩,(Ob.ok_cons.2 ⟨h9,(Ob.ok_cons.2 ⟨h10,Ob.ok_nil⟩)⟩)⟩)⟩)⟩)⟩)⟩)⟩)⟩)⟩) hn (conz g1 (conz g4 (conz g5 (one g6))))).mono fun ex T' st' ⟨q1,q2,q3,q4⟩=>by simp only [List.cons.injEq,and_true] at q3;exact ⟨q1,⟨q2,q3⟩,q4⟩
theorem f21_4_FFFFFTFTT_e(a:Nat)(s:ByteArray)(st:St)(c n k n65 n76:Int)(v64 v75:AV):((evS Tryz.prog E0 noOv noS 100000 [2045,2054,2060,2064,2071,2075,7039,7046,7055,7061,7065,7066,7072,7076,7077] (f21P 4) ⟨118,[(1,(.ptr a 0)),(4,(str s)),(5,FF),(6,FF)],[]⟩ st [.av FF,.eff (i64 c) id,.av FF,.eff (i64 n) id,.av FF,.eff (i64 k) id,.av TT,.eff v64 id,.av (i64 n65),.av FF,.eff (i64 k) id,.av TT,.eff v75 id,.av (i64 n76),.av TT]).map fun q=>(q.1,q.2.1.n,([q.2.1.get 1,q.2.1.get 4,q.2.1.get 5,q.2.1.get 6,q.2.1.get 79]:List AV),q.2.2.1,q.2.2.2.2))=some (.normal,118,[(.ptr a 0),(str s),FF,FF,TT],st,[binA E0 .eql 9 (str s) (str ⟨#[]⟩)=some FF,loadA E0 st 3 (.ptr a 1)=some (i64 c)∧st=st,binA E0 .neq 3 (i64 c) (i64 0)=some FF,loadA E0 st 3 (.ptr a 2)=some (i64 n)∧st=st,binA E0 .neq 3 (i64 n) (i64 0)=some FF,loadA E0 st 3 (.ptr a 0)=some (i64 k)∧st=st,binA E0 .neq 3 (i64 k) (i64 2)=some TT,loadA E0 st 51 (.ptr a 3)=some v64∧st=st,lenA E0 51 v64=some (i64 n65),binA E0 .gtr 3 (i64 n65) (i64 0)=some FF,loadA E0 st 3 (.ptr a 0)=some (i64 k)∧st=st,binA E0 .neq 3 (i64 k) (i64 8)=some TT,loadA E0 st 52 (.ptr a 4)=some v75∧st=st,lenA E0 52 v75=some (i64 n76),binA E0 .gtr 3 (i64 n76) (i64 0)=some TT]):=by kernel_rfl
theorem f21_4_FFFFFTFTT{a:Nat}{s:ByteArray}{st:St}{c n k n65 n76:Int}{v64 v75:AV}(h1:binA E0 .eql 9 (str s) (str ⟨#[]⟩)=some FF)(h2:loadA E0 st 3 (.ptr a 1)=some (i64 c))(h3:binA E0 .neq 3 (i64 c) (i64 0)=some FF)(h4:loadA E0 st 3 (.ptr a 2)=some (i64 n))(h5:binA E0 .neq 3 (i64 n) (i64 0)=some FF)(h6:loadA E0 st 3 (.ptr a 0)=some (i64 k))(h7:binA E0 .neq 3 (i64 k) (i64 2)=some TT)(h8:loadA E0 st 51 (.ptr a 3)=some v64)(h9:lenA E0 51 v64=some (i64 n65))(h10:binA E0 .gtr 3 (i64 n65) (i64 0)=some FF)(h11:loadA E0 st 3 (.ptr a 0)=some (i64 k))(h12:binA E0 .neq 3 (i64 k) (i64 8)=some TT)(h13:loadA E0 st 52 (.ptr a 4)=some v75)(h14:lenA E0 52 v75=some (i64 n76))(h15:binA E0 .gtr 3 (i64 n76) (i64 0)=some TT){T:Tm}(hT:f21L4 T (.ptr a 0) (str s) FF FF):AW Tryz.prog (f21P 4) (fun ex T' st'=>ex= .normal∧f21L5 T' (.ptr a 0) (str s) FF FF TT∧st'=st) T st:=by
  obtain ⟨hn,g1,g4,g5,g6⟩:=hT
  exact (gen_run (G:=fun T=>([T.get 1,T.get 4,T.get 5,T.get 6,T.get 79]:List AV)) hE (f21_4_FFFFFTFTT_e a s st c n k n65 n76 v64 v75) (Ob.ok_cons.2 ⟨h1,(Ob.ok_cons.2 ⟨⟨h2,rfl⟩,(Ob.ok_cons.2 ⟨h3,(Ob.ok_cons.2 ⟨⟨h4,rfl⟩,(Ob.ok_cons.2 ⟨h5,(Ob.ok_cons.2 ⟨⟨h6,rfl⟩,(Ob.ok_cons.2 ⟨h7,(Ob.ok_cons.2 ⟨⟨h8,rfl⟩,(Ob.ok_cons.2 ⟨h9,(Ob.ok_cons.2 ⟨h10,(Ob.ok_cons.2 ⟨⟨h11,rfl⟩,(Ob.ok_cons.2 ⟨h12,(Ob.ok_cons.2 ⟨⟨h13,rfl⟩,(Ob.ok_cons.2 ⟨h14,(Ob.ok_cons.2 ⟨h15,Ob.ok_nil⟩)⟩)⟩)⟩)⟩)⟩)⟩)⟩)⟩)⟩)⟩)⟩)⟩)⟩)⟩) hn (conz g1 (conz g4 (conz g5 (one g6))))).mono fun ex T' st' ⟨q1,q2,q3,q4⟩=>by simp only [List.cons.injEq,and_true] at q3;exact ⟨q1,⟨q2,q3⟩,q4⟩
theorem f21_4_FFFFFTFTF_e(a:Nat)(s:ByteArray)(st:St)(c n k n65 n76:Int)(v64 v75:AV):((evS Tryz.prog E0 noOv noS 100000 [2045,2054,2060,2064,2071,2075,7039,7046,7055,7061,7065,7066,7072,7076,7077] (f21P 4) ⟨118,[(1,(.ptr a 0)),(4,(str s)),(5,FF),(6,FF)],[]⟩ st [.av FF,.eff (i64 c) id,.av FF,.eff (i64 n) id,.av FF,.eff (i64 k) id,.av TT,.eff v64 id,.av (i64 n65),.av FF,.eff (i64 k) id,.av TT,.eff v75 id,.av (i64 n76),.av FF]).map fun q=>(q.1,q.2.1.n,([q.2.1.get 1,q.2.1.get 4,q.2.1.get 5,q.2.1.get 6,q.2.1.get 79]:List AV),q.2.2.1,q.2.2.2.2))=some (.normal,118,[(.ptr a 0),(str s),FF,FF,FF],st,[binA E0 .eql 9 (str s) (str ⟨#[]⟩)=some FF,loadA E0 st 3 (.ptr a 1)=some (i64 c)∧st=st,binA E0 .neq 3 (i64 c) (i64 0)=some FF,loadA E0 st 3 (.ptr a 2)=some (i64 n)∧st=st,binA E0 .neq 3 (i64 n) (i64 0)=some FF,loadA E0 st 3 (.ptr a 0)=some (i64 k)∧st=st,binA E0 .neq 3 (i64 k) (i64 2)=some TT,loadA E0 st 51 (.ptr a 3)=some v64∧st=st,lenA E0 51 v64=some (i64 n65),binA E0 .gtr 3 (i64 n65) (i64 0)=some FF,loadA E0 st 3 (.ptr a 0)=some (i64 k)∧st=st,binA E0 .neq 3 (i64 k) (i64 8)=some TT,loadA E0 st 52 (.ptr a 4)=some v75∧st=st,lenA E0 52 v75=some (i64 n76),binA E0 .gtr 3 (i64 n76) (i64 0)=some FF]):=by kernel_rfl
theorem f21_4_FFFFFTFTF{a:Nat}{s:ByteArray}{st:St}{c n k n65 n76:Int}{v64 v75:AV}(h1:binA E0 .eql 9 (str s) (str ⟨#[]⟩)=some FF)(h2:loadA E0 st 3 (.ptr a 1)=some (i64 c))(h3:binA E0 .neq 3 (i64 c) (i64 0)=some FF)(h4:loadA E0 st 3 (.ptr a 2)=some (i64 n))(h5:binA E0 .neq 3 (i64 n) (i64 0)=some FF)(h6:loadA E0 st 3 (.ptr a 0)=some (i64 k))(h7:binA E0 .neq 3 (i64 k) (i64 2)=some TT)(h8:loadA E0 st 51 (.ptr a 3)=some v64)(h9:lenA E0 51 v64=some (i64 n65))(h10:binA E0 .gtr 3 (i64 n65) (i64 0)=some FF)(h11:loadA E0 st 3 (.ptr a 0)=some (i64 k))(h12:binA E0 .neq 3 (i64 k) (i64 8)=some TT)(h13:loadA E0 st 52 (.ptr a 4)=some v75)(h14:lenA E0 52 v75=some (i64 n76))(h15:binA E0 .gtr 3 (i64 n76) (i64 0)=some FF){T:Tm}(hT:f21L4 T (.ptr a 0) (str s) FF FF):AW Tryz.prog (f21P 4) (fun ex T' st'=>ex= .normal∧f21L5 T' (.ptr a 0) (str s) FF FF FF∧st'=st) T st:=by
  obtain ⟨hn,g1,g4,g5,g6⟩:=hT
  exact (gen_run (G:=fun T=>([T.get 1,T.get 4,T.get 5,T.get 6,T.get 79]:List AV)) hE (f21_4_FFFFFTFTF_e a s st c n k n65 n76 v64 v75) (Ob.ok_cons.2 ⟨h1,(Ob.ok_cons.2 ⟨⟨h2,rfl⟩,(Ob.ok_cons.2 ⟨h3,(Ob.ok_cons.2 ⟨⟨h4,rfl⟩,(Ob.ok_cons.2 ⟨h5,(Ob.ok_cons.2 ⟨⟨h6,rfl⟩,(Ob.ok_cons.2 ⟨h7,(Ob.ok_cons.2 ⟨⟨h8,rfl⟩,(Ob.ok_cons.2 ⟨h9,(Ob.ok_cons.2 ⟨h10,(Ob.ok_cons.2 ⟨⟨h11,rfl⟩,(Ob.ok_cons.2 ⟨h12,(Ob.ok_cons.2 ⟨⟨h13,rfl⟩,(Ob.ok_cons.2 ⟨h14,(Ob.ok_cons.2 ⟨h15,Ob.ok_nil⟩)⟩)⟩)⟩)⟩)⟩)⟩)⟩)⟩)⟩)⟩)⟩)⟩)⟩)⟩) hn (conz g1 (conz g4 (conz g5 (one g6))))).mono fun ex T' st' ⟨q1,q2,q3,q4⟩=>by simp only [List.cons.injEq,and_true] at q3;exact ⟨q1,⟨q2,q3⟩,q4⟩
theorem f21_4_FFFFFTFF_e(a:Nat)(s:ByteArray)(st:St)(c n k n65:Int)(v64:AV):((evS Tryz.prog E0 noOv noS 100000 [2045,2054,2060,2064,2071,2075,7039,7046,7055,7061,7065,7066,7072,7076,7077] (f21P 4) ⟨118,[(1,(.ptr a 0)),(4,(str s)),(5,FF),(6,FF)],[]⟩ st [.av FF,.eff (i64 c) id,.av FF,.eff (i64 n) id,.av FF,.eff (i64 k) id,.av TT,.eff v64 id,.av (i64 n65),.av FF,.eff (i64 k) id,.av FF]).map fun q=>(q.1,q.2.1.n,([q.2.1.get 1,q.2.1.get 4,q.2.1.get 5,q.2.1.get 6,q.2.1.get 79]:List AV),q.2.2.1,q.2.2.2.2))=some (.normal,118,[(.ptr a 0),(str s),FF,FF,FF],st,[binA E0 .eql 9 (str s) (str ⟨#[]⟩)=some FF,loadA E0 st 3 (.ptr a 1)=some (i64 c)∧st=st,binA E0 .neq 3 (i64 c) (i64 0)=some FF,loadA E0 st 3 (.ptr a 2)=some (i64 n)∧st=st,binA E0 .neq 3 (i64 n) (i64 0)=some FF,loadA E0 st 3 (.ptr a 0)=some (i64 k)∧st=st,binA E0 .neq 3 (i64 k) (i64 2)=some TT,loadA E0 st 51 (.ptr a 3)=some v64∧st=st,lenA E0 51 v64=some (i64 n65),binA E0 .gtr 3 (i64 n65) (i64 0)=some FF,loadA E0 st 3 (.ptr a 0)=some (i64 k)∧st=st,binA E0 .neq 3 (i64 k) (i64 8)=some FF]):=by kernel_rfl
theorem f21_4_FFFFFTFF{a:Nat}{s:ByteArray}{st:St}{c n k n65:Int}{v64:AV}(h1:binA E0 .eql 9 (str s) (str ⟨#[]⟩)=some FF)(h2:loadA E0 st 3 (.ptr a 1)=some (i64 c))(h3:binA E0 .neq 3 (i64 c) (i64 0)=some FF)(h4:loadA E0 st 3 (.ptr a 2)=some (i64 n))(h5:binA E0 .neq 3 (i64 n) (i64 0)=some FF)(h6:loadA E0 st 3 (.ptr a 0)=some (i64 k))(h7:binA E0 .neq 3 (i64 k) (i64 2)=some TT)(h8:loadA E0 st 51 (.ptr a 3)=some v64)(h9:lenA E0 51 v64=some (i64 n65))(h10:binA E0 .gtr 3 (i64 n65) (i64 0)=some FF)(h11:loadA E0 st 3 (.ptr a 0)=some (i64 k))(h12:binA E0 .neq 3 (i64 k) (i64 8)=some FF){T:Tm}(hT:f21L4 T (.ptr a 0) (str s) FF FF):AW Tryz.prog (f21P 4) (fun ex T' st'=>ex= .normal∧f21L5 T' (.ptr a 0) (str s) FF FF FF∧st'=st) T st:=by
  obtain ⟨hn,g1,g4,g5,g6⟩:=hT
  exact (gen_run (G:=fun T=>([T.get 1,T.get 4,T.get 5,T.get 6,T.get 79]:List AV)) hE (f21_4_FFFFFTFF_e a s st c n k n65 v64) (Ob.ok_cons.2 ⟨h1,(Ob.ok_cons.2 ⟨⟨h2,rfl⟩,(Ob.ok_cons.2 ⟨h3,(Ob.ok_cons.2 ⟨⟨h4,rfl⟩,(Ob.ok_cons.2 ⟨h5,(Ob.ok_cons.2 ⟨⟨h6,rfl⟩,(Ob.ok_cons.2 ⟨h7,(Ob.ok_cons.2 ⟨⟨h8,rfl⟩,(Ob.ok_cons.2 ⟨h9,(Ob.ok_cons.2 ⟨h10,(Ob.ok_cons.2 ⟨⟨h11,rfl⟩,(Ob.ok_cons.2 ⟨h12,Ob.ok_nil⟩)⟩)⟩)⟩)⟩)⟩)⟩)⟩)⟩)⟩)⟩)⟩) hn (conz g1 (conz g4 (conz g5 (one g6))))).mono fun ex T' st' ⟨q1,q2,q3,q4⟩=>by simp only [List.cons.injEq,and_true] at q3;exact ⟨q1,⟨q2,q3⟩,q4⟩
theorem f21_4_FFFFFFTT_e(a:Nat)(s:ByteArray)(st:St)(c n k n76:Int)(v75:AV):((evS Tryz.prog E0 noOv noS 100000 [2045,2054,2060,2064,2071,2075,7039,7046,7055,7061,7065,7066,7072,7076,7077] (f21P 4) ⟨118,[(1,(.ptr a 0)),(4,(str s)),(5,FF),(6,FF)],[]⟩ st [.av FF,.eff (i64 c) id,.av FF,.eff (i64 n) id,.av FF,.eff (i64 k) id,.av FF,.eff (i64 k) id,.av TT,.eff v75 id,.av (i64 n76),.av TT]).map fun q=>(q.1,q.2.1.n,([q.2.1.get 1,q.2.1.get 4,q.2.1.get 5,q.2.1.get 6,q.2.1.get 79]:List AV),q.2.2.1,q.2.2.2.2))=some (.normal,118,[(.ptr a 0),(str s),FF,FF,TT],st,[binA E0 .eql 9 (str s) (str ⟨#[]⟩)=some FF,loadA E0 st 3 (.ptr a 1)=some (i64 c)∧st=st,binA E0 .neq 3 (i64 c) (i64 0)=some FF,loadA E0 st 3 (.ptr a 2)=some (i64 n)∧st=st,binA E0 .neq 3 (i64 n) (i64 0)=some FF,loadA E0 st 3 (.ptr a 0)=some (i64 k)∧st=st,binA E0 .neq 3 (i64 k) (i64 2)=some FF,loadA E0 st 3 (.ptr a 0)=some (i64 k)∧st=st,binA E0 .neq 3 (i64 k) (i64 8)=some TT,loadA E0 st 52 (.ptr a 4)=some v75∧st=st,lenA E0 52 v75=some (i64 n76),binA E0 .gtr 3 (i64 n76) (i64 0)=some TT]):=by kernel_rfl
theorem f21_4_FFFFFFTT{a:Nat}{s:ByteArray}{st:St}{c n k n76:Int}{v75:AV}(h1:binA E0 .eql 9 (str s) (str ⟨#[]⟩)=some FF)(h2:loadA E0 st 3 (.ptr a 1)=some (i64 c))(h3:binA E0 .neq 3 (i64 c) (i64 0)=some FF)(h4:loadA E0 st 3 (.ptr a 2)=some (i64 n))(h5:binA E0 .neq 3 (i64 n) (i64 0)=some FF)(h6:loadA E0 st 3 (.ptr a 0)=some (i64 k))(h7:binA E0 .neq 3 (i64 k) (i64 2)=some FF)(h8:loadA E0 st 3 (.ptr a 0)=some (i64 k))(h9:binA E0 .neq 3 (i64 k) (i64 8)=some TT)(h10:loadA E0 st 52 (.ptr a 4)=some v75)(h11:lenA E0 52 v75=some (i64 n76))(h12:binA E0 .gtr 3 (i64 n76) (i64 0)=some TT){T:Tm}(hT:f21L4 T (.ptr a 0) (str s) FF FF):AW Tryz.prog (f21P 4) (fun ex T' st'=>ex= .normal∧f21L5 T' (.ptr a 0) (str s) FF FF TT∧st'=st) T st:=by
  obtain ⟨hn,g1,g4,g5,g6⟩:=hT
  exact (gen_run (G:=fun T=>([T.get 1,T.get 4,T.get 5,T.get 6,T.get 79]:List AV)) hE (f21_4_FFFFFFTT_e a s st c n k n76 v75) (Ob.ok_cons.2 ⟨h1,(Ob.ok_cons.2 ⟨⟨h2,rfl⟩,(Ob.ok_cons.2 ⟨h3,(Ob.ok_cons.2 ⟨⟨h4,rfl⟩,(Ob.ok_cons.2 ⟨h5,(Ob.ok_cons.2 ⟨⟨h6,rfl⟩,(Ob.ok_cons.2 ⟨h7,(Ob.ok_cons.2 ⟨⟨h8,rfl⟩,(Ob.ok_cons.2 ⟨h9,(Ob.ok_cons.2 ⟨⟨h10,rfl⟩,(Ob.ok_cons.2 ⟨h11,(Ob.ok_cons.2 ⟨h12,Ob.ok_nil⟩)⟩)⟩)⟩)⟩)⟩)⟩)⟩)⟩)⟩)⟩)⟩) hn (conz g1 (conz g4 (conz g5 (one g6))))).mono fun ex T' st' ⟨q1,q2,q3,q4⟩=>by simp only [List.cons.injEq,and_true] at q3;exact ⟨q1,⟨q2,q3⟩,q4⟩
theorem f21_4_FFFFFFTF_e(a:Nat)(s:ByteArray)(st:St)(c n k n76:Int)(v75:AV):((evS Tryz.prog E0 noOv noS 100000 [2045,2054,2060,2064,2071,2075,7039,7046,7055,7061,7065,7066,7072,7076,7077] (f21P 4) ⟨118,[(1,(.ptr a 0)),(4,(str s)),(5,FF),(6,FF)],[]⟩ st [.av FF,.eff (i64 c) id,.av FF,.eff (i64 n) id,.av FF,.eff (i64 k) id,.av FF,.eff (i64 k) id,.av TT,.eff v75 id,.av (i64 n76),.av FF]).map fun q=>(q.1,q.2.1.n,([q.2.1.get 1,q.2.1.get 4,q.2.1.get 5,q.2.1.get 6,q.2.1.get 79]:List AV),q.2.2.1,q.2.2.2.2))=some (.normal,118,[(.ptr a 0),(str s),FF,FF,FF],st,[binA E0 .eql 9 (str s) (str ⟨#[]⟩)=some FF,loadA E0 st 3 (.ptr a 1)=some (i64 c)∧st=st,binA E0 .neq 3 (i64 c) (i64 0)=some FF,loadA E0 st 3 (.ptr a 2)=some (i64 n)∧st=st,binA E0 .neq 3 (i64 n) (i64 0)=some FF,loadA E0 st 3 (.ptr a 0)=some (i64 k)∧st=st,binA E0 .neq 3 (i64 k) (i64 2)=some FF,loadA E0 st 3 (.ptr a 0)=some (i64 k)∧st=st,binA E0 .neq 3 (i64 k) (i64 8)=some TT,loadA E0 st 52 (.ptr a 4)=some v75∧st=st,lenA E0 52 v75=some (i64 n76),binA E0 .gtr 3 (i64 n76) (i64 0)=some FF]):=by kernel_rfl
theorem f21_4_FFFFFFTF{a:Nat}{s:ByteArray}{st:St}{c n k n76:Int}{v75:AV}(h1:binA E0 .eql 9 (str s) (str ⟨#[]⟩)=some FF)(h2:loadA E0 st 3 (.ptr a 1)=some (i64 c))(h3:binA E0 .neq 3 (i64 c) (i64 0)=some FF)(h4:loadA E0 st 3 (.ptr a 2)=some (i64 n))(h5:binA E0 .neq 3 (i64 n) (i64 0)=some FF)(h6:loadA E0 st 3 (.ptr a 0)=some (i64 k))(h7:binA E0 .neq 3 (i64 k) (i64 2)=some FF)(h8:loadA E0 st 3 (.ptr a 0)=some (i64 k))(h9:binA E0 .neq 3 (i64 k) (i64 8)=some TT)(h10:loadA E0 st 52 (.ptr a 4)=some v75)(h11:lenA E0 52 v75=some (i64 n76))(h12:binA E0 .gtr 3 (i64 n76) (i64 0)=some FF){T:Tm}(hT:f21L4 T (.ptr a 0) (str s) FF FF):AW Tryz.prog (f21P 4) (fun ex T' st'=>ex= .normal∧f21L5 T' (.ptr a 0) (str s) FF FF FF∧st'=st) T st:=by
  obtain ⟨hn,g1,g4,g5,g6⟩:=hT
  exact (gen_run (G:=fun T=>([T.get 1,T.get 4,T.get 5,T.get 6,T.get 79]:List AV)) hE (f21_4_FFFFFFTF_e a s st c n k n76 v75) (Ob.ok_cons.2 ⟨h1,(Ob.ok_cons.2 ⟨⟨h2,rfl⟩,(Ob.ok_cons.2 ⟨h3,(Ob.ok_cons.2 ⟨⟨h4,rfl⟩,(Ob.ok_cons.2 ⟨h5,(Ob.ok_cons.2 ⟨⟨h6,rfl⟩,(Ob.ok_cons.2 ⟨h7,(Ob.ok_cons.2 ⟨⟨h8,rfl⟩,(Ob.ok_cons.2 ⟨h9,(Ob.ok_cons.2 ⟨⟨h10,rfl⟩,(Ob.ok_cons.2 ⟨h11,(Ob.ok_cons.2 ⟨h12,Ob.ok_nil⟩)⟩)⟩)⟩)⟩)⟩)⟩)⟩)⟩)⟩)⟩)⟩) hn (conz g1 (conz g4 (conz g5 (one g6))))).mono fun ex T' st' ⟨q1,q2,q3,q4⟩=>by simp only [List.cons.injEq,and_true] at q3;exact ⟨q1,⟨q2,q3⟩,q4⟩
theorem f21_4_FFFFFFF_e(a:Nat)(s:ByteArray)(st:St)(c n k:Int):((evS Tryz.prog E0 noOv noS 100000 [2045,2054,2060,2064,2071,2075,7039,7046,7055,7061,7065,7066,7072,7076,7077] (f21P 4) ⟨118,[(1,(.ptr a 0)),(4,(str s)),(5,FF),(6,FF)],[]⟩ st [.av FF,.eff (i64 c) id,.av FF,.eff (i64 n) id,.av FF,.eff (i64 k) id,.av FF,.eff (i64 k) id,.av FF]).map fun q=>(q.1,q.2.1.n,([q.2.1.get 1,q.2.1.get 4,q.2.1.get 5,q.2.1.get 6,q.2.1.get 79]:List AV),q.2.2.1,q.2.2.2.2))=some (.normal,118,[(.ptr a 0),(str s),FF,FF,FF],st,[binA E0 .eql 9 (str s) (str ⟨#[]⟩)=some FF,loadA E0 st 3 (.ptr a 1)=some (i64 c)∧st=st,binA E0 .neq 3 (i64 c) (i64 0)=some FF,loadA E0 st 3 (.ptr a 2)=some (i64 n)∧st=st,binA E0 .neq 3 (i64 n) (i64 0)=some FF,loadA E0 st 3 (.ptr a 0)=some (i64 k)∧st=st,binA E0 .neq 3 (i64 k) (i64 2)=some FF,loadA E0 st 3 (.ptr a 0)=some (i64 k)∧st=st,binA E0 .neq 3 (i64 k) (i64 8)=some FF]):=by kernel_rfl
theorem f21_4_FFFFFFF{a:Nat}{s:ByteArray}{st:St}{c n k:Int}(h1:binA E0 .eql 9 (str s) (str ⟨#[]⟩)=some FF)(h2:loadA E0 st 3 (.ptr a 1)=some (i64 c))(h3:binA E0 .neq 3 (i64 c) (i64 0)=some FF)(h4:loadA E0 st 3 (.ptr a 2)=some (i64 n))(h5:binA E0 .neq 3 (i64 n) (i64 0)=some FF)(h6:loadA E0 st 3 (.ptr a 0)=some (i64 k))(h7:binA E0 .neq 3 (i64 k) (i64 2)=some FF)(h8:loadA E0 st 3 (.ptr a 0)=some (i64 k))(h9:binA E0 .neq 3 (i64 k) (i64 8)=some FF){T:Tm}(hT:f21L4 T (.ptr a 0) (str s) FF FF):AW Tryz.prog (f21P 4) (fun ex T' st'=>ex= .normal∧f21L5 T' (.ptr a 0) (str s) FF FF FF∧st'=st) T st:=by
  obtain ⟨hn,g1,g4,g5,g6⟩:=hT
  exact (gen_run (G:=fun T=>([T.get 1,T.get 4,T.get 5,T.get 6,T.get 79]:List AV)) hE (f21_4_FFFFFFF_e a s st c n k) (Ob.ok_cons.2 ⟨h1,(Ob.ok_cons.2 ⟨⟨h2,rfl⟩,(Ob.ok_cons.2 ⟨h3,(Ob.ok_cons.2 ⟨⟨h4,rfl⟩,(Ob.ok_cons.2 ⟨h5,(Ob.ok_cons.2 ⟨⟨h6,rfl⟩,(Ob.ok_cons.2 ⟨h7,(Ob.ok_cons.2 ⟨⟨h8,rfl⟩,(Ob.ok_cons.2 ⟨h9,Ob.ok_nil⟩)⟩)⟩)⟩)⟩)⟩)⟩)⟩)⟩) hn (conz g1 (conz g4 (conz g5 (one g6))))).mono fun ex T' st' ⟨q1,q2,q3,q4⟩=>by simp only [List.cons.injEq,and_true] at q3;exact ⟨q1,⟨q2,q3⟩,q4⟩
def f21L6(T:Tm):Prop:=T.n=118
def f21L7(T:Tm)(a2 a3:AV):Prop:=T.n=118∧T.get 2=a2∧T.get 3=a3
theorem f21_5_e(st:St):((evS Tryz.prog E0 noOv noS 100000 [] (f21P 5) ⟨118,[],[]⟩ st []).map fun q=>(q.1,q.2.1.n,([q.2.1.get 2,q.2.1.get 3]:List AV),q.2.2.1,q.2.2.2.2))=some (.normal,118,[(str ⟨#[]⟩),FF],st,[]):=by kernel_rfl
theorem f21_5{st:St}{T:Tm}(hT:f21L6 T):AW Tryz.prog (f21P 5) (fun ex T' st'=>ex= .normal∧f21L7 T' (str ⟨#[]⟩) FF∧st'=st) T st:=by
  have hn:T.n=118:=hT
  exact (gen_run (G:=fun T=>([T.get 2,T.get 3]:List AV)) hE (f21_5_e st) Ob.ok_nil hn (fun q hq=>by cases hq)).mono fun ex T' st' ⟨q1,q2,q3,q4⟩=>by simp only [List.cons.injEq,and_true] at q3;exact ⟨q1,⟨q2,q3⟩,q4⟩
def f21L8(T:Tm)(a1 a4 a6 a80:AV):Prop:=T.n=118∧T.get 1=a1∧T.get 4=a4∧T.get 6=a6∧T.get 80=a80
theorem f21_8_e(a:Nat)(s:ByteArray)(b5 b6:Bool)(st:St):((evS Tryz.prog E0 noOv noS 100000 [] (f21P 8) ⟨118,[(1,(.ptr a 0)),(4,(str s)),(5,(bo b5)),(6,(bo b6))],[]⟩ st []).map fun q=>(q.1,q.2.1.n,([q.2.1.get 1,q.2.1.get 4,q.2.1.get 6,q.2.1.get 80]:List AV),q.2.2.1,q.2.2.2.2))=some (.normal,118,[(.ptr a 0),(str s),(bo b6),(bo b5)],st,[]):=by kernel_rfl
theorem f21_8{a:Nat}{s:ByteArray}{b5 b6:Bool}{st:St}{T:Tm}(hT:f21L4 T (.ptr a 0) (str s) (bo b5) (bo b6)):AW Tryz.prog (f21P 8) (fun ex T' st'=>ex= .normal∧f21L8 T' (.ptr a 0) (str s) (bo b6) (bo b5)∧st'=st) T st:=by
  obtain ⟨hn,g1,g4,g5,g6⟩:=hT
  exact (gen_run (G:=fun T=>([T.get 1,T.get 4,T.get 6,T.get 80]:List AV)) hE (f21_8_e a s b5 b6 st) Ob.ok_nil hn (conz g1 (conz g4 (conz g5 (one g6))))).mono fun ex T' st' ⟨q1,q2,q3,q4⟩=>by simp only [List.cons.injEq,and_true] at q3;exact ⟨q1,⟨q2,q3⟩,q4⟩
def f21L9(T:Tm)(a1 a4 a6:AV):Prop:=T.n=118∧T.get 1=a1∧T.get 4=a4∧T.get 6=a6
theorem f21_9_e(a:Nat)(s w84 w86:ByteArray)(b6:Bool)(st s1 s2 s3:St)(c:Int)(v85:AV):((evS Tryz.prog E0 noOv noS 100000 [2083,2085,6039,6040] (f21P 9) ⟨118,[(1,(.ptr a 0)),(4,(str s)),(6,(bo b6))],[]⟩ st [.eff (i64 c) id,.eff (str w84) (fun _=>s1),.eff v85 (fun _=>s2),.eff (str w86) (fun _=>s3)]).map fun q=>(q.1,q.2.1.n,([q.2.1.get 1,q.2.1.get 4,q.2.1.get 6]:List AV),q.2.2.1,q.2.2.2.2))=some (.normal,118,[(.ptr a 0),(str w86),(bo b6)],s3,[loadA E0 st 3 (.ptr a 1)=some (i64 c)∧st=st,obC 40 [(i64 c)] st (str w84) s1,buildSliceA E0 s1 61 2 [(0,(str s)),(1,(str w84))]=some (v85,s2),obC 39 [v85] s2 (str w86) s3]):=by kernel_rfl
theorem f21_9{a:Nat}{s w84 w86:ByteArray}{b6:Bool}{st s1 s2 s3:St}{c:Int}{v85:AV}(h1:loadA E0 st 3 (.ptr a 1)=some (i64 c))(h2:obC 40 [(i64 c)] st (str w84) s1)(h3:buildSliceA E0 s1 61 2 [(0,(str s)),(1,(str w84))]=some (v85,s2))(h4:obC 39 [v85] s2 (str w86) s3){T:Tm}(hT:f21L9 T (.ptr a 0) (str s) (bo b6)):AW Tryz.prog (f21P 9) (fun ex T' st'=>ex= .normal∧f21L9 T' (.ptr a 0) (str w86) (bo b6)∧st'=s3) T st:=by
  obtain ⟨hn,g1,g4,g6⟩:=hT
  exact (gen_run (G:=fun T=>([T.get 1,T.get 4,T.get 6]:List AV)) hE (f21_9_e a s w84 w86 b6 st s1 s2 s3 c v85) (Ob.ok_cons.2 ⟨⟨h1,rfl⟩,(Ob.ok_cons.2 ⟨h2,(Ob.ok_cons.2 ⟨h3,(Ob.ok_cons.2 ⟨h4,Ob.ok_nil⟩)⟩)⟩)⟩) hn (conz g1 (conz g4 (one g6)))).mono fun ex T' st' ⟨q1,q2,q3,q4⟩=>by simp only [List.cons.injEq,and_true] at q3;exact ⟨q1,⟨q2,q3⟩,q4⟩
def f21L10(T:Tm)(a1 a4 a87:AV):Prop:=T.n=118∧T.get 1=a1∧T.get 4=a4∧T.get 87=a87
theorem f21_11_e(a:Nat)(s:ByteArray)(b6:Bool)(st:St):((evS Tryz.prog E0 noOv noS 100000 [] (f21P 11) ⟨118,[(1,(.ptr a 0)),(4,(str s)),(6,(bo b6))],[]⟩ st []).map fun q=>(q.1,q.2.1.n,([q.2.1.get 1,q.2.1.get 4,q.2.1.get 87]:List AV),q.2.2.1,q.2.2.2.2))=some (.normal,118,[(.ptr a 0),(str s),(bo b6)],st,[]):=by kernel_rfl
theorem f21_11{a:Nat}{s:ByteArray}{b6:Bool}{st:St}{T:Tm}(hT:f21L9 T (.ptr a 0) (str s) (bo b6)):AW Tryz.prog (f21P 11) (fun ex T' st'=>ex= .normal∧f21L10 T' (.ptr a 0) (str s) (bo b6)∧st'=st) T st:=by
  obtain ⟨hn,g1,g4,g6⟩:=hT
  exact (gen_run (G:=fun T=>([T.get 1,T.get 4,T.get 87]:List AV)) hE (f21_11_e a s b6 st) Ob.ok_nil hn (conz g1 (conz g4 (one g6)))).mono fun ex T' st' ⟨q1,q2,q3,q4⟩=>by simp only [List.cons.injEq,and_true] at q3;exact ⟨q1,⟨q2,q3⟩,q4⟩
theorem f21_12_e(a:Nat)(s w91 w93:ByteArray)(st s1 s2 s3:St)(n:Int)(v92:AV):((evS Tryz.prog E0 noOv noS 100000 [2090,2092,6039,6040] (f21P 12) ⟨118,[(1,(.ptr a 0)),(4,(str s))],[]⟩ st [.eff (i64 n) id,.eff (str w91) (fun _=>s1),.eff v92 (fun _=>s2),.eff (str w93) (fun _=>s3)]).map fun q=>(q.1,q.2.1.n,([q.2.1.get 1,q.2.1.get 4]:List AV),q.2.2.1,q.2.2.2.2))=some (.normal,118,[(.ptr a 0),(str w93)],s3,[loadA E0 st 3 (.ptr a 2)=some (i64 n)∧st=st,obC 40 [(i64 n)] st (str w91) s1,buildSliceA E0 s1 61 2 [(0,(str s)),(1,(str w91))]=some (v92,s2),obC 39 [v92] s2 (str w93) s3]):=by kernel_rfl
theorem f21_12{a:Nat}{s w91 w93:ByteArray}{st s1 s2 s3:St}{n:Int}{v92:AV}(h1:loadA E0 st 3 (.ptr a 2)=some (i64 n))(h2:obC 40 [(i64 n)] st (str w91) s1)(h3:buildSliceA E0 s1 61 2 [(0,(str s)),(1,(str w91))]=some (v92,s2))(h4:obC 39 [v92] s2 (str w93) s3){T:Tm}(hT:f21L2 T (.ptr a 0) (str s)):AW Tryz.prog (f21P 12) (fun ex T' st'=>ex= .normal∧f21L2 T' (.ptr a 0) (str w93)∧st'=s3) T st:=by
  obtain ⟨hn,g1,g4⟩:=hT
  exact (gen_run (G:=fun T=>([T.get 1,T.get 4]:List AV)) hE (f21_12_e a s w91 w93 st s1 s2 s3 n v92) (Ob.ok_cons.2 ⟨⟨h1,rfl⟩,(Ob.ok_cons.2 ⟨h2,(Ob.ok_cons.2 ⟨h3,(Ob.ok_cons.2 ⟨h4,Ob.ok_nil⟩)⟩)⟩)⟩) hn (conz g1 (one g4))).mono fun ex T' st' ⟨q1,q2,q3,q4⟩=>by simp only [List.cons.injEq,and_true] at q3;exact ⟨q1,⟨q2,q3⟩,q4⟩
def f21L11(T:Tm)(a1 a4 a96:AV):Prop:=T.n=118∧T.get 1=a1∧T.get 4=a4∧T.get 96=a96
theorem f21_14_T_e(a:Nat)(s:ByteArray)(st:St)(k:Int):((evS Tryz.prog E0 noOv noS 100000 [2095,7096] (f21P 14) ⟨118,[(1,(.ptr a 0)),(4,(str s))],[]⟩ st [.eff (i64 k) id,.av TT]).map fun q=>(q.1,q.2.1.n,([q.2.1.get 1,q.2.1.get 4,q.2.1.get 96]:List AV),q.2.2.1,q.2.2.2.2))=some (.normal,118,[(.ptr a 0),(str s),TT],st,[loadA E0 st 3 (.ptr a 0)=some (i64 k)∧st=st,binA E0 .eql 3 (i64 k) (i64 2)=some TT]):=by kernel_rfl
theorem f21_14_T{a:Nat}{s:ByteArray}{st:St}{k:Int}(h1:loadA E0 st 3 (.ptr a 0)=some (i64 k))(h2:binA E0 .eql 3 (i64 k) (i64 2)=some TT){T:Tm}(hT:f21L2 T (.ptr a 0) (str s)):AW Tryz.prog (f21P 14) (fun ex T' st'=>ex= .normal∧f21L11 T' (.ptr a 0) (str s) TT∧st'=st) T st:=by
  obtain ⟨hn,g1,g4⟩:=hT
  exact (gen_run (G:=fun T=>([T.get 1,T.get 4,T.get 96]:List AV)) hE (f21_14_T_e a s st k) (Ob.ok_cons.2 ⟨⟨h1,rfl⟩,(Ob.ok_cons.2 ⟨h2,Ob.ok_nil⟩)⟩) hn (conz g1 (one g4))).mono fun ex T' st' ⟨q1,q2,q3,q4⟩=>by simp only [List.cons.injEq,and_true] at q3;exact ⟨q1,⟨q2,q3⟩,q4⟩
theorem f21_14_F_e(a:Nat)(s:ByteArray)(st:St)(k:Int):((evS Tryz.prog E0 noOv noS 100000 [2095,7096] (f21P 14) ⟨118,[(1,(.ptr a 0)),(4,(str s))],[]⟩ st [.eff (i64 k) id,.av FF]).map fun q=>(q.1,q.2.1.n,([q.2.1.get 1,q.2.1.get 4,q.2.1.get 96]:List AV),q.2.2.1,q.2.2.2.2))=some (.normal,118,[(.ptr a 0),(str s),FF],st,[loadA E0 st 3 (.ptr a 0)=some (i64 k)∧st=st,binA E0 .eql 3 (i64 k) (i64 2)=some FF]):=by kernel_rfl
theorem f21_14_F{a:Nat}{s:ByteArray}{st:St}{k:Int}(h1:loadA E0 st 3 (.ptr a 0)=some (i64 k))(h2:binA E0 .eql 3 (i64 k) (i64 2)=some FF){T:Tm}(hT:f21L2 T (.ptr a 0) (str s)):AW Tryz.prog (f21P 14) (fun ex T' st'=>ex= .normal∧f21L11 T' (.ptr a 0) (str s) FF∧st'=st) T st:=by
  obtain ⟨hn,g1,g4⟩:=hT
  exact (gen_run (G:=fun T=>([T.get 1,T.get 4,T.get 96]:List AV)) hE (f21_14_F_e a s st k) (Ob.ok_cons.2 ⟨⟨h1,rfl⟩,(Ob.ok_cons.2 ⟨h2,Ob.ok_nil⟩)⟩) hn (conz g1 (one g4))).mono fun ex T' st' ⟨q1,q2,q3,q4⟩=>by simp only [List.cons.injEq,and_true] at q3;exact ⟨q1,⟨q2,q3⟩,q4⟩
theorem f21_15_e(a:Nat)(s w100 w102:ByteArray)(st s1 s2 s3:St)(v99 v101:AV):((evS Tryz.prog E0 noOv noS 100000 [2099,2101,6028,6039] (f21P 15) ⟨118,[(1,(.ptr a 0)),(4,(str s))],[]⟩ st [.eff v99 id,.eff (str w100) (fun _=>s1),.eff v101 (fun _=>s2),.eff (str w102) (fun _=>s3)]).map fun q=>(q.1,q.2.1.n,([q.2.1.get 1,q.2.1.get 4]:List AV),q.2.2.1,q.2.2.2.2))=some (.normal,118,[(.ptr a 0),(str w102)],s3,[loadA E0 st 51 (.ptr a 3)=some v99∧st=st,obC 28 [v99] st (str w100) s1,buildSliceA E0 s1 61 2 [(0,(str s)),(1,(str w100))]=some (v101,s2),obC 39 [v101] s2 (str w102) s3]):=by kernel_rfl
theorem f21_15{a:Nat}{s w100 w102:ByteArray}{st s1 s2 s3:St}{v99 v101:AV}(h1:loadA E0 st 51 (.ptr a 3)=some v99)(h2:obC 28 [v99] st (str w100) s1)(h3:buildSliceA E0 s1 61 2 [(0,(str s)),(1,(str w100))]=some (v101,s2))(h4:obC 39 [v101] s2 (str w102) s3){T:Tm}(hT:f21L2 T (.ptr a 0) (str s)):AW Tryz.prog (f21P 15) (fun ex T' st'=>ex= .normal∧f21L2 T' (.ptr a 0) (str w102)∧st'=s3) T st:=by
  obtain ⟨hn,g1,g4⟩:=hT
  exact (gen_run (G:=fun T=>([T.get 1,T.get 4]:List AV)) hE (f21_15_e a s w100 w102 st s1 s2 s3 v99 v101) (Ob.ok_cons.2 ⟨⟨h1,rfl⟩,(Ob.ok_cons.2 ⟨h2,(Ob.ok_cons.2 ⟨h3,(Ob.ok_cons.2 ⟨h4,Ob.ok_nil⟩)⟩)⟩)⟩) hn (conz g1 (one g4))).mono fun ex T' st' ⟨q1,q2,q3,q4⟩=>by simp only [List.cons.injEq,and_true] at q3;exact ⟨q1,⟨q2,q3⟩,q4⟩
def f21L12(T:Tm)(a4 a104 a105 a106:AV):Prop:=T.n=118∧T.get 4=a4∧T.get 104=a104∧T.get 105=a105∧T.get 106=a106
theorem f21_17_e(a:Nat)(s:ByteArray)(st:St)(v104:AV)(n105:Int):((evS Tryz.prog E0 noOv noS 100000 [2104,7105] (f21P 17) ⟨118,[(1,(.ptr a 0)),(4,(str s))],[]⟩ st [.eff v104 id,.av (i64 n105)]).map fun q=>(q.1,q.2.1.n,([q.2.1.get 4,q.2.1.get 104,q.2.1.get 105,q.2.1.get 106]:List AV),q.2.2.1,q.2.2.2.2))=some (.normal,118,[(str s),v104,(i64 n105),(i64 0)],st,[loadA E0 st 52 (.ptr a 4)=some v104∧st=st,lenA E0 52 v104=some (i64 n105)]):=by kernel_rfl
theorem f21_17{a:Nat}{s:ByteArray}{st:St}{v104:AV}{n105:Int}(h1:loadA E0 st 52 (.ptr a 4)=some v104)(h2:lenA E0 52 v104=some (i64 n105)){T:Tm}(hT:f21L2 T (.ptr a 0) (str s)):AW Tryz.prog (f21P 17) (fun ex T' st'=>ex= .normal∧f21L12 T' (str s) v104 (i64 n105) (i64 0)∧st'=st) T st:=by
  obtain ⟨hn,g1,g4⟩:=hT
  exact (gen_run (G:=fun T=>([T.get 4,T.get 104,T.get 105,T.get 106]:List AV)) hE (f21_17_e a s st v104 n105) (Ob.ok_cons.2 ⟨⟨h1,rfl⟩,(Ob.ok_cons.2 ⟨h2,Ob.ok_nil⟩)⟩) hn (conz g1 (one g4))).mono fun ex T' st' ⟨q1,q2,q3,q4⟩=>by simp only [List.cons.injEq,and_true] at q3;exact ⟨q1,⟨q2,q3⟩,q4⟩
theorem f21_18_T_e(s w113 w115:ByteArray)(p q108 v114:AV)(n105 n106 n109 n112 n116:Int)(st s1 s2 s3:St):((evS Tryz.prog E0 noOv noS 100000 [2109,2112,2114,6039,6040,7107,7108,7116] (f21P 18) ⟨118,[(4,(str s)),(104,p),(105,(i64 n105)),(106,(i64 n106))],[]⟩ st [.av TT,.av q108,.eff (u16 n109) id,.eff (i64 n112) id,.eff (str w113) (fun _=>s1),.eff v114 (fun _=>s2),.eff (str w115) (fun _=>s3),.av (i64 n116)]).map fun q=>(q.1,q.2.1.n,([q.2.1.get 4,q.2.1.get 104,q.2.1.get 105,q.2.1.get 106]:List AV),q.2.2.1,q.2.2.2.2))=some (.normal,118,[(str w115),p,(i64 n105),(i64 n116)],s3,[binA E0 .lss 3 (i64 n106) (i64 n105)=some TT,indexAddrA E0 52 p (i64 n106)=some q108,loadA E0 st 66 q108=some (u16 n109)∧st=st,convO E0 st 66 3 (u16 n109)=some ((i64 n112),st),obC 40 [(i64 n112)] st (str w113) s1,buildSliceA E0 s1 61 2 [(0,(str s)),(1,(str w113))]=some (v114,s2),obC 39 [v114] s2 (str w115) s3,binA E0 .add 3 (i64 n106) (i64 1)=some (i64 n116)]):=by kernel_rfl
theorem f21_18_T{s w113 w115:ByteArray}{p q108 v114:AV}{n105 n106 n109 n112 n116:Int}{st s1 s2 s3:St}(h1:binA E0 .lss 3 (i64 n106) (i64 n105)=some TT)(h2:indexAddrA E0 52 p (i64 n106)=some q108)(h3:loadA E0 st 66 q108=some (u16 n109))(h4:convO E0 st 66 3 (u16 n109)=some ((i64 n112),st))(h5:obC 40 [(i64 n112)] st (str w113) s1)(h6:buildSliceA E0 s1 61 2 [(0,(str s)),(1,(str w113))]=some (v114,s2))(h7:obC 39 [v114] s2 (str w115) s3)(h8:binA E0 .add 3 (i64 n106) (i64 1)=some (i64 n116)){T:Tm}(hT:f21L12 T (str s) p (i64 n105) (i64 n106)):AW Tryz.prog (f21P 18) (fun ex T' st'=>ex= .normal∧f21L12 T' (str w115) p (i64 n105) (i64 n116)∧st'=s3) T st:=by
  obtain ⟨hn,g4,g104,g105,g106⟩:=hT
  exact (gen_run (G:=fun T=>([T.get 4,T.get 104,T.get 105,T.get 106]:List AV)) hE (f21_18_T_e s w113 w115 p q108 v114 n105 n106 n109 n112 n116 st s1 s2 s3) (Ob.ok_cons.2 ⟨h1,(Ob.ok_cons.2 ⟨h2,(Ob.ok_cons.2 ⟨⟨h3,rfl⟩,(Ob.ok_cons.2 ⟨h4,(Ob.ok_cons.2 ⟨h5,(Ob.ok_cons.2 ⟨h6,(Ob.ok_cons.2 ⟨h7,(Ob.ok_cons.2 ⟨h8,Ob.ok_nil⟩)⟩)⟩)⟩)⟩)⟩)⟩)⟩) hn (conz g4 (conz g104 (conz g105 (one g106))))).mono fun ex T' st' ⟨q1,q2,q3,q4⟩=>by simp only [List.cons.injEq,and_true] at q3;exact ⟨q1,⟨q2,q3⟩,q4⟩
def f21L13(T:Tm)(a4:AV):Prop:=T.n=118∧T.get 4=a4
theorem f21_18_F_e(s:ByteArray)(p:AV)(n105 n106:Int)(st:St):((evS Tryz.prog E0 noOv noS 100000 [2109,2112,2114,6039,6040,7107,7108,7116] (f21P 18) ⟨118,[(4,(str s)),(104,p),(105,(i64 n105)),(106,(i64 n106))],[]⟩ st [.av FF]).map fun q=>(q.1,q.2.1.n,([q.2.1.get 4]:List AV),q.2.2.1,q.2.2.2.2))=some ((.exit 0),118,[(str s)],st,[binA E0 .lss 3 (i64 n106) (i64 n105)=some FF]):=by kernel_rfl
theorem f21_18_F{s:ByteArray}{p:AV}{n105 n106:Int}{st:St}(h1:binA E0 .lss 3 (i64 n106) (i64 n105)=some FF){T:Tm}(hT:f21L12 T (str s) p (i64 n105) (i64 n106)):AW Tryz.prog (f21P 18) (fun ex T' st'=>ex=(.exit 0)∧f21L13 T' (str s)∧st'=st) T st:=by
  obtain ⟨hn,g4,g104,g105,g106⟩:=hT
  exact (gen_run (G:=fun T=>([T.get 4]:List AV)) hE (f21_18_F_e s p n105 n106 st) (Ob.ok_cons.2 ⟨h1,Ob.ok_nil⟩) hn (conz g4 (conz g104 (conz g105 (one g106))))).mono fun ex T' st' ⟨q1,q2,q3,q4⟩=>by simp only [List.cons.injEq,and_true] at q3;exact ⟨q1,⟨q2,q3⟩,q4⟩
theorem f21_19_e(s:ByteArray)(st:St):((evS Tryz.prog E0 noOv noS 100000 [] (f21P 19) ⟨118,[(4,(str s))],[]⟩ st []).map fun q=>(q.1,q.2.1.n,([q.2.1.get 2,q.2.1.get 3]:List AV),q.2.2.1,q.2.2.2.2))=some (.normal,118,[(str s),TT],st,[]):=by kernel_rfl
theorem f21_19{s:ByteArray}{st:St}{T:Tm}(hT:f21L13 T (str s)):AW Tryz.prog (f21P 19) (fun ex T' st'=>ex= .normal∧f21L7 T' (str s) TT∧st'=st) T st:=by
  obtain ⟨hn,g4⟩:=hT
  exact (gen_run (G:=fun T=>([T.get 2,T.get 3]:List AV)) hE (f21_19_e s st) Ob.ok_nil hn (one g4)).mono fun ex T' st' ⟨q1,q2,q3,q4⟩=>by simp only [List.cons.injEq,and_true] at q3;exact ⟨q1,⟨q2,q3⟩,q4⟩
end
section
set_option maxRecDepth 100000
open Go.RowKit Go.Sort Go.Shelf
/-! ### strconv.Itoa, by the shelf's contract -/
theorem itoaC(n:Int)(h0: -9223372036854775808≤n)(h1:n≤9223372036854775807)(w:World)(htab:Lib.TabIs Tryz.prog w "internal/strconv.uint64pow10" .u64 Lib.pow10Tab):
    Calls Tryz.prog 40 #[.int .i64 n] w fun e w'=>e= .returned (.string ⟨(Lib.itoa n).toArray⟩)∧∃k os,w'=grow (w.drewN k) os:=Any.strconv_Itoa Tryz.itoa30 n h0 h1 w htab
theorem below_grow(w:World)(k:Nat)(os:Array Obj):Below w.heap.size w (grow (w.drewN k) os):=by
  refine ⟨rfl,rfl,rfl,?_,fun b hb=> ?_⟩
  · show w.heap.size≤((w.drewN k).heap++os).size
    rw [Array.size_append];exact Nat.le_add_right _ _
  · show ((w.drewN k).heap++os)[b]? =w.heap[b]?
    rw [Array.getElem?_append_left (by exact hb)]
    rfl
/-- what a listed table holds, as the shelf says it -/
theorem tab_is{g:G}{st:St}{w:World}(hok:OK g st w)(hgl:Tabs st):Lib.TabIs Tryz.prog w "internal/strconv.uint64pow10" .u64 Lib.pow10Tab:=by
  have hp:(1,intsAV .u64 zs10)∈st.gl:=hgl _ (by simp [stTab,tabsD])
  obtain ⟨h1,h23,_⟩:=hok.glob _ hp
  obtain ⟨h2,h3⟩:=h23 (by simp [intsAV,zs10])
  obtain ⟨cs,T,fr,h4,h5⟩:=hok.imm 1 h2
  have hcs:cs.toList=zs10.map fun z=>Value.int .u64 z:=by
    cases h1 with
    |iptr _ us A hu hx h1 hA=>
      obtain ⟨_,hpre⟩:=hA
      have hpre:us<+:(g.M 1).drop 0:=hpre
      rw [List.drop_zero] at hpre
      have hlen:us.length=(g.M 1).length:=by rw [hu];exact h3.symm
      have he:us=g.M 1:=hpre.eq_of_length hlen
      rw [←h5,←he]
      apply List.ext_getElem?
      intro i
      by_cases hi:i<us.length
      · have hz:i<zs10.length:=by
          have:us.length=zs10.length:=by rw [hu];rfl
          omega
        have:=hx i (by rw [←hu];exact hi)
        have e1:(intsAV .u64 zs10).getD i .undef= .val (.int .u64 zs10[i]):=by
          simp [intsAV,List.getD_eq_getElem?_getD,List.getElem?_eq_getElem hz]
        rw [e1] at this
        have e2:=this.val_inv
        rw [List.getD_eq_getElem?_getD,List.getElem?_eq_getElem hi] at e2
        rw [List.getElem?_eq_getElem hi,List.getElem?_map,List.getElem?_eq_getElem hz]
        simp only [Option.getD_some] at e2
        rw [e2];rfl
      · rw [List.getElem?_eq_none (by omega),List.getElem?_eq_none]
        rw [List.length_map]
        have:us.length=zs10.length:=by rw [hu];rfl
        omega
  have hg:Tryz.prog.globalNamed "internal/strconv.uint64pow10" =some 1:=by kernel_rfl
  unfold Lib.TabIs World.var?
  rw [hg]
  simp only [Option.bind_some,h4]
  congr 1
  have:cs=(zs10.map fun z=>Value.int .u64 z).toArray:=by
    apply Array.ext'
    rw [hcs]
  rw [this]
  rfl
theorem itoa_ok{st:St}(hgl:Tabs st){n:Int}(h0: -9223372036854775808≤n)(h1:n≤9223372036854775807):obC 40 [i64 n] st (sb (Lib.itoa n)) st:=by
  intro g w us hok hv
  rw [vals1 hv]
  exact (itoaC n h0 h1 w (tab_is hok hgl)).mono fun e w' ⟨he,k,os,hw⟩=>by
    subst hw
    exact ⟨g,st,_,_,he,step_below hok (below_grow w k os),.val _ rfl,rfl,rfl⟩
/-! ### parts, a blank between each -/
theorem line2{σ:St}{a b:List UInt8}(h:a.length+b.length≤100000000000):obC 39 [.sl σ.next 1 0 2 true] (σ.push (.row [sb a,sb b] 9)) (sb (a++32::b)) (σ.push (.row [sb a,sb b] 9)):=by
  have hx:sliceCells (σ.push (.row [sb a,sb b] 9)) (.sl σ.next 1 0 2 true)=some ([(⟨a.toArray⟩:ByteArray),⟨b.toArray⟩].length,strsB [⟨a.toArray⟩,⟨b.toArray⟩]):=by
    simp only [sliceCells,St.get_push,if_true]
    rfl
  have e:Lib.join ([(⟨a.toArray⟩:ByteArray),⟨b.toArray⟩].map (·.data.toList)) (⟨#[32]⟩:ByteArray).data.toList=a++32::b:=by simp [Lib.join]
  have:=join_ok (sep:=⟨#[32]⟩) hx (by simp) (by rw [e];simp only [List.length_append,List.length_cons];omega)
  rw [e] at this
  exact f39 this
theorem line3{σ:St}{a b c:List UInt8}(h:a.length+b.length+c.length≤100000000000):obC 39 [.sl σ.next 1 0 3 true] (σ.push (.row [sb a,sb b,sb c] 9)) (sb (a++32::(b++32::c))) (σ.push (.row [sb a,sb b,sb c] 9)):=by
  have hx:sliceCells (σ.push (.row [sb a,sb b,sb c] 9)) (.sl σ.next 1 0 3 true)=some ([(⟨a.toArray⟩:ByteArray),⟨b.toArray⟩,⟨c.toArray⟩].length,strsB [⟨a.toArray⟩,⟨b.toArray⟩,⟨c.toArray⟩]):=by
    simp only [sliceCells,St.get_push,if_true]
    rfl
  have e:Lib.join ([(⟨a.toArray⟩:ByteArray),⟨b.toArray⟩,⟨c.toArray⟩].map (·.data.toList)) (⟨#[32]⟩:ByteArray).data.toList=a++32::(b++32::c):=by simp [Lib.join]
  have:=join_ok (sep:=⟨#[32]⟩) hx (by simp) (by rw [e];simp only [List.length_append,List.length_cons];omega)
  rw [e] at this
  exact f39 this
theorem bs78(st:St)(a b:ByteArray):buildSliceA E0 st 61 2 [(0,str a),(1,str b)]=some (.sl st.next 1 0 2 true,st.push (.row [str a,str b] 9)):=by kernel_rfl
theorem bs78c(st:St)(a b c:ByteArray):buildSliceA E0 st 61 3 [(0,str a),(1,str b),(2,str c)]=some (.sl st.next 1 0 3 true,st.push (.row [str a,str b,str c] 9)):=by kernel_rfl
/-! ### the names of the Kinds -/
def nmL:List (List UInt8):= [[],[99,111,110,110,101,99,116],[112,117,115,104],[99,108,111,115,101],[116,105,99,107],[115,116,101,112],[113,117,111,116,97],[102,117,115,101],[99,114,97,115,104],[111,112,101,110]]
def nmF(k:Int):List UInt8:=if k<1∨10≤k then [] else nmL.getD k.toNat []
def kindsS:ByteArray:=⟨#[32,99,111,110,110,101,99,116,32,112,117,115,104,32,99,108,111,115,101,32,116,105,99,107,32,115,116,101,112,32,113,117,111,116,97,32,102,117,115,101,32,99,114,97,115,104,32,111,112,101,110]⟩
theorem split43:((evCall E0 ovS 1000000 64 [str kindsS,str ⟨#[32]⟩] (stTab tabsD)).map fun q=>(q.1,q.2.next,q.2.get 0,q.2.lock))=some (.sl 0 1 0 10 true,1,some (.row (nmL.map sb) 9),[]):=by kernel_rfl
theorem split_ok{st:St}(hgl:Tabs st)(hw:st.wf):obC 64 [str kindsS,str ⟨#[32]⟩] st (.sl st.next 1 0 10 true) (st.push (.row (nmL.map sb) 9)):=by
  obtain ⟨⟨a,s⟩,h1,h2⟩:=Option.map_eq_some_iff.1 split43
  simp only [Prod.mk.injEq] at h2
  obtain ⟨rfl,hn,h0,hk⟩:=h2
  have hc:=(ev_ok (envOf_ok (P:=Tryz.prog) rfl) ovS_ok 1000000).call 64 _ (stTab tabsD) _ h1
  have hfr:=hc.frame (emb_tab hgl)
  refine hfr.mono fun r s' hq=> ?_
  obtain ⟨r0,st0',hq0,h3,h4,_,hwf⟩:=hq
  cases hq0
  refine ⟨h3,?_⟩
  rw [h4]
  have e:hadL (stTab tabsD) s= [0]:=by unfold hadL;rw [hn];rfl
  unfold mergeSt
  rw [e,hn]
  simp only [List.foldl,h0]
  rfl
theorem ty78:∃i,E0.ty 61=some i∧i.desc= .slice 9:=by
  have h:(E0.ty 61).map (·.desc)=some (.slice 9):=by kernel_rfl
  obtain ⟨i,h1,h2⟩:=Option.map_eq_some_iff.1 h
  exact ⟨i,h1,h2⟩
theorem ln78(a b c n:Nat)(f:Bool):lenA E0 61 (.sl a b c n f)=some (i64 n):=by
  obtain ⟨i,h1,h2⟩:=ty78
  simp only [lenA,h1,h2]
theorem ix78{a n:Nat}{f:Bool}{k:Nat}(h:k<n):indexAddrA E0 61 (.sl a 1 0 n f) (i64 k)=some (.ptr a k):=by
  obtain ⟨i,h1,h2⟩:=ty78
  simp only [indexAddrA,h1,h2]
  rw [if_pos ⟨by kernel_rfl,by omega,by omega⟩]
  simp
theorem name_ok{st:St}(hgl:Tabs st)(hw:st.wf)(k:Int):obC 38 [i64 k] st (sb (nmF k)) (st.push (.row (nmL.map sb) 9)):=by
  have hs:=split_ok hgl hw
  by_cases h1:k<1
  · rw [show nmF k= [] from if_pos (.inl h1)]
    exact f38_T hs (lssT h1)
  · by_cases h2:10≤k
    · rw [show nmF k= [] from if_pos (.inr h2)]
      exact f38_FT hs (lssF h1) (ln78 ..) (geqT h2)
    · rw [show nmF k=nmL.getD k.toNat [] from if_neg (by omega)]
      obtain ⟨j,rfl⟩:∃j:Nat,k=j:=⟨k.toNat,by omega⟩
      have hj:j<10:=by omega
      refine f38_FF hs (lssF h1) (ln78 ..) (geqF (by omega)) (ix78 hj) ?_
      simp only [loadA,St.get_push,if_true]
      refine plainT k9 ?_
      rw [List.getElem?_map,Int.toNat_natCast,List.getD_eq_getElem?_getD,List.getElem?_eq_getElem (by exact hj)]
      rfl
/-! ### eventLine's tests -/
theorem tests19{a:Nat}{s:ByteArray}{st:St}{k c n nd np:Int}{d p:AV}{e0 b5 cz b6 nz k2 dz k8 pz:Bool}(hE:binA E0 .eql 9 (str s) (str ⟨#[]⟩)=some (bo e0))(l0:loadA E0 st 3 (.ptr a 0)=some (i64 k))(l1:loadA E0 st 3 (.ptr a 1)=some (i64 c))(l2:loadA E0 st 3 (.ptr a 2)=some (i64 n))(l3:loadA E0 st 51 (.ptr a 3)=some d)(l4:loadA E0 st 52 (.ptr a 4)=some p)
    (hC:binA E0 .neq 3 (i64 c) (i64 0)=some (bo cz)) (hN:binA E0 .neq 3 (i64 n) (i64 0)=some (bo nz)) (hK2:binA E0 .neq 3 (i64 k) (i64 2)=some (bo k2)) (n3:lenA E0 51 d=some (i64 nd)) (hD:binA E0 .gtr 3 (i64 nd) (i64 0)=some (bo dz)) (hK8:binA E0 .neq 3 (i64 k) (i64 8)=some (bo k8)) (n4:lenA E0 52 p=some (i64 np)) (hP:binA E0 .gtr 3 (i64 np) (i64 0)=some (bo pz))
    {T:Tm} (hT:f21L4 T (.ptr a 0) (str s) (bo b5) (bo b6)):AW Tryz.prog (f21P 4) (fun ex T' st'=>ex= .normal∧f21L5 T' (.ptr a 0) (str s) (bo b5) (bo b6) (bo (e0||(!b5&&cz)||(!b6&&nz)||(k2&&dz)||(k8&&pz)))∧st'=st) T st:=by
  cases e0 with
  |true=>
    exact f21_4_T hE hT
  |false=>
    cases b5 with
    |true=>
      cases b6 with
      |true=>
        cases k2 with
        |true=>
          cases dz with
          |true=>
            exact f21_4_FTTTT hE l0 hK2 l3 n3 hD hT
          |false=>
            cases k8 with
            |true=>
              cases pz with
              |true=>
                exact f21_4_FTTTFTT hE l0 hK2 l3 n3 hD l0 hK8 l4 n4 hP hT
              |false=>
                exact f21_4_FTTTFTF hE l0 hK2 l3 n3 hD l0 hK8 l4 n4 hP hT
            |false=>
              exact f21_4_FTTTFF hE l0 hK2 l3 n3 hD l0 hK8 hT
        |false=>
          cases k8 with
          |true=>
            cases pz with
            |true=>
              exact f21_4_FTTFTT hE l0 hK2 l0 hK8 l4 n4 hP hT
            |false=>
              exact f21_4_FTTFTF hE l0 hK2 l0 hK8 l4 n4 hP hT
          |false=>
            exact f21_4_FTTFF hE l0 hK2 l0 hK8 hT
      |false=>
        cases nz with
        |true=>
          exact f21_4_FTFT hE l2 hN hT
        |false=>
          cases k2 with
          |true=>
            cases dz with
            |true=>
              exact f21_4_FTFFTT hE l2 hN l0 hK2 l3 n3 hD hT
            |false=>
              cases k8 with
              |true=>
                cases pz with
                |true=>
                  exact f21_4_FTFFTFTT hE l2 hN l0 hK2 l3 n3 hD l0 hK8 l4 n4 hP hT
                |false=>
                  exact f21_4_FTFFTFTF hE l2 hN l0 hK2 l3 n3 hD l0 hK8 l4 n4 hP hT
              |false=>
                exact f21_4_FTFFTFF hE l2 hN l0 hK2 l3 n3 hD l0 hK8 hT
          |false=>
            cases k8 with
            |true=>
              cases pz with
              |true=>
                exact f21_4_FTFFFTT hE l2 hN l0 hK2 l0 hK8 l4 n4 hP hT
              |false=>
                exact f21_4_FTFFFTF hE l2 hN l0 hK2 l0 hK8 l4 n4 hP hT
            |false=>
              exact f21_4_FTFFFF hE l2 hN l0 hK2 l0 hK8 hT
    |false=>
      cases cz with
      |true=>
        exact f21_4_FFT hE l1 hC hT
      |false=>
        cases b6 with
        |true=>
          cases k2 with
          |true=>
            cases dz with
            |true=>
              exact f21_4_FFFTTT hE l1 hC l0 hK2 l3 n3 hD hT
            |false=>
              cases k8 with
              |true=>
                cases pz with
                |true=>
                  exact f21_4_FFFTTFTT hE l1 hC l0 hK2 l3 n3 hD l0 hK8 l4 n4 hP hT
                |false=>
                  exact f21_4_FFFTTFTF hE l1 hC l0 hK2 l3 n3 hD l0 hK8 l4 n4 hP hT
              |false=>
                exact f21_4_FFFTTFF hE l1 hC l0 hK2 l3 n3 hD l0 hK8 hT
          |false=>
            cases k8 with
            |true=>
              cases pz with
              |true=>
                exact f21_4_FFFTFTT hE l1 hC l0 hK2 l0 hK8 l4 n4 hP hT
              |false=>
                exact f21_4_FFFTFTF hE l1 hC l0 hK2 l0 hK8 l4 n4 hP hT
            |false=>
              exact f21_4_FFFTFF hE l1 hC l0 hK2 l0 hK8 hT
        |false=>
          cases nz with
          |true=>
            exact f21_4_FFFFT hE l1 hC l2 hN hT
          |false=>
            cases k2 with
            |true=>
              cases dz with
              |true=>
                exact f21_4_FFFFFTT hE l1 hC l2 hN l0 hK2 l3 n3 hD hT
              |false=>
                cases k8 with
                |true=>
                  cases pz with
                  |true=>
                    exact f21_4_FFFFFTFTT hE l1 hC l2 hN l0 hK2 l3 n3 hD l0 hK8 l4 n4 hP hT
                  |false=>
                    exact f21_4_FFFFFTFTF hE l1 hC l2 hN l0 hK2 l3 n3 hD l0 hK8 l4 n4 hP hT
                |false=>
                  exact f21_4_FFFFFTFF hE l1 hC l2 hN l0 hK2 l3 n3 hD l0 hK8 hT
            |false=>
              cases k8 with
              |true=>
                cases pz with
                |true=>
                  exact f21_4_FFFFFFTT hE l1 hC l2 hN l0 hK2 l0 hK8 l4 n4 hP hT
                |false=>
                  exact f21_4_FFFFFFTF hE l1 hC l2 hN l0 hK2 l0 hK8 l4 n4 hP hT
              |false=>
                exact f21_4_FFFFFFF hE l1 hC l2 hN l0 hK2 l0 hK8 hT
end
section
set_option maxRecDepth 8000
/-! ### rows of small numbers, as they are read -/
def NS(st:St)(v:AV)(ps:List Nat):Prop:=(v= .nils∧ps= [])∨(∃f,v= .imm 1 ps.length f (ps.map fun x:Nat=>u16 x))∨
  ∃id off f vs,v= .sl id 1 off ps.length f∧st.get id=some (.row vs 66)∧(vs.drop off).take ps.length=(ps.map fun x:Nat=>u16 x)∧off+ps.length≤vs.length
theorem ty36:∃i,E0.ty 52=some i∧i.desc= .slice 66:=by
  have h:(E0.ty 52).map (·.desc)=some (.slice 66):=by kernel_rfl
  obtain ⟨i,h1,h2⟩:=Option.map_eq_some_iff.1 h
  exact ⟨i,h1,h2⟩
theorem k39:(E0.ty 66).map (fun i=>isAggD i.desc)=some false:=by kernel_rfl
theorem z39:tySize E0 66=some 1:=by kernel_rfl
theorem NS.len{st:St}{v:AV}{ps:List Nat}(h:NS st v ps):lenA E0 52 v=some (i64 ps.length):=by
  obtain ⟨i,h1,h2⟩:=ty36
  rcases h with ⟨rfl,rfl⟩|⟨f,rfl⟩|⟨id,off,f,vs,rfl,_⟩<;>simp only [lenA,h1,h2]<;>rfl
theorem NS.at{st:St}{v:AV}{ps:List Nat}(h:NS st v ps){i x:Nat}(hx:ps[i]? =some x):∃q,indexAddrA E0 52 v (i64 i)=some q∧loadA E0 st 66 q=some (u16 x):=by
  have hi:i<ps.length:=(List.getElem?_eq_some_iff.1 hx).1
  obtain ⟨ti,t1,t2⟩:=ty36
  rcases h with ⟨_,rfl⟩|⟨f,rfl⟩|⟨id,off,f,vs,rfl,hg,h1,h2⟩
  · simp at hx
  · refine ⟨.iptr ((ps.map fun x:Nat=>u16 x).drop (i*1)),?_,?_⟩
    · simp only [indexAddrA,t1,t2,z39]
      rw [if_pos ⟨trivial,by omega,by omega,by decide⟩];rfl
    · show partA E0 66 ((ps.map fun x:Nat=>u16 x).drop (i*1)) 0=some (u16 x)
      exact plainT k39 (by rw [List.getElem?_drop];simp [hx])
  · refine ⟨.ptr id (off+i*1),?_,?_⟩
    · simp only [indexAddrA,t1,t2,z39]
      rw [if_pos ⟨trivial,by omega,by omega⟩];rfl
    · simp only [loadA,hg]
      refine plainT k39 ?_
      have:((vs.drop off).take ps.length)[i]? =some (u16 x):=by rw [h1,List.getElem?_map,hx];rfl
      rw [List.getElem?_take,if_pos hi,List.getElem?_drop] at this
      rw [Nat.mul_one];exact this
theorem NS.rest{st st':St}{v:AV}{ps:List Nat}(h:NS st v ps){S:List Nat}(hr:Rest st st' S)(hS:∀i∈fid v,i∉S):NS st' v ps:=by
  rcases h with h|h|⟨id,off,f,vs,h,hg,h1,h2⟩
  · exact .inl h
  · exact .inr (.inl h)
  · exact .inr (.inr ⟨id,off,f,vs,h,hr.keep _ _ (hS id (by rw [h];simp [fid])) hg,h1,h2⟩)
theorem conv393(st:St)(k:Nat)(h:k<65536):convO E0 st 66 3 (u16 k)=some (i64 k,st):=by
  have:convO E0 st 66 3 (u16 k)=some (i64 (IntKind.i64.wrap (k:Int)),st):=by kernel_rfl
  rw [this]
  have hw:IntKind.i64.wrap (k:Int)=k:=by
    simp only [IntKind.wrap,IntKind.signed,IntKind.bits]
    simp
    omega
  rw [hw]
/-! ### an event's line -/
def isConn(k:Int):Bool:=decide (k=2∨k=3)
def isNum(k:Int):Bool:=decide (k=4∨k=6∨k=7∨k=8)
def badEv(k c n:Int)(d:List UInt8)(p:List Nat):Bool:=(decide (nmF k= [])||(!isConn k&&decide (c≠0))||(!isNum k&&decide (n≠0))||(decide (k≠2)&&decide (d≠ []))||(decide (k≠8)&&decide (p≠ [])))
def pickF(p:List Nat):List UInt8:=p.flatMap fun x:Nat=>32::Lib.itoa x
def evLine(k c n:Int)(d:List UInt8)(p:List Nat):Option (List UInt8):=
  if badEv k c n d p then none
  else some (nmF k++(if isConn k then 32::Lib.itoa c else [])++(if isNum k then 32::Lib.itoa n else [])++(if k=2 then 32::quoteF d else [])++pickF p)
theorem neB(a b:Int):binA E0 .neq 3 (i64 a) (i64 b)=some (bo (decide (a≠b))):=by
  by_cases h:a=b
  · rw [decide_eq_false (by simpa using h)];subst h;exact neqF rfl
  · rw [decide_eq_true h];exact neqT h
theorem gtB{α:Type}(l:List α) [DecidableEq α]:binA E0 .gtr 3 (i64 l.length) (i64 0)=some (bo (decide (l≠ []))):=by
  cases l with
  |nil=>exact gtrF (by simp)
  |cons a r=>exact gtrT (by simp only [List.length_cons];omega)
theorem emB(l:List UInt8):binA E0 .eql 9 (sb l) (str ⟨#[]⟩)=some (bo (decide (l= []))):=by
  cases l with
  |nil=>exact eq_sbT (a:= []) (b:= []) rfl
  |cons a r=>exact eq_sbF (a:=a::r) (b:= []) (by simp)
theorem conn19{a:Nat}{s:ByteArray}{st:St}{k:Int}(l0:loadA E0 st 3 (.ptr a 0)=some (i64 k)){T:Tm}(hT:f21L2 T (.ptr a 0) (str s)):AW Tryz.prog (f21P 2) (fun ex T' st'=>ex= .normal∧f21L3 T' (.ptr a 0) (str s) (bo (isConn k))∧st'=st) T st:=by
  unfold isConn
  by_cases h2:k=2
  · rw [decide_eq_true (.inl h2)];exact f21_2_T l0 (eqlT h2) hT
  · by_cases h3:k=3
    · rw [decide_eq_true (.inr h3)];exact f21_2_FT l0 (eqlF h2) l0 (eqlT h3) hT
    · rw [decide_eq_false (by omega)];exact f21_2_FF l0 (eqlF h2) l0 (eqlF h3) hT
theorem num19{a:Nat}{s:ByteArray}{st:St}{k:Int}{b5:Bool}(l0:loadA E0 st 3 (.ptr a 0)=some (i64 k)){T:Tm}(hT:f21L3 T (.ptr a 0) (str s) (bo b5)):AW Tryz.prog (f21P 3) (fun ex T' st'=>ex= .normal∧f21L4 T' (.ptr a 0) (str s) (bo b5) (bo (isNum k))∧st'=st) T st:=by
  unfold isNum
  by_cases h4:k=4
  · rw [decide_eq_true (.inl h4)];exact f21_3_T l0 (eqlT h4) hT
  · by_cases h6:k=6
    · rw [decide_eq_true (.inr (.inl h6))];exact f21_3_FT l0 (eqlF h4) l0 (eqlT h6) hT
    · by_cases h7:k=7
      · rw [decide_eq_true (.inr (.inr (.inl h7)))];exact f21_3_FFT l0 (eqlF h4) l0 (eqlF h6) l0 (eqlT h7) hT
      · by_cases h8:k=8
        · rw [decide_eq_true (.inr (.inr (.inr h8)))];exact f21_3_FFFT l0 (eqlF h4) l0 (eqlF h6) l0 (eqlF h7) l0 (eqlT h8) hT
        · rw [decide_eq_false (by omega)];exact f21_3_FFFF l0 (eqlF h4) l0 (eqlF h6) l0 (eqlF h7) l0 (eqlF h8) hT
theorem itoa_nat_len{x:Nat}(h:x<65536):(Lib.itoa (x:Int)).length≤21:=Lib.itoa_length_le _ (by omega) (by omega)
theorem pick_len:∀{p:List Nat},(∀x∈p,x<65536)→(pickF p).length≤22*p.length
  | [],_=>by simp [pickF]
  |x::r,h=>by
    have:=pick_len (p:=r) fun y hy=>h y (List.mem_cons_of_mem _ hy)
    have h2:=itoa_nat_len (h x (by simp))
    simp only [pickF,List.flatMap_cons,List.length_append,List.length_cons] at this⊢
    omega
/-! the picks -/
theorem picks_loop{st0:St}{v:AV}{ps:List Nat}(hv:NS st0 v ps)(hps:∀x∈ps,x<65536)(hw0:st0.wf)(hgl:Tabs st0)(hb:ps.length≤1000000000):∀(n i:Nat) (σ:St) (s:List UInt8),ps.length- i=n→i≤ps.length→Rest st0 σ []→s.length+22*(ps.length- i)≤90000000000→
    ∃sf,(∀T,f21L12 T (sb s) v (i64 ps.length) (i64 i)→LoopIn Tryz.prog (f21P 18) (fun ex T' z=>ex= .exit 0∧f21L13 T' (sb (s++pickF (ps.drop i)))∧z=sf) (n+1) T σ)∧Rest st0 sf []:=by
  intro n
  induction n with
  |zero=>
    intro i σ s hn hi hr hbd
    have e:i=ps.length:=by omega
    subst e
    refine ⟨σ,fun T hT=>LoopIn.out (by simp) (f21_18_F (lssF (by omega)) hT) fun T' hT'=>⟨rfl,?_,rfl⟩,hr⟩
    rw [List.drop_of_length_le (Nat.le_refl _)]
    simpa [pickF] using hT'
  |succ n ih=>
    intro i σ s hn hi hr hbd
    obtain ⟨x,hx⟩:∃x,ps[i]? =some x:=⟨ps[i]'(by omega),List.getElem?_eq_getElem (by omega)⟩
    have hx6:=hps x (List.mem_of_getElem? hx)
    obtain ⟨q,a1,a2⟩:=(hv.rest hr fun _ _=>by simp).at hx
    have hil:=itoa_nat_len hx6
    have r1:=Rest.push hr.wf (.row [sb s,sb (Lib.itoa (x:Int))] 9) []
    obtain ⟨sf,u1,u2⟩:=ih (i+1) (σ.push (.row [sb s,sb (Lib.itoa (x:Int))] 9)) (s++32::Lib.itoa (x:Int)) (by omega) (by omega) (hr.trans r1) (by simp only [List.length_append,List.length_cons];omega)
    have e:s++pickF (ps.drop i)=(s++32::Lib.itoa (x:Int))++pickF (ps.drop (i+1)):=by
      rw [List.drop_eq_getElem_cons (by omega),(List.getElem?_eq_some_iff.1 hx).2]
      simp [pickF]
    rw [e]
    refine ⟨sf,fun T hT=>LoopIn.go (f21_18_T (lssT (by omega)) a1 a2 (conv393 σ x hx6) (itoa_ok (hgl.rest hr) (by omega) (by omega)) (bs78 σ _ _) (line2 (by omega)) (add3 (a:=i) (b:=1) (by omega)) hT) u1,u2⟩
end
section
set_option maxRecDepth 8000
/-! ### eventLine -/
theorem ldf{σ:St}{a j t ty:Nat}{cs:List AV}{v:AV}(hk:(E0.ty t).map (fun i=>isAggD i.desc)=some false)(hg:σ.get a=some (.row cs ty))(hj:cs[j]? =some v):loadA E0 σ t (.ptr a j)=some v:=by
  simp only [loadA,hg];exact plainT hk hj
theorem k36:(E0.ty 52).map (fun i=>isAggD i.desc)=some false:=by kernel_rfl
theorem AW.opt{P:Program}{c:Operand}{b:Bool}{p8 x y rest:Code}{Q:Exit→Tm→St→Prop}{L1 L2:Tm→Prop}{T:Tm}{σ σ':St}(h1:AW P p8 (fun ex T' st'=>ex= .normal∧L1 T'∧st'=σ) T σ)(hc:∀T,L1 T→T.eval c= .val (.bool b))
    (hx:∀T,L1 T→AW P (if b then x else y) (fun ex T' st'=>ex= .normal∧L2 T'∧st'=σ') T σ) (k:∀T,L2 T→AW P rest Q T σ'):AW P (.seq (.seq p8 (.cond c x y)) rest) Q T σ:=
  .seq (.seq (h1.mono fun ex T' st' ⟨e1,e2,e3⟩=>by
    subst e1;subst e3
    exact AW.cond (hc T' e2) ((hx T' e2).mono fun ex T'' st'' ⟨e4,e5,e6⟩=>by
      subst e4;subst e6
      exact k T'' e5)))
theorem skip19:f21P 7= .skip∧f21P 10= .skip∧f21P 13= .skip∧f21P 16= .skip∧f21P 6= .ret∧f21P 20= .ret:=⟨by kernel_rfl,by kernel_rfl,by kernel_rfl,by kernel_rfl,by kernel_rfl,by kernel_rfl⟩
theorem AW.skp{P:Program}{L:Tm→Prop}{T:Tm}{σ:St}(h:L T):AW P .skip (fun ex T' st'=>ex= .normal∧L T'∧st'=σ) T σ:=AW.skip ⟨rfl,h,rfl⟩
structure Ev (σ:St) (a:Nat) (k c n:Int) (d p:AV):Prop where
  row:σ.get a=some (.row [i64 k,i64 c,i64 n,d,p] 54)
  wf:σ.wf
  lock:σ.lock= []
  tabs:Tabs σ
theorem Ev.step{σ σ':St}{a:Nat}{k c n:Int}{d p:AV}(h:Ev σ a k c n d p)(r:Rest σ σ' []):Ev σ' a k c n d p:=⟨r.keep _ _ (by simp) h.row,r.wf,r.lock.trans h.lock,h.tabs.rest r⟩
def I64(n:Int):Prop:= -9223372036854775808≤n∧n≤9223372036854775807
theorem itoa_len{n:Int}(h:I64 n):(Lib.itoa n).length≤21:=Lib.itoa_length_le _ h.1 h.2
/-- the connection's part -/
theorem conn_part{σ:St}{a:Nat}{k c n:Int}{d p:AV}(h:Ev σ a k c n d p){b5 b6:Bool}{s:List UInt8}(hs:s.length≤90000000000)(hc:I64 c):∃σ',Rest σ σ' []∧∀(T:Tm) (rest:Code) (Q:Exit→Tm→St→Prop),f21L4 T (.ptr a 0) (sb s) (bo b5) (bo b6)→
    (∀T',f21L9 T' (.ptr a 0) (sb (s++if b5 then 32::Lib.itoa c else [])) (bo b6)→AW Tryz.prog rest Q T' σ')→AW Tryz.prog (.seq (.seq (f21P 8) (.cond (.tmp 80) (f21P 9) (f21P 10))) rest) Q T σ:=by
  have hil:=itoa_len hc
  cases b5 with
  |true=>
    exact ⟨_,Rest.push h.wf (.row [sb s,sb (Lib.itoa c)] 9) [],fun T rest Q hT k2=>AW.opt (f21_8 (b5:=true) hT) (fun T' q=>q.2.2.2.2) (fun T' q=>f21_9 (b6:=b6) (ldf k3 h.row rfl) (itoa_ok h.tabs hc.1 hc.2) (bs78 σ _ _) (line2 (by omega)) ⟨q.1,q.2.1,q.2.2.1,q.2.2.2.1⟩) k2⟩
  |false=>
    refine ⟨σ,.refl h.wf _,fun T rest Q hT k2=>AW.opt (f21_8 (b5:=false) hT) (fun T' q=>q.2.2.2.2) (fun T' q=> ?_) k2⟩
    rw [skip19.2.1]
    refine AW.skp ?_
    rw [if_neg (by simp),List.append_nil]
    exact ⟨q.1,q.2.1,q.2.2.1,q.2.2.2.1⟩
/-- the number's part -/
theorem num_part{σ:St}{a:Nat}{k c n:Int}{d p:AV}(h:Ev σ a k c n d p){b6:Bool}{s:List UInt8}(hs:s.length≤90000000000)(hn:I64 n):∃σ',Rest σ σ' []∧∀(T:Tm) (rest:Code) (Q:Exit→Tm→St→Prop),f21L9 T (.ptr a 0) (sb s) (bo b6)→
    (∀T',f21L2 T' (.ptr a 0) (sb (s++if b6 then 32::Lib.itoa n else []))→AW Tryz.prog rest Q T' σ')→AW Tryz.prog (.seq (.seq (f21P 11) (.cond (.tmp 87) (f21P 12) (f21P 13))) rest) Q T σ:=by
  have hil:=itoa_len hn
  cases b6 with
  |true=>
    exact ⟨_,Rest.push h.wf (.row [sb s,sb (Lib.itoa n)] 9) [],fun T rest Q hT k2=>AW.opt (f21_11 (b6:=true) hT) (fun T' q=>q.2.2.2) (fun T' q=>f21_12 (ldf k3 h.row rfl) (itoa_ok h.tabs hn.1 hn.2) (bs78 σ _ _) (line2 (by omega)) ⟨q.1,q.2.1,q.2.2.1⟩) k2⟩
  |false=>
    refine ⟨σ,.refl h.wf _,fun T rest Q hT k2=>AW.opt (f21_11 (b6:=false) hT) (fun T' q=>q.2.2.2) (fun T' q=> ?_) k2⟩
    rw [skip19.2.2.1]
    refine AW.skp ?_
    rw [if_neg (by simp),List.append_nil]
    exact ⟨q.1,q.2.1,q.2.2.1⟩
/-- the word's part -/
theorem data_part{σ:St}{a:Nat}{k c n:Int}{d p:AV}(h:Ev σ a k c n d p){db s:List UInt8}(hs:s.length+4*db.length≤90000000000)(hd:BS σ d db)(hdb:db.length≤10000000000):∃σ',Rest σ σ' []∧∀(T:Tm) (rest:Code) (Q:Exit→Tm→St→Prop),f21L2 T (.ptr a 0) (sb s)→
    (∀T',f21L2 T' (.ptr a 0) (sb (s++if k=2 then 32::quoteF db else []))→AW Tryz.prog rest Q T' σ')→AW Tryz.prog (.seq (.seq (f21P 14) (.cond (.tmp 96) (f21P 15) (f21P 16))) rest) Q T σ:=by
  by_cases hk:k=2
  · obtain ⟨s1,h7,r7⟩:=quote_ok hd h.wf h.lock hdb
    have hq:(quoteF db).length≤4*db.length+2:=by
      have:=esc_flat db
      simp only [quoteF,List.length_append,List.length_cons,List.length_nil];omega
    refine ⟨_,r7.trans (Rest.push r7.wf (.row [sb s,sb (quoteF db)] 9) []),fun T rest Q hT k2=>AW.opt (b:=true) (f21_14_T (ldf k3 h.row rfl) (eqlT hk) hT) (fun T' q=>q.2.2.2) (fun T' q=>f21_15 (ldf k22 h.row rfl) h7 (bs78 s1 _ _) (line2 (by omega)) ⟨q.1,q.2.1,q.2.2.1⟩) fun T' q=>k2 T' ?_⟩
    rw [if_pos hk];exact q
  · refine ⟨σ,.refl h.wf _,fun T rest Q hT k2=>AW.opt (b:=false) (f21_14_F (ldf k3 h.row rfl) (eqlF hk) hT) (fun T' q=>q.2.2.2) (fun T' q=> ?_) k2⟩
    rw [skip19.2.2.2.1]
    refine AW.skp ?_
    rw [if_neg hk,List.append_nil]
    exact ⟨q.1,q.2.1,q.2.2.1⟩
theorem eventLine_ok{st:St}{k c n:Int}{d p:AV}{db:List UInt8}{ps:List Nat}(hw:st.wf)(hl:st.lock= [])(hgl:Tabs st)(hd:BS st d db)(hp:NS st p ps)(hc:I64 c)(hn:I64 n)(hdb:db.length≤10000000000)(hps:∀x∈ps,x<65536)(hpl:ps.length≤1000000000):
    ∃st',obC 21 [.agg [i64 k,i64 c,i64 n,d,p]] st (.tup [sb ((evLine k c n db ps).getD []),bo (evLine k c n db ps).isSome]) st'∧Rest st st' []:=by
  have r1:=Rest.push hw (.row [i64 k,i64 c,i64 n,d,p] 54) []
  have e1:Ev (st.push (.row [i64 k,i64 c,i64 n,d,p] 54)) st.next k c n d p:=⟨get_new _ _ rfl,r1.wf,r1.lock.trans hl,hgl.rest r1⟩
  generalize hs1:st.push (.row [i64 k,i64 c,i64 n,d,p] 54)=s1 at r1 e1
  have r2:=Rest.push r1.wf (.row (nmL.map sb) 9) []
  have e2:=e1.step r2
  have hname:=name_ok e1.tabs e1.wf k
  have r12:=r1.trans r2
  generalize hs2:s1.push (.row (nmL.map sb) 9)=s2 at r2 e2 hname r12
  have hd2:BS s2 d db:=hd.rest r12 fun _ _=>by simp
  have hp2:NS s2 p ps:=hp.rest r12 fun _ _=>by simp
  have start:∀(r:AV) (z:St),(∀T,f21L4 T (.ptr st.next 0) (sb (nmF k)) (bo (isConn k)) (bo (isNum k))→∀(x:Code),True→AW Tryz.prog (.seq (.seq (f21P 4) (.cond (.tmp 79) (.seq (f21P 5) (f21P 6)) (f21P 7))) (.seq (.seq (f21P 8) (.cond (.tmp 80) (f21P 9) (f21P 10))) (.seq (.seq (f21P 11) (.cond (.tmp 87) (f21P 12) (f21P 13))) (.seq (.seq (f21P 14) (.cond (.tmp 96) (f21P 15) (f21P 16))) (.seq (.seq (f21P 17) (.block 0 (.loop (f21P 18)))) (.seq (f21P 19) (f21P 20))))))) (endA E0 Tryz.f21 (fun r' s=>r'=r∧s=z)) T s2)→obC 21 [.agg [i64 k,i64 c,i64 n,d,p]] st r z:=by
    intro r z hk
    refine ACalls.body (E:=E0) hE Tryz.func21 f21body ?_
    refine AW.andThen (f21_0 (k:=k) (c:=c) (n:=n) (d:=d) (p:=p) (a1:=st.next) (s1:=s1) (by rw [←hs1];rfl) ⟨rfl,rfl⟩) fun T1 q1=> ?_
    refine AW.andThen (f21_1 (ldf k3 e1.row rfl) hname q1) fun T2 q2=> ?_
    refine AW.andThen (conn19 (ldf k3 e2.row rfl) q2) fun T3 q3=> ?_
    refine AW.andThen (num19 (ldf k3 e2.row rfl) q3) fun T4 q4=> ?_
    exact hk T4 q4 .skip trivial
  have tests:=fun (T:Tm) (q:f21L4 T (.ptr st.next 0) (sb (nmF k)) (bo (isConn k)) (bo (isNum k)))=>tests19 (emB (nmF k)) (ldf (t:=3) (j:=0) k3 e2.row rfl) (ldf (t:=3) (j:=1) k3 e2.row rfl) (ldf (t:=3) (j:=2) k3 e2.row rfl) (ldf (t:=51) (j:=3) k22 e2.row rfl) (ldf (t:=52) (j:=4) k36 e2.row rfl) (neB c 0) (neB n 0) (neB k 2) hd2.len (gtB db) (neB k 8) hp2.len (gtB ps) q
  have fin:∀{T:Tm} {a b:AV} {z:St},f21L7 T a b→endA E0 Tryz.f21 (fun r s=>r= .tup [a,b]∧s=z) .ret T z:=fun {T a b z} q=>⟨[T.get 2,T.get 3],rfl,by obtain ⟨_,q1,q2⟩:=q;rw [q1,q2];rfl,rfl⟩
  by_cases hbad:badEv k c n db ps=true
  · have e0:evLine k c n db ps=none:=if_pos hbad
    rw [e0]
    refine ⟨s2,start _ s2 fun T q _ _=> ?_,r12⟩
    refine .seq (.seq ((tests T q).mono fun ex T' st' ⟨h1,h2,h3⟩=> ?_))
    subst h1;subst h3
    refine AW.cond (b:=true) ?_ ?_
    · rw [show T'.eval (.tmp 79)=T'.get 79 from rfl,h2.2.2.2.2.2]
      exact congrArg bo hbad
    · refine AW.andThen (f21_5 h2.1) fun T5 q5=> ?_
      rw [skip19.2.2.2.2.1]
      exact AW.ret (fin q5)
  · have hb:badEv k c n db ps=false:=by simpa using hbad
    have e0:evLine k c n db ps=some (nmF k++(if isConn k then 32::Lib.itoa c else [])++(if isNum k then 32::Lib.itoa n else [])++(if k=2 then 32::quoteF db else [])++pickF ps):=if_neg hbad
    rw [e0]
    have hnm:(nmF k).length≤10:=by
      unfold nmF
      split
      · simp
      · rename_i h
        obtain ⟨j,rfl⟩:∃j:Nat,k=j:=⟨k.toNat,by omega⟩
        rw [Int.toNat_natCast]
        have:∀i:Fin 10,(nmL.getD i.val []).length≤10:=by decide
        exact this ⟨j,by omega⟩
    have hic:=itoa_len hc
    have hin:=itoa_len hn
    have l5:(if isConn k=true then (32:UInt8)::Lib.itoa c else []).length≤22:=by split<;>simp only [List.length_cons,List.length_nil]<;>omega
    have l6:(if isNum k=true then (32:UInt8)::Lib.itoa n else []).length≤22:=by split<;>simp only [List.length_cons,List.length_nil]<;>omega
    have hq:(quoteF db).length≤4*db.length+2:=by
      have:=esc_flat db
      simp only [quoteF,List.length_append,List.length_cons,List.length_nil];omega
    have l7:(if k=2 then (32:UInt8)::quoteF db else []).length≤4*db.length+3:=by split<;>simp only [List.length_cons,List.length_nil]<;>omega
    obtain ⟨s3,r3,k3'⟩:=conn_part e2 (b5:=isConn k) (b6:=isNum k) (s:=nmF k) (by omega) hc
    have e3:=e2.step r3
    obtain ⟨s4,r4,k4⟩:=num_part e3 (b6:=isNum k) (s:=nmF k++if isConn k then 32::Lib.itoa c else []) (by simp only [List.length_append];omega) hn
    have e4:=e3.step r4
    have r24:=r3.trans r4
    obtain ⟨s5,r5,k5⟩:=data_part e4 (db:=db) (s:=nmF k++(if isConn k then 32::Lib.itoa c else [])++(if isNum k then 32::Lib.itoa n else [])) (by simp only [List.length_append];omega) (hd2.rest r24 fun _ _=>by simp) hdb
    have e5:=e4.step r5
    have r25:=r24.trans r5
    have hp5:NS s5 p ps:=hp2.rest r25 fun _ _=>by simp
    obtain ⟨sf,k6,r6⟩:=picks_loop hp5 hps e5.wf e5.tabs hpl ps.length 0 s5 (nmF k++(if isConn k then 32::Lib.itoa c else [])++(if isNum k then 32::Lib.itoa n else [])++(if k=2 then 32::quoteF db else [])) (by omega) (by omega) (.refl e5.wf _) (by simp only [List.length_append];omega)
    refine ⟨sf,start _ sf fun T q _ _=> ?_,(r12.trans r25).trans r6⟩
    refine AW.opt (b:=false) (tests T q) (fun T' q=> ?_) (fun T' q=> ?_) fun T5 q5=>k3' T5 _ _ q5 fun T6 q6=>k4 T6 _ _ q6 fun T7 q7=>k5 T7 _ _ q7 fun T8 q8=> ?_
    · rw [show T'.eval (.tmp 79)=T'.get 79 from rfl,q.2.2.2.2.2]
      exact congrArg bo hb
    · rw [skip19.1]
      exact AW.skp ⟨q.1,q.2.1,q.2.2.1,q.2.2.2.1,q.2.2.2.2.1⟩
    · refine AW.andThen (L:=fun T=>f21L13 T (sb (nmF k++(if isConn k then 32::Lib.itoa c else [])++(if isNum k then 32::Lib.itoa n else [])++(if k=2 then 32::quoteF db else [])++pickF ps))) (s:=sf) (AW.andThen (f21_17 (ldf k36 e5.row rfl) hp5.len q8) fun T9 q9=>AW.block ((AW.loopIn (k6 T9 q9)).mono fun ex T' z ⟨h1,h2,h3⟩=> ?_)) fun T10 q10=> ?_
      · subst h1
        rw [List.drop_zero] at h2
        exact ⟨rfl,h2,h3⟩
      · refine AW.andThen (f21_19 q10) fun T11 q11=> ?_
        rw [skip19.2.2.2.2.2]
        exact AW.ret (fin q11)
end
section
set_option maxRecDepth 8000
/-! ### a row's line -/
theorem tests21{a:Nat}{s:ByteArray}{st:St}{k c n nd:Int}{d:AV}{e0 b5 k1 cz k5 nz k2 dz en:Bool}(hE:binA E0 .eql 9 (str s) (str ⟨#[]⟩)=some (bo e0))(l0:loadA E0 st 3 (.ptr a 0)=some (i64 k))(l2:loadA E0 st 3 (.ptr a 2)=some (i64 c))(l3:loadA E0 st 3 (.ptr a 3)=some (i64 n))(l4:loadA E0 st 51 (.ptr a 4)=some d)(l5:loadA E0 st 4 (.ptr a 5)=some (bo en))
    (hC:binA E0 .neq 3 (i64 c) (i64 0)=some (bo cz)) (hN:binA E0 .neq 3 (i64 n) (i64 0)=some (bo nz)) (hK1:binA E0 .neq 3 (i64 k) (i64 1)=some (bo k1)) (hK5:binA E0 .neq 3 (i64 k) (i64 5)=some (bo k5)) (hK2:binA E0 .neq 3 (i64 k) (i64 2)=some (bo k2)) (n4:lenA E0 51 d=some (i64 nd)) (hD:binA E0 .gtr 3 (i64 nd) (i64 0)=some (bo dz))
    {T:Tm} (hT:f30L2 T (.ptr a 0) (str s) (bo b5)):AW Tryz.prog (f30P 2) (fun ex T' st'=>ex= .normal∧f30L3 T' (.ptr a 0) (str s) (bo b5) (bo (e0||((!b5||k1)&&cz)||((!b5||k5)&&nz)||((!b5||k2)&&(dz||en))))∧st'=st) T st:=by
  cases e0 with
  |true=>
    exact f30_2_T hE hT
  |false=>
    cases b5 with
    |true=>
      cases k1 with
      |true=>
        cases cz with
        |true=>
          exact f30_2_FTTT hE l0 hK1 l2 hC hT
        |false=>
          cases k5 with
          |true=>
            cases nz with
            |true=>
              exact f30_2_FTTFTT hE l0 hK1 l2 hC l0 hK5 l3 hN hT
            |false=>
              cases k2 with
              |true=>
                cases dz with
                |true=>
                  exact f30_2_FTTFTFTT hE l0 hK1 l2 hC l0 hK5 l3 hN l0 hK2 l4 n4 hD hT
                |false=>
                  exact f30_2_FTTFTFTF hE l0 hK1 l2 hC l0 hK5 l3 hN l0 hK2 l4 n4 hD l5 hT
              |false=>
                exact f30_2_FTTFTFF hE l0 hK1 l2 hC l0 hK5 l3 hN l0 hK2 hT
          |false=>
            cases k2 with
            |true=>
              cases dz with
              |true=>
                exact f30_2_FTTFFTT hE l0 hK1 l2 hC l0 hK5 l0 hK2 l4 n4 hD hT
              |false=>
                exact f30_2_FTTFFTF hE l0 hK1 l2 hC l0 hK5 l0 hK2 l4 n4 hD l5 hT
            |false=>
              exact f30_2_FTTFFF hE l0 hK1 l2 hC l0 hK5 l0 hK2 hT
      |false=>
        cases k5 with
        |true=>
          cases nz with
          |true=>
            exact f30_2_FTFTT hE l0 hK1 l0 hK5 l3 hN hT
          |false=>
            cases k2 with
            |true=>
              cases dz with
              |true=>
                exact f30_2_FTFTFTT hE l0 hK1 l0 hK5 l3 hN l0 hK2 l4 n4 hD hT
              |false=>
                exact f30_2_FTFTFTF hE l0 hK1 l0 hK5 l3 hN l0 hK2 l4 n4 hD l5 hT
            |false=>
              exact f30_2_FTFTFF hE l0 hK1 l0 hK5 l3 hN l0 hK2 hT
        |false=>
          cases k2 with
          |true=>
            cases dz with
            |true=>
              exact f30_2_FTFFTT hE l0 hK1 l0 hK5 l0 hK2 l4 n4 hD hT
            |false=>
              exact f30_2_FTFFTF hE l0 hK1 l0 hK5 l0 hK2 l4 n4 hD l5 hT
          |false=>
            exact f30_2_FTFFF hE l0 hK1 l0 hK5 l0 hK2 hT
    |false=>
      cases cz with
      |true=>
        exact f30_2_FFT hE l2 hC hT
      |false=>
        cases nz with
        |true=>
          exact f30_2_FFFT hE l2 hC l3 hN hT
        |false=>
          cases dz with
          |true=>
            exact f30_2_FFFFT hE l2 hC l3 hN l4 n4 hD hT
          |false=>
            exact f30_2_FFFFF hE l2 hC l3 hN l4 n4 hD l5 hT
def badRow(k e c n:Int)(d:List UInt8)(en:Bool):Bool:=(decide (nmF k= [])||((!decide (e=0)||decide (k≠1))&&decide (c≠0))||((!decide (e=0)||decide (k≠5))&&decide (n≠0))||((!decide (e=0)||decide (k≠2))&&(decide (d≠ [])||en)))
def okB:List UInt8:= [111,107]
def errB:List UInt8:= [101,114,114,111,114]
def endB(en:Bool):List UInt8:=if en then [101,110,100,101,100] else [111,112,101,110]
def rowTail(k c n:Int)(d:List UInt8)(en:Bool):List UInt8:=if k=1 then 32::Lib.itoa c else if k=5 then 32::Lib.itoa n else if k=2 then 32::(quoteF d++32::endB en) else []
def rowF(k e c n:Int)(d:List UInt8)(en:Bool):Option (List UInt8):=
  if badRow k e c n d en then none
  else if e=0 then some (nmF k++32::okB++rowTail k c n d en) else some (nmF k++32::(errB++32::Lib.itoa e))
theorem k4:(E0.ty 4).map (fun i=>isAggD i.desc)=some false:=by kernel_rfl
structure Rw (σ:St) (a:Nat) (k e c n:Int) (d:AV) (en:Bool):Prop where
  row:σ.get a=some (.row [i64 k,i64 e,i64 c,i64 n,d,bo en] 70)
  wf:σ.wf
  lock:σ.lock= []
  tabs:Tabs σ
theorem Rw.step{σ σ':St}{a:Nat}{k e c n:Int}{d:AV}{en:Bool}(h:Rw σ a k e c n d en)(r:Rest σ σ' []):Rw σ' a k e c n d en:=⟨r.keep _ _ (by simp) h.row,r.wf,r.lock.trans h.lock,h.tabs.rest r⟩
theorem skip21:f30P 4= .ret∧f30P 5= .skip∧f30P 8= .ret∧f30P 9= .skip∧f30P 20= .skip∧f30P 51= .skip∧f30P 24= .ret:=⟨by kernel_rfl,by kernel_rfl,by kernel_rfl,by kernel_rfl,by kernel_rfl,by kernel_rfl,by kernel_rfl⟩
theorem AW.cnd{P:Program}{c:Operand}{b:Bool}{p8 x y:Code}{Q:Exit→Tm→St→Prop}{L1:Tm→Prop}{T:Tm}{σ:St}(h1:AW P p8 (fun ex T' st'=>ex= .normal∧L1 T'∧st'=σ) T σ)(hc:∀T,L1 T→T.eval c= .val (.bool b))
    (hx:∀T,L1 T→AW P (if b then x else y) Q T σ):AW P (.seq p8 (.cond c x y)) Q T σ:=
  .seq (h1.mono fun ex T' st' ⟨e1,e2,e3⟩=>by
    subst e1;subst e3
    exact AW.cond (hc T' e2) (hx T' e2))
/-- a call of name in a region whose order is drawn -/
theorem hide_push{st:St}(hw:st.wf)(I:List Nat)(o:AObj):Rest st (((st.hide I).push o).show st I) []:=by
  have hg:∀i p,st.get i=some p→(((st.hide I).push o).show st I).get i=some p:=fun i p hp=>by
    rw [St.show_get]
    split
    · exact hp
    · have:=hw _ _ hp
      rw [St.get_push,if_neg (by show i≠st.next;omega)];exact hp
  refine ⟨fun i p _ hp=>hg i p hp,?_,rfl,?_,fun i p hp=> ?_⟩
  · rw [St.show_next];show st.next≤st.next+1;omega
  · rw [St.show_gl];rfl
  · rw [St.show_next]
    show i<st.next+1
    rw [St.show_get] at hp
    split at hp
    · have:=hw _ _ hp;omega
    · rw [St.get_push] at hp
      split at hp
      · rename_i e;have e:i=st.next:=e;omega
      · have:=hw _ _ hp;omega
theorem nmF_len(k:Int):(nmF k).length≤10:=by
  unfold nmF
  split
  · simp
  · rename_i h
    obtain ⟨j,rfl⟩:∃j:Nat,k=j:=⟨k.toNat,by omega⟩
    rw [Int.toNat_natCast]
    have:∀i:Fin 10,(nmL.getD i.val []).length≤10:=by decide
    exact this ⟨j,by omega⟩
noncomputable abbrev blk21:Code:= .block 0 (.seq (f30P 12) (.cond (.tmp 75) (f30P 13) (.seq (f30P 14) (.cond (.tmp 83) (f30P 15) (.seq (f30P 16) (.cond (.tmp 91) (.seq (f30P 17) (.seq (.seq (f30P 18) (.cond (.tmp 94) (f30P 19) (f30P 20))) (f30P 21))) (f30P 51)))))))
theorem tail_part{σ:St}{a:Nat}{k e c n:Int}{d:AV}{en:Bool}(h:Rw σ a k e c n d en){db s:List UInt8}(hs:s.length+4*db.length≤90000000000)(hd:BS σ d db)(hdb:db.length≤10000000000)(hc:I64 c)(hn:I64 n):∃σ',Rest σ σ' []∧∀(T:Tm),f30L8 T (.ptr a 0) (sb s) (i64 k)→
    AW Tryz.prog blk21 (fun ex T' st'=>ex= .normal∧f30L10 T' (sb (s++rowTail k c n db en))∧st'=σ') T σ:=by
  have l0:loadA E0 σ 3 (.ptr a 0)=some (i64 k):=ldf k3 h.row rfl
  have hic:=itoa_len hc
  have hin:=itoa_len hn
  have fin:∀{T:Tm} {σ σ':St} {c:Code} {t:AV},AW Tryz.prog c (fun ex T' st'=>ex= .normal∧f30L10 T' t∧st'=σ') T σ→AW Tryz.prog (.block 0 c) (fun ex T' st'=>ex= .normal∧f30L10 T' t∧st'=σ') T σ:=fun h=>AW.block (h.mono fun ex T' st' ⟨e1,e2,e3⟩=>by
    subst e1;exact ⟨rfl,e2,e3⟩)
  unfold rowTail
  by_cases h1:k=1
  · refine ⟨_,Rest.push h.wf (.row [sb s,sb (Lib.itoa c)] 9) [],fun T hT=>fin (AW.cnd (b:=true) (f30_12_T (eqlT h1) hT) (fun T' q=>q.2.2.2.2) fun T' q=> ?_)⟩
    rw [if_pos h1]
    exact f30_13 (ldf k3 h.row rfl) (itoa_ok h.tabs hc.1 hc.2) (bs78 σ _ _) (line2 (by omega)) ⟨q.1,q.2.1,q.2.2.1⟩
  · by_cases h5:k=5
    · refine ⟨_,Rest.push h.wf (.row [sb s,sb (Lib.itoa n)] 9) [],fun T hT=>fin (AW.cnd (b:=false) (f30_12_F (eqlF h1) hT) (fun T' q=>q.2.2.2.2) fun T' q=>AW.cnd (b:=true) (f30_14_T (eqlT h5) ⟨q.1,q.2.1,q.2.2.1,q.2.2.2.1⟩) (fun T' q=>q.2.2.2.2) fun T' q=> ?_)⟩
      rw [if_neg h1,if_pos h5]
      exact f30_15 (ldf k3 h.row rfl) (itoa_ok h.tabs hn.1 hn.2) (bs78 σ _ _) (line2 (by omega)) ⟨q.1,q.2.1,q.2.2.1⟩
    · by_cases h2:k=2
      · obtain ⟨s1,h7,r7⟩:=quote_ok hd h.wf h.lock hdb
        have hq:(quoteF db).length≤4*db.length+2:=by
          have:=esc_flat db
          simp only [quoteF,List.length_append,List.length_cons,List.length_nil];omega
        have hen:(endB en).length≤5:=by unfold endB;split<;>simp
        refine ⟨_,r7.trans (Rest.push r7.wf (.row [sb s,sb (quoteF db),sb (endB en)] 9) []),fun T hT=>fin (AW.cnd (b:=false) (f30_12_F (eqlF h1) hT) (fun T' q=>q.2.2.2.2) fun T' q=>AW.cnd (b:=false) (f30_14_F (eqlF h5) ⟨q.1,q.2.1,q.2.2.1,q.2.2.2.1⟩) (fun T' q=>q.2.2.2.2) fun T' q=>AW.cnd (b:=true) (f30_16_T (eqlT h2) ⟨q.1,q.2.1,q.2.2.1,q.2.2.2.1⟩) (fun T' q=>q.2.2.2) fun T' q=> ?_)⟩
        rw [if_neg h1,if_neg h5,if_pos h2]
        refine AW.andThen (f30_17 ⟨q.1,q.2.1,q.2.2.1⟩) fun T2 q2=> ?_
        refine AW.opt (b:=en) (L2:=fun T=>f30L13 T (.ptr a 0) (sb s) (sb (endB en))) (σ':=σ) (f30_18 (ldf k4 h.row rfl) q2) (fun T' q=>q.2.2.2.2) (fun T' q=> ?_) fun T3 q3=>f30_21 (ldf k22 h.row rfl) h7 (bs78c s1 _ _ _) (line3 (by omega)) q3
        cases en with
        |true=>exact f30_19 ⟨q.1,q.2.1,q.2.2.1⟩
        |false=>
          rw [skip21.2.2.2.2.1]
          exact AW.skp ⟨q.1,q.2.1,q.2.2.1,q.2.2.2.1⟩
      · refine ⟨σ,.refl h.wf _,fun T hT=>fin (AW.cnd (b:=false) (f30_12_F (eqlF h1) hT) (fun T' q=>q.2.2.2.2) fun T' q=>AW.cnd (b:=false) (f30_14_F (eqlF h5) ⟨q.1,q.2.1,q.2.2.1,q.2.2.2.1⟩) (fun T' q=>q.2.2.2.2) fun T' q=>AW.cnd (b:=false) (f30_16_F (eqlF h2) ⟨q.1,q.2.1,q.2.2.1,q.2.2.2.1⟩) (fun T' q=>q.2.2.2) fun T' q=> ?_)⟩
        rw [if_neg h1,if_neg h5,if_neg h2,skip21.2.2.2.2.2.1,List.append_nil]
        exact AW.skp ⟨q.1,q.2.2.1⟩
theorem rowLine_ok{st:St}{k e c n:Int}{d:AV}{db:List UInt8}{en:Bool}(hw:st.wf)(hl:st.lock= [])(hgl:Tabs st)(hd:BS st d db)(he:I64 e)(hc:I64 c)(hn:I64 n)(hdb:db.length≤10000000000):
    ∃st',obC 30 [.agg [i64 k,i64 e,i64 c,i64 n,d,bo en]] st (.tup [sb ((rowF k e c n db en).getD []),bo (rowF k e c n db en).isSome]) st'∧Rest st st' []:=by
  have r1:=Rest.push hw (.row [i64 k,i64 e,i64 c,i64 n,d,bo en] 70) []
  have e1:Rw (st.push (.row [i64 k,i64 e,i64 c,i64 n,d,bo en] 70)) st.next k e c n d en:=⟨get_new _ _ rfl,r1.wf,r1.lock.trans hl,hgl.rest r1⟩
  generalize hs1:st.push (.row [i64 k,i64 e,i64 c,i64 n,d,bo en] 70)=s1 at r1 e1
  have hlt:st.next<s1.next:=e1.wf _ _ e1.row
  have hname:=name_ok (st:=s1.hide [st.next,st.next]) e1.tabs (fun i o h=>e1.wf i o h) k
  have r2:=hide_push e1.wf [st.next,st.next] (.row (nmL.map sb) 9)
  have e2:=e1.step r2
  have r12:=r1.trans r2
  generalize hs2:((s1.hide [st.next,st.next]).push (.row (nmL.map sb) 9)).show s1 [st.next,st.next]=s2 at r2 e2 r12
  have hd2:BS s2 d db:=hd.rest r12 fun _ _=>by simp
  have ha:∀j∈ [st.next,st.next],j<s1.next:=fun j hj=>by simp at hj;omega
  have hall: [st.next,st.next].all (fun j=>(s1.get j).isSome)=true:=by simp [e1.row]
  have st2:∀T,f30L1 T (.ptr st.next 0)→AW Tryz.prog (f30P 1) (fun ex T' st'=>ex= .normal∧f30L2 T' (.ptr st.next 0) (sb (nmF k)) (bo (decide (e=0)))∧st'=s2) T s1:=fun T hT=>by
    rw [←hs2]
    by_cases h0:e=0
    · rw [decide_eq_true h0]
      exact f30_1_T ha (ldf k3 e1.row rfl) (ldf k33 e1.row rfl) (eqlT h0) hall hname hT
    · rw [decide_eq_false h0]
      exact f30_1_F ha (ldf k3 e1.row rfl) (ldf k33 e1.row rfl) (eqlF h0) hall hname hT
  have start:∀(r:AV) (z:St),(∀T,f30L2 T (.ptr st.next 0) (sb (nmF k)) (bo (decide (e=0)))→AW Tryz.prog (.seq (.seq (f30P 2) (.cond (.tmp 61) (.seq (f30P 3) (f30P 4)) (f30P 5))) (.seq (.seq (f30P 6) (.cond (.tmp 63) (.seq (f30P 7) (f30P 8)) (f30P 9))) (.seq (f30P 10) (.seq (.seq (f30P 11) blk21) (.seq (f30P 23) (f30P 24)))))) (endA E0 Tryz.f30 (fun r' s=>r'=r∧s=z)) T s2)→obC 30 [.agg [i64 k,i64 e,i64 c,i64 n,d,bo en]] st r z:=by
    intro r z hk
    refine ACalls.body (E:=E0) hE Tryz.func30 f30body ?_
    refine AW.andThen (f30_0 (k:=k) (e:=e) (c:=c) (n:=n) (d:=d) (en:=en) (a1:=st.next) (s1:=s1) (by rw [←hs1];rfl) ⟨rfl,rfl⟩) fun T1 q1=> ?_
    exact AW.andThen (st2 T1 q1) fun T2 q2=>hk T2 q2
  have tests:=fun (T:Tm) (q:f30L2 T (.ptr st.next 0) (sb (nmF k)) (bo (decide (e=0))))=>tests21 (emB (nmF k)) (ldf (t:=3) (j:=0) k3 e2.row rfl) (ldf (t:=3) (j:=2) k3 e2.row rfl) (ldf (t:=3) (j:=3) k3 e2.row rfl) (ldf (t:=51) (j:=4) k22 e2.row rfl) (ldf (t:=4) (j:=5) k4 e2.row rfl) (neB c 0) (neB n 0) (neB k 1) (neB k 5) (neB k 2) hd2.len (gtB db) q
  have fin:∀{T:Tm} {a b:AV} {z:St},f30L5 T a b→endA E0 Tryz.f30 (fun r s=>r= .tup [a,b]∧s=z) .ret T z:=fun {T a b z} q=>⟨[T.get 2,T.get 3],rfl,by obtain ⟨_,q1,q2⟩:=q;rw [q1,q2];rfl,rfl⟩
  by_cases hbad:badRow k e c n db en=true
  · have e0:rowF k e c n db en=none:=if_pos hbad
    rw [e0]
    refine ⟨s2,start _ s2 fun T q=> ?_,r12⟩
    refine .seq (AW.cnd (b:=true) (tests T q) (fun T' q=> ?_) fun T' q=> ?_)
    · rw [show T'.eval (.tmp 61)=T'.get 61 from rfl,q.2.2.2.2]
      exact congrArg bo hbad
    · refine AW.andThen (f30_3 q.1) fun T5 q5=> ?_
      rw [skip21.1]
      exact AW.ret (fin q5)
  · have hb:badRow k e c n db en=false:=by simpa using hbad
    have e0:rowF k e c n db en=if e=0 then some (nmF k++32::okB++rowTail k c n db en) else some (nmF k++32::(errB++32::Lib.itoa e)):=if_neg hbad
    rw [e0]
    have hnm:=nmF_len k
    have hie:=itoa_len he
    have go:∀{Q:Exit→Tm→St→Prop} {rest:Code} {T:Tm},f30L2 T (.ptr st.next 0) (sb (nmF k)) (bo (decide (e=0)))→(∀T',f30L2 T' (.ptr st.next 0) (sb (nmF k)) (bo (decide (e=0)))→AW Tryz.prog rest Q T' s2)→AW Tryz.prog (.seq (.seq (f30P 2) (.cond (.tmp 61) (.seq (f30P 3) (f30P 4)) (f30P 5))) rest) Q T s2:=fun {Q rest T} q kk=>by
      refine AW.opt (b:=false) (tests T q) (fun T' q=> ?_) (fun T' q=> ?_) kk
      · rw [show T'.eval (.tmp 61)=T'.get 61 from rfl,q.2.2.2.2]
        exact congrArg bo hb
      · rw [skip21.2.1]
        exact AW.skp ⟨q.1,q.2.1,q.2.2.1,q.2.2.2.1⟩
    by_cases h0:e=0
    · rw [if_pos h0]
      have r3:=Rest.push e2.wf (.row [sb (nmF k),sb okB] 9) []
      have e3:=e2.step r3
      obtain ⟨s4,r4,k4⟩:=tail_part e3 (db:=db) (s:=nmF k++32::okB) (by simp only [List.length_append,List.length_cons,okB,List.length_nil];omega) (hd2.rest r3 fun _ _=>by simp) hdb hc hn
      refine ⟨s4,start _ s4 fun T q=>go q fun T1 q1=> ?_,(r12.trans r3).trans r4⟩
      refine AW.opt (b:=false) (L2:=fun T=>f30L7 T (.ptr st.next 0) (sb (nmF k))) (σ':=s2) (f30_6_T (by rw [decide_eq_true h0] at q1;exact q1)) (fun T' q=>q.2.2.2) (fun T' q=> ?_) fun T2 q2=> ?_
      · rw [skip21.2.2.2.1]
        exact AW.skp ⟨q.1,q.2.1,q.2.2.1⟩
      · refine AW.andThen (f30_10 (bs78 s2 _ ⟨#[111,107]⟩) (line2 (b:=okB) (by simp only [okB,List.length_cons,List.length_nil];omega)) q2) fun T3 q3=> ?_
        refine AW.andThen (L:=fun T=>f30L10 T (sb (nmF k++32::okB++rowTail k c n db en))) (s:=s4) (AW.andThen (f30_11 (ldf k3 e3.row rfl) q3) fun T4 q4=>k4 T4 q4) fun T5 q5=> ?_
        refine AW.andThen (f30_23 q5) fun T6 q6=> ?_
        rw [skip21.2.2.2.2.2.2]
        exact AW.ret (fin q6)
    · rw [if_neg h0]
      refine ⟨_,start _ (s2.push (.row [sb (nmF k),sb errB,sb (Lib.itoa e)] 9)) fun T q=>go q fun T1 q1=> ?_,r12.trans (Rest.push e2.wf _ [])⟩
      refine .seq (AW.cnd (b:=true) (f30_6_F (by rw [decide_eq_false h0] at q1;exact q1)) (fun T' q=>q.2.2.2) fun T' q=> ?_)
      refine AW.andThen (f30_7 (ldf k33 e2.row rfl) (itoa_ok e2.tabs he.1 he.2) (bs78c s2 _ ⟨#[101,114,114,111,114]⟩ _) (line3 (b:=errB) (by simp only [errB,List.length_cons,List.length_nil];omega)) ⟨q.1,q.2.1,q.2.2.1⟩) fun T6 q6=> ?_
      rw [skip21.2.2.1]
      exact AW.ret (fin q6)
end
section
set_option maxRecDepth 100000
/-! ### three lines, read -/
theorem ev_t1:cloEv 24 [sb [116,105,99,107,32,45,49]]=some (.tup [.agg [i64 4,i64 0,i64 (-1),.nils,.nils],TT],[]):=by kernel_rfl
theorem ev_op:cloEv 24 [sb [111,112,101,110]]=some (.tup [.agg [i64 9,i64 0,i64 0,.nils,.nils],TT],[]):=by kernel_rfl
theorem ev_t01:cloEv 24 [sb [116,105,99,107,32,48,49]]=some (.tup [.agg [i64 4,i64 0,i64 1,.nils,.nils],FF],[]):=by kernel_rfl
def evW(b:List UInt8):Bool:=b != [116,105,99,107,32,48,49]
def VW(b:List UInt8)(cs:List AV)(_:St):Prop:=b= [116,105,99,107,32,45,49]→cs= [i64 4,i64 0,i64 (-1),.nils,.nils]
theorem evC_of{st:St}(hgl:Tabs st){b:List UInt8}{n k:Int}{r:Bool}(hr:evW b=r)(hb:r=true→b= [116,105,99,107,32,45,49]→k=4∧n= -1)(h:cloEv 24 [sb b]=some (.tup [.agg [i64 k,i64 0,i64 n,.nils,.nils],bo r],[])):EvC st VW evW b:=fun σ hσ=>by
  obtain ⟨s',h1,h2⟩:=closed_val h (fun _=>rfl) (fun _=>by cases r<;>rfl) (hgl.rest hσ) hσ.wf
  refine ⟨_,_,_,_,_,s',by rw [hr];exact h1,h2,fun e1 e2=> ?_⟩
  obtain ⟨rfl,rfl⟩:=hb (by rw [←hr];exact e1) e2
  rfl
/-- what the two texts come to -/
theorem parse_w1{st:St}(hgl:Tabs st)(hw:st.wf)(hl:st.lock= []):∃id f z vs,obC 10 [sb [116,105,99,107,32,45,49,10,111,112,101,110,10]] st (.tup [.sl id 5 0 2 f,i64 0,i64 0]) z∧Rest st z []∧z.get id=some (.row vs 54)∧vs[2]? =some (i64 (-1)):=by
  have hl2:linesL 14 [116,105,99,107,32,45,49,10,111,112,101,110,10]= [[116,105,99,107,32,45,49],[111,112,101,110]]:=by decide
  have hp:parseF evW 14 [116,105,99,107,32,45,49,10,111,112,101,110,10] []= .inl [[116,105,99,107,32,45,49],[111,112,101,110]]:=by decide
  obtain ⟨r,z,h1,h2,h3⟩:=parsed_ok (V:=VW) (ev:=evW) hw hl (s:= [116,105,99,107,32,45,49,10,111,112,101,110,10]) (by decide) (fun b hb=>by
    rw [show ([116,105,99,107,32,45,49,10,111,112,101,110,10]:List UInt8).length+1=14 from rfl,hl2] at hb
    simp only [List.mem_cons,List.mem_nil_iff,or_false] at hb
    rcases hb with rfl|rfl
    · exact evC_of hgl (by decide) (fun _ _=>⟨rfl,rfl⟩) ev_t1
    · exact evC_of hgl (by decide) (fun _ e=>by simp at e) ev_op)
  rw [show ([116,105,99,107,32,45,49,10,111,112,101,110,10]:List UInt8).length+1=14 from rfl,hp] at h3
  obtain ⟨L,css,rfl,hL,⟨hV1,hV2⟩,_⟩:=h3
  rcases hL with ⟨h,_⟩|⟨hlen,id,f,rfl,hg⟩
  · simp at h
  · refine ⟨id,f,z,_,f10 h1,h2,hg,?_⟩
    match css,hV1,hV2 with
    | [c1,c2],_,hV2=>
      obtain ⟨a1,s',a2,_⟩:=hV2 0 _ c1 rfl rfl
      have:=a2 rfl
      subst this
      rfl
theorem parse_w2{st:St}(hgl:Tabs st)(hw:st.wf)(hl:st.lock= []):∃z,obC 10 [sb [116,105,99,107,32,48,49,10]] st (.tup [.nils,i64 1,i64 5]) z∧Rest st z []:=by
  have hl2:linesL 9 [116,105,99,107,32,48,49,10]= [[116,105,99,107,32,48,49]]:=by decide
  have hp:parseF evW 9 [116,105,99,107,32,48,49,10] []= .inr 1:=by decide
  obtain ⟨r,z,h1,h2,h3⟩:=parsed_ok (V:=VW) (ev:=evW) hw hl (s:= [116,105,99,107,32,48,49,10]) (by decide) (fun b hb=>by
    rw [show ([116,105,99,107,32,48,49,10]:List UInt8).length+1=9 from rfl,hl2] at hb
    simp only [List.mem_cons,List.mem_nil_iff,or_false] at hb
    subst hb
    exact evC_of (r:=false) hgl (by decide) (fun e=>by cases e) ev_t01)
  rw [show ([116,105,99,107,32,48,49,10]:List UInt8).length+1=9 from rfl,hp] at h3
  subst h3
  exact ⟨z,f10 h1,h2⟩
/-! ### the events and rows that are written -/
theorem text_w{st:St}{d p:AV}(hgl:Tabs st)(hw:st.wf)(hl:st.lock= []){id:Nat}{f:Bool}(hd:BS st d [104,105])(hp:NS st p [5,0])(hg:st.get id=some (.row [i64 2,i64 2,i64 0,d,.nils,i64 8,i64 0,i64 3,.nils,p,i64 5,i64 0,i64 0,.nils,.nils] 54)):
    ∃z,obC 7 [.sl id 5 0 3 f] st (.tup [sb [112,117,115,104,32,50,32,34,104,105,34,10,99,114,97,115,104,32,51,32,53,32,48,10,115,116,101,112,10],i64 0]) z∧Rest st z []:=by
  have ev:∀(k c n:Int) (d p:AV) (db:List UInt8) (ps:List Nat),BS st d db→NS st p ps→I64 c→I64 n→db.length≤10000000000→(∀x∈ps,x<65536)→ps.length≤1000000000→WrC 21 st [i64 k,i64 c,i64 n,d,p] (evLine k c n db ps):=fun k c n d p db ps h1 h2 h3 h4 h5 h6 h7 σ hσ=>
    eventLine_ok hσ.wf (hσ.lock.trans hl) (fun q hq=>hσ.gl q (hgl q hq)) (by
      rcases h1 with h|h|⟨i,o,f,vs,h,hg,h8,h9⟩
      · exact .inl h
      · exact .inr (.inl h)
      · exact .inr (.inr ⟨i,o,f,vs,h,hσ.keep _ _ hg,h8,h9⟩)) (by
      rcases h2 with h|h|⟨i,o,f,vs,h,hg,h8,h9⟩
      · exact .inl h
      · exact .inr (.inl h)
      · exact .inr (.inr ⟨i,o,f,vs,h,hσ.keep _ _ hg,h8,h9⟩)) h3 h4 h5 h6 h7
  have e1:evLine 2 2 0 [104,105] []=some [112,117,115,104,32,50,32,34,104,105,34]:=by kernel_rfl
  have e2:evLine 8 0 3 [] [5,0]=some [99,114,97,115,104,32,51,32,53,32,48]:=by kernel_rfl
  have e3:evLine 5 0 0 [] []=some [115,116,101,112]:=by kernel_rfl
  have i0:∀n:Int,-10≤n∧n≤10→I64 n:=fun n h=>⟨by omega,by omega⟩
  obtain ⟨z,h1,h2⟩:=written18_ok (x:= .sl id 5 0 3 f) hw hl [[i64 2,i64 2,i64 0,d,.nils],[i64 8,i64 0,i64 3,.nils,p],[i64 5,i64 0,i64 0,.nils,.nils]] [evLine 2 2 0 [104,105] [],evLine 8 0 3 [] [5,0],evLine 5 0 0 [] []] rfl
    ⟨fun c hc=>by simp only [List.mem_cons,List.mem_nil_iff,or_false] at hc;rcases hc with rfl|rfl|rfl<;>rfl,.inr (.inr ⟨id,0,f,_,rfl,hg,rfl,by simp⟩)⟩ (by simp)
    (fun i c o h1 h2=>by
      match i,h1,h2 with
      |0,h1,h2=>cases h1;cases h2;exact ev _ _ _ _ _ _ _ hd (.inl ⟨rfl,rfl⟩) (i0 _ (by omega)) (i0 _ (by omega)) (by simp) (by simp) (by simp)
      |1,h1,h2=>cases h1;cases h2;exact ev _ _ _ _ _ _ _ (.inl ⟨rfl,rfl⟩) hp (i0 _ (by omega)) (i0 _ (by omega)) (by simp) (by simp) (by simp)
      |2,h1,h2=>cases h1;cases h2;exact ev _ _ _ _ _ _ _ (.inl ⟨rfl,rfl⟩) (.inl ⟨rfl,rfl⟩) (i0 _ (by omega)) (i0 _ (by omega)) (by simp) (by simp) (by simp)
      |i+3,h1,h2=>simp at h1) (by rw [e1,e2,e3];decide)
  rw [e1,e2,e3] at h1
  exact ⟨z,f7 (by simpa [wrA,wrF] using h1),h2⟩
theorem rows_w{st:St}{d:AV}(hgl:Tabs st)(hw:st.wf)(hl:st.lock= []){id:Nat}{f:Bool}(hd:BS st d [120])(hg:st.get id=some (.row [i64 2,i64 0,i64 0,i64 0,d,TT,i64 5,i64 0,i64 0,i64 4,.nils,FF,i64 1,i64 7,i64 0,i64 0,.nils,FF] 70)):
    ∃z,obC 14 [.sl id 6 0 3 f] st (.tup [sb [112,117,115,104,32,111,107,32,34,120,34,32,101,110,100,101,100,10,115,116,101,112,32,111,107,32,52,10,99,111,110,110,101,99,116,32,101,114,114,111,114,32,55,10],i64 0]) z∧Rest st z []:=by
  have ev:∀(k e c n:Int) (d:AV) (en:Bool) (db:List UInt8),BS st d db→I64 e→I64 c→I64 n→db.length≤10000000000→WrC 30 st [i64 k,i64 e,i64 c,i64 n,d,bo en] (rowF k e c n db en):=fun k e c n d en db h1 h2 h3 h4 h5 σ hσ=>
    rowLine_ok hσ.wf (hσ.lock.trans hl) (fun q hq=>hσ.gl q (hgl q hq)) (by
      rcases h1 with h|h|⟨i,o,f,vs,h,hg,h8,h9⟩
      · exact .inl h
      · exact .inr (.inl h)
      · exact .inr (.inr ⟨i,o,f,vs,h,hσ.keep _ _ hg,h8,h9⟩)) h2 h3 h4 h5
  have e1:rowF 2 0 0 0 [120] true=some [112,117,115,104,32,111,107,32,34,120,34,32,101,110,100,101,100]:=by kernel_rfl
  have e2:rowF 5 0 0 4 [] false=some [115,116,101,112,32,111,107,32,52]:=by kernel_rfl
  have e3:rowF 1 7 0 0 [] false=some [99,111,110,110,101,99,116,32,101,114,114,111,114,32,55]:=by kernel_rfl
  have i0:∀n:Int,-10≤n∧n≤10→I64 n:=fun n h=>⟨by omega,by omega⟩
  obtain ⟨z,h1,h2⟩:=written20_ok (x:= .sl id 6 0 3 f) hw hl [[i64 2,i64 0,i64 0,i64 0,d,TT],[i64 5,i64 0,i64 0,i64 4,.nils,FF],[i64 1,i64 7,i64 0,i64 0,.nils,FF]] [rowF 2 0 0 0 [120] true,rowF 5 0 0 4 [] false,rowF 1 7 0 0 [] false] rfl
    ⟨fun c hc=>by simp only [List.mem_cons,List.mem_nil_iff,or_false] at hc;rcases hc with rfl|rfl|rfl<;>rfl,.inr (.inr ⟨id,0,f,_,rfl,hg,rfl,by simp⟩)⟩ (by simp)
    (fun i c o h1 h2=>by
      match i,h1,h2 with
      |0,h1,h2=>cases h1;cases h2;exact ev _ _ _ _ _ true _ hd (i0 _ (by omega)) (i0 _ (by omega)) (i0 _ (by omega)) (by simp)
      |1,h1,h2=>cases h1;cases h2;exact ev _ _ _ _ _ false _ (.inl ⟨rfl,rfl⟩) (i0 _ (by omega)) (i0 _ (by omega)) (i0 _ (by omega)) (by simp)
      |2,h1,h2=>cases h1;cases h2;exact ev _ _ _ _ _ false _ (.inl ⟨rfl,rfl⟩) (i0 _ (by omega)) (i0 _ (by omega)) (i0 _ (by omega)) (by simp)
      |i+3,h1,h2=>simp at h1) (by rw [e1,e2,e3];decide)
  rw [e1,e2,e3] at h1
  exact ⟨z,f14 (by simpa [wrA,wrF] using h1),h2⟩
end
end Go.Proofs.YtnknfheabnogaaaGreatDoor.E
