/- Part 5 of the proof, over the abstract machine: contracts of the functions that the statement reaches, joined out of several texts. Condition: none beyond those that the lemmas name. -/
import Derived.Test.YtalchcdenhfmiaaGreatDoorP4
import Derived.Laws.RangeAny
namespace Go.Proofs.YtalchcdenhfmiaaGreatDoor.E
open Go Go.Proofs
section
set_option maxRecDepth 8000
theorem bounds_mid{len lo hi:Nat}(h1:lo≤hi)(h2:hi≤len):boundsA len len (some (i64 lo)) (some (i64 hi)) none=some (lo,hi,len):=by
 have e1:natLe (i64 hi) len=some hi:=by
  show (if 0≤(hi:Int)∧(hi:Int)≤len then some (hi:Int).toNat else none)=some hi
  rw [if_pos ⟨by omega,by omega⟩];rfl
 have e2:natLe (i64 lo) hi=some lo:=by
  show (if 0≤(lo:Int)∧(lo:Int)≤hi then some (lo:Int).toNat else none)=some lo
  rw [if_pos ⟨by omega,by omega⟩];rfl
 delta boundsA
 simp only [e1,e2]
theorem BS.slice{st:St}{v:AV}{bs:List Int}(h:BS st v bs){lo hi:Nat}(h1:lo≤hi)(h2:hi≤bs.length):∃w,sliceA E0 st 22 v (some (i64 lo)) (some (i64 hi)) none=some w∧BS st w ((bs.drop lo).take (hi- lo)):=by
 have sz5:tySize E0 5=some 1:=by kernel_rfl
 have hln:((bs.drop lo).take (hi- lo)).length=hi- lo:=by rw [List.length_take,List.length_drop];omega
 rcases h with ⟨rfl,rfl⟩|⟨fl,rfl⟩|⟨id,off,f,vs,rfl,hg,h3,h4⟩
 ·have e1:lo=0:=by simp at h2;omega
  have e2:hi=0:=by simpa using h2
  subst e1;subst e2
  exact ⟨.nils,by kernel_rfl,.inl ⟨rfl,by simp⟩⟩
 ·simp only [sliceA,ty28,sz5,if_true,bounds_mid h1 h2]
  exact ⟨_,rfl,.inr (.inl ⟨_,by rw [hln,Nat.mul_one,Nat.mul_one,List.map_take,List.map_drop]⟩)⟩
 ·simp only [sliceA,ty28,sz5,if_true,bounds_mid h1 h2]
  by_cases he:hi=lo
  ·rw [if_pos he]
   have e0:(bs.drop lo).take (hi- lo)= []:=by rw [he,Nat.sub_self];rfl
   exact ⟨_,rfl,.inr (.inl ⟨false,by rw [e0];rfl⟩)⟩
  ·rw [if_neg he]
   refine ⟨_,rfl,.inr (.inr ⟨id,off+lo,_,vs,by rw [hln,Nat.mul_one],hg,?_,by rw [hln];omega⟩)⟩
   rw [hln]
   have h5:=congrArg (fun l=>(l.drop lo).take (hi- lo)) h3
   simp only [List.drop_take,List.drop_drop,List.take_take] at h5
   rw [Nat.min_eq_left (by omega)] at h5
   rw [h5,List.map_take,List.map_drop]
theorem BS.str{st:St}{v:AV}{bs:List Int}(h:BS st v bs):bytesStrA E0 st 22 9 v=some (str (strOfNums bs)):=by
 have h:=h.cells
 obtain ⟨i,j,k,h1,h2,h3,h4,h5,h6⟩:∃i j k,E0.ty 22=some i∧E0.ty 9=some j∧E0.ty 5=some k∧i.desc= .slice 5∧j.desc= .string∧k.desc= .int .u8:=⟨_,_,_,rfl,rfl,rfl,by kernel_rfl,by kernel_rfl,by kernel_rfl⟩
 simp only [bytesStrA,h,h1,h2,h4,h5,h3,h6,numsA_u8,if_true]
theorem u8_back{x:Int}(h:0≤x∧x<256):((UInt8.ofNat x.toNat).toNat:Int)=x:=by
 have:(UInt8.ofNat x.toNat).toNat=x.toNat%256:=rfl
 rw [this];omega
theorem u8s_back{l:List Int}(h:∀x∈l,0≤x∧x<256):(l.map fun n=>UInt8.ofNat n.toNat).map (fun b=>(b.toNat:Int))=l:=by
 rw [List.map_map]
 conv=>rhs;rw [←List.map_id l]
 exact List.map_congr_left fun x hx=>u8_back (h x hx)
theorem strOf_inj{l m:List Int}(hl:∀x∈l,0≤x∧x<256)(hm:∀x∈m,0≤x∧x<256)(h:strOfNums l=strOfNums m):l=m:=by
 have h1:(l.map fun n=>UInt8.ofNat n.toNat)=m.map fun n=>UInt8.ofNat n.toNat:=by
  have:=congrArg (fun s:ByteArray=>s.data.toList) h
  simpa [strOfNums] using this
 rw [←u8s_back hl,←u8s_back hm,h1]
theorem byteAt_range(n c:Int):0≤byteAt n c∧byteAt n c<256:=by
 unfold byteAt
 rw [IntKind.wrap_u8]
 omega
theorem frameL_range{d:List Int}(h:∀x∈d,0≤x∧x<256):∀x∈frameL d,0≤x∧x<256:=by
 intro x hx
 unfold frameL be4 at hx
 simp only [List.mem_append,List.mem_cons,List.not_mem_nil,or_false] at hx
 rcases hx with (((rfl|rfl|rfl|rfl))|(rfl|rfl|rfl|rfl))|hx
 all_goals first|exact byteAt_range _ _|exact h x hx
theorem nat_range{xs:List Nat}(h:∀x∈xs,x<256):∀x∈xs.map Int.ofNat,0≤x∧x<256:=by
 intro x hx
 obtain ⟨y,hy,rfl⟩:=List.mem_map.1 hx
 have:=h y hy
 exact ⟨Int.natCast_nonneg _,by show (y:Int)<256;omega⟩
theorem AW.blockR{P:Program}{c:Code}{id:Nat}{L:Tm→Prop}{T:Tm}{st s:St}(h:AW P c (fun ex T' st'=>ex= .ret∧L T'∧st'=s) T st):AW P (.block id c) (fun ex T' st'=>ex= .ret∧L T'∧st'=s) T st:=
 .block (h.mono fun ex T' st' ⟨h1,h2,h3⟩=>by subst h1;exact ⟨rfl,h2,h3⟩)
theorem AW.exitThen{P:Program}{a b:Code}{id:Nat}{Q:Exit→Tm→St→Prop}{L:Tm→Prop}{T:Tm}{st s:St}(h:AW P a (fun ex T' st'=>ex= .exit id∧L T'∧st'=s) T st)(k:∀T',L T'→Q (.exit id) T' s):AW P (.seq a b) Q T st:=
 .seq (h.mono fun ex T' st' ⟨h1,h2,h3⟩=>by
  subst h1;subst h3
  exact k T' h2)
theorem AW.turnsRet{P:Program}{body:Code}{id:Nat}{In:Nat→Tm→Prop}{L:Tm→Prop}{c:Nat→St}{n:Nat}{T:Tm}{st sf:St}(h0:st=c 0)(hT:In 0 T)
  (turn:∀i,i<n→∀T,In i T→AW P body (fun ex T' st'=>ex= .normal∧In (i+1) T'∧st'=c (i+1)) T (c i))
  (fin:∀T,In n T→AW P body (fun ex T' st'=>ex= .ret∧L T'∧st'=sf) T (c n)):
  AW P (.block id (.loop body)) (fun ex T' st'=>ex= .ret∧L T'∧st'=sf) T st:=by
 subst h0
 refine .block ((AW.loop (fun m T st'=>∃i:Nat,i≤n∧m=n- i∧st'=c i∧In i T) (Q:=fun ex T' st'=>ex= .ret∧L T'∧st'=sf) n ⟨0,by omega,rfl,rfl,hT⟩ fun m T st' hI=> ?_).mono fun ex T' st' ⟨h1,h2,h3⟩=> ?_)
 ·obtain ⟨i,hi,rfl,rfl,hin⟩:=hI
  by_cases hlt:i<n
  ·refine (turn i hlt T hin).mono fun ex T' st2 ⟨he,hin',hst⟩=> ?_
   subst he
   exact ⟨n- (i+1),by omega,i+1,by omega,rfl,hst,hin'⟩
  ·obtain rfl:i=n:=by omega
   refine (fin T hin).mono fun ex T' st2 ⟨he,hL,hst⟩=> ?_
   subst he
   exact ⟨rfl,hL,hst⟩
 ·subst h1
  exact ⟨rfl,h2,h3⟩
theorem chain_wf{α:Type}(I:α→St→Prop)(μ:α→Nat)(Step:α→St→α→St→Prop)(End:α→St→Prop)(h:∀a s,I a s→End a s∨∃a' s',I a' s'∧μ a'<μ a∧Step a s a' s'):∀(k:Nat) (a:α) (s:St),μ a≤k→I a s→
  ∃(n:Nat) (c:Nat→α) (σ:Nat→St),c 0=a∧σ 0=s∧(∀i,i<n→Step (c i) (σ i) (c (i+1)) (σ (i+1)))∧End (c n) (σ n):=by
 intro k
 induction k with
 |zero=>
  intro a s hm hI
  rcases h a s hI with he|⟨a',s',_,hlt,_⟩
  ·exact ⟨0,fun _=>a,fun _=>s,rfl,rfl,fun i hi=>by omega,he⟩
  ·omega
 |succ k ih=>
  intro a s hm hI
  rcases h a s hI with he|⟨a',s',hI',hlt,hs⟩
  ·exact ⟨0,fun _=>a,fun _=>s,rfl,rfl,fun i hi=>by omega,he⟩
  ·obtain ⟨n,c,σ,c0,s0,ht,he⟩:=ih a' s' (by omega) hI'
   refine ⟨n+1,fun i=>match i with|0=>a|i+1=>c i,fun i=>match i with|0=>s|i+1=>σ i,rfl,rfl,fun i hi=> ?_,he⟩
   match i,hi with
   |0,_=>simp only;rw [c0,s0];exact hs
   |i+1,hi=>exact ht i (by omega)
end
section
set_option maxRecDepth 4000
abbrev i32(n:Int):AV:= .val (.int .i32 n)
end
section
set_option maxRecDepth 100000
noncomputable def f71P(i:Nat):Code:=match Tryz.f71.body with
 |some (.seq x0 (.seq x1 (.seq x2 (.seq x3 (.seq (.seq x4 (.block 0 (.loop x5))) x6)))))=> [x0,x1,x2,x3,x4,x5,x6].getD i .skip
 |_=> .skip
theorem f71body:Tryz.f71.body=some (.seq (f71P 0) (.seq (f71P 1) (.seq (f71P 2) (.seq (f71P 3) (.seq (.seq (f71P 4) (.block 0 (.loop (f71P 5)))) (f71P 6)))))):=by kernel_rfl
def f71L0(T:Tm)(a0:AV):Prop:=T.n=38∧T.get 0=a0
theorem f71_0_e(w0:ByteArray)(st:St):evR gA0 [] (f71P 0) ⟨38,[(0,(str w0))],[]⟩ st []=some (.normal,38,[(str w0)],st,[]):=by kernel_rfl
theorem f71_0{w0:ByteArray}{st:St}{T:Tm}(hT:f71L0 T (str w0)):AW Tryz.prog (f71P 0) (fun ex T' st'=>ex= .normal∧f71L0 T' (str w0)∧st'=st) T st:=by
 obtain ⟨hn,g0⟩:=hT
 exact genR (f71_0_e w0 st) Ob.ok_nil hn (one g0) fun T' q2 q3=>by simp only [gA0,List.cons.injEq,and_true] at q3;exact ⟨rfl,⟨q2,q3⟩,rfl⟩
def f71L1(T:Tm)(a3 a4:AV):Prop:=T.n=38∧T.get 3=a3∧T.get 4=a4
theorem f71_1_e(w0 w10a:ByteArray)(st s1:St)(b10b:Bool):evR gA20 [6092] (f71P 1) ⟨38,[(0,(str w0))],[]⟩ st [.eff (.tup [(str w10a),(bo b10b)]) (fun _=>s1)]=some (.normal,38,[(str w10a),(bo b10b)],s1,[obC 92 [(str w0),(str ⟨#[119,97,108,45]⟩)] st (.tup [(str w10a),(bo b10b)]) s1]):=by kernel_rfl
theorem f71_1{w0 w10a:ByteArray}{st s1:St}{b10b:Bool}(h1:obC 92 [(str w0),(str ⟨#[119,97,108,45]⟩)] st (.tup [(str w10a),(bo b10b)]) s1){T:Tm}(hT:f71L0 T (str w0)):AW Tryz.prog (f71P 1) (fun ex T' st'=>ex= .normal∧f71L1 T' (str w10a) (bo b10b)∧st'=s1) T st:=by
 obtain ⟨hn,g0⟩:=hT
 exact genR (f71_1_e w0 w10a st s1 b10b) (kk h1 Ob.ok_nil) hn (one g0) fun T' q2 q3=>by simp only [gA20,List.cons.injEq,and_true] at q3;exact ⟨rfl,⟨q2,q3⟩,rfl⟩
def f71L2(T:Tm)(a2:AV):Prop:=T.n=38∧T.get 2=a2
theorem f71_2_TT_e(w3:ByteArray)(st:St)(n17:Int):evR gA4 [7017,7018] (f71P 2) ⟨38,[(3,(str w3)),(4,TT)],[]⟩ st [.av (i64 n17),.av TT]=some (.ret,38,[(i64 0)],st,[lenA E0 9 (str w3)=some (i64 n17),Bt 3 .neq n17 8 TT]):=by kernel_rfl
theorem f71_2_TT{w3:ByteArray}{st:St}{n17:Int}(h1:lenA E0 9 (str w3)=some (i64 n17))(h2:Bt 3 .neq n17 8 TT){T:Tm}(hT:f71L1 T (str w3) TT):AW Tryz.prog (f71P 2) (fun ex T' st'=>ex= .ret∧f71L2 T' (i64 0)∧st'=st) T st:=by
 obtain ⟨hn,g3,g4⟩:=hT
 exact genR (f71_2_TT_e w3 st n17) (kk h1 (kk h2 Ob.ok_nil)) hn (conz g3 (one g4)) fun T' q2 q3=>by simp only [gA4,List.cons.injEq,and_true] at q3;exact ⟨rfl,⟨q2,q3⟩,rfl⟩
def f71L3(T:Tm)(a3:AV):Prop:=T.n=38∧T.get 3=a3
theorem f71_2_TF_e(w3:ByteArray)(st:St)(n17:Int):evR gA3 [7017,7018] (f71P 2) ⟨38,[(3,(str w3)),(4,TT)],[]⟩ st [.av (i64 n17),.av FF]=some (.normal,38,[(str w3)],st,[lenA E0 9 (str w3)=some (i64 n17),Bt 3 .neq n17 8 FF]):=by kernel_rfl
theorem f71_2_TF{w3:ByteArray}{st:St}{n17:Int}(h1:lenA E0 9 (str w3)=some (i64 n17))(h2:Bt 3 .neq n17 8 FF){T:Tm}(hT:f71L1 T (str w3) TT):AW Tryz.prog (f71P 2) (fun ex T' st'=>ex= .normal∧f71L3 T' (str w3)∧st'=st) T st:=by
 obtain ⟨hn,g3,g4⟩:=hT
 exact genR (f71_2_TF_e w3 st n17) (kk h1 (kk h2 Ob.ok_nil)) hn (conz g3 (one g4)) fun T' q2 q3=>by simp only [gA3,List.cons.injEq,and_true] at q3;exact ⟨rfl,⟨q2,q3⟩,rfl⟩
theorem f71_2_F_e(w3:ByteArray)(st:St):evR gA4 [7017,7018] (f71P 2) ⟨38,[(3,(str w3)),(4,FF)],[]⟩ st []=some (.ret,38,[(i64 0)],st,[]):=by kernel_rfl
theorem f71_2_F{w3:ByteArray}{st:St}{T:Tm}(hT:f71L1 T (str w3) FF):AW Tryz.prog (f71P 2) (fun ex T' st'=>ex= .ret∧f71L2 T' (i64 0)∧st'=st) T st:=by
 obtain ⟨hn,g3,g4⟩:=hT
 exact genR (f71_2_F_e w3 st) Ob.ok_nil hn (conz g3 (one g4)) fun T' q2 q3=>by simp only [gA4,List.cons.injEq,and_true] at q3;exact ⟨rfl,⟨q2,q3⟩,rfl⟩
def f71L4(T:Tm)(a3 a5:AV):Prop:=T.n=38∧T.get 3=a3∧T.get 5=a5
abbrev gA35(T:Tm):List AV:= [T.get 3,T.get 5]
theorem f71_3_e(w3:ByteArray)(st:St):evR gA35 [] (f71P 3) ⟨38,[(3,(str w3))],[]⟩ st []=some (.normal,38,[(str w3),(i64 0)],st,[]):=by kernel_rfl
theorem f71_3{w3:ByteArray}{st:St}{T:Tm}(hT:f71L3 T (str w3)):AW Tryz.prog (f71P 3) (fun ex T' st'=>ex= .normal∧f71L4 T' (str w3) (i64 0)∧st'=st) T st:=by
 obtain ⟨hn,g3⟩:=hT
 exact genR (f71_3_e w3 st) Ob.ok_nil hn (one g3) fun T' q2 q3=>by simp only [gA35,List.cons.injEq,and_true] at q3;exact ⟨rfl,⟨q2,q3⟩,rfl⟩
def f71L5(T:Tm)(a5 a21:AV):Prop:=T.n=38∧T.get 5=a5∧T.get 21=a21
abbrev gA36(T:Tm):List AV:= [T.get 5,T.get 21]
theorem f71_4_e(w3:ByteArray)(n5:Int)(st s1:St)(a21:Nat):evR gA36 [2021] (f71P 4) ⟨38,[(3,(str w3)),(5,(i64 n5))],[]⟩ st [.eff (pt a21) (fun _=>s1)]=some (.normal,38,[(i64 n5),(pt a21)],s1,[rangeA E0 st 9 (str w3)=none∧rangeStrA E0 st 9 (str w3)=some ((pt a21),s1)]):=by kernel_rfl
theorem f71_4{w3:ByteArray}{n5:Int}{st s1:St}{a21:Nat}(h1:rangeA E0 st 9 (str w3)=none∧rangeStrA E0 st 9 (str w3)=some ((pt a21),s1)){T:Tm}(hT:f71L4 T (str w3) (i64 n5)):AW Tryz.prog (f71P 4) (fun ex T' st'=>ex= .normal∧f71L5 T' (i64 n5) (pt a21)∧st'=s1) T st:=by
 obtain ⟨hn,g3,g5⟩:=hT
 exact genR (f71_4_e w3 n5 st s1 a21) (kk h1 Ob.ok_nil) hn (conz g3 (one g5)) fun T' q2 q3=>by simp only [gA36,List.cons.injEq,and_true] at q3;exact ⟨rfl,⟨q2,q3⟩,rfl⟩
abbrev sL20:List Nat:= [2022,2035,7026,7029,7032,7034,7036]
theorem f71_5_TT_e(n5 k22 c22:Int)(r:Nat)(st s1:St):evR gA4 sL20 (f71P 5) ⟨38,[(5,(i64 n5)),(21,(pt r))],[]⟩ st [.eff (.tup [TT,(i64 k22),(i32 c22)]) (fun _=>s1),.av TT]=some (.ret,38,[(i64 0)],s1,[nextStrA st (pt r)=some ((.tup [TT,(i64 k22),(i32 c22)]),s1),binA E0 .lss 21 (i32 c22) (i32 48)=some TT]):=by kernel_rfl
theorem f71_5_TT{n5 k22 c22:Int}{r:Nat}{st s1:St}(h1:nextStrA st (pt r)=some ((.tup [TT,(i64 k22),(i32 c22)]),s1))(h2:binA E0 .lss 21 (i32 c22) (i32 48)=some TT){T:Tm}(hT:f71L5 T (i64 n5) (pt r)):AW Tryz.prog (f71P 5) (fun ex T' st'=>ex= .ret∧f71L2 T' (i64 0)∧st'=s1) T st:=by
 obtain ⟨hn,g5,g21⟩:=hT
 exact genR (f71_5_TT_e n5 k22 c22 r st s1) (kk h1 (kk h2 Ob.ok_nil)) hn (conz g5 (one g21)) fun T' q2 q3=>by simp only [gA4,List.cons.injEq,and_true] at q3;exact ⟨rfl,⟨q2,q3⟩,rfl⟩
theorem f71_5_TFT_e(n5 k22 c22:Int)(r:Nat)(st s1:St):evR gA4 sL20 (f71P 5) ⟨38,[(5,(i64 n5)),(21,(pt r))],[]⟩ st [.eff (.tup [TT,(i64 k22),(i32 c22)]) (fun _=>s1),.av FF,.av TT]=some (.ret,38,[(i64 0)],s1,[nextStrA st (pt r)=some ((.tup [TT,(i64 k22),(i32 c22)]),s1),binA E0 .lss 21 (i32 c22) (i32 48)=some FF,binA E0 .gtr 21 (i32 c22) (i32 57)=some TT]):=by kernel_rfl
theorem f71_5_TFT{n5 k22 c22:Int}{r:Nat}{st s1:St}(h1:nextStrA st (pt r)=some ((.tup [TT,(i64 k22),(i32 c22)]),s1))(h2:binA E0 .lss 21 (i32 c22) (i32 48)=some FF)(h3:binA E0 .gtr 21 (i32 c22) (i32 57)=some TT){T:Tm}(hT:f71L5 T (i64 n5) (pt r)):AW Tryz.prog (f71P 5) (fun ex T' st'=>ex= .ret∧f71L2 T' (i64 0)∧st'=s1) T st:=by
 obtain ⟨hn,g5,g21⟩:=hT
 exact genR (f71_5_TFT_e n5 k22 c22 r st s1) (kk h1 (kk h2 (kk h3 Ob.ok_nil))) hn (conz g5 (one g21)) fun T' q2 q3=>by simp only [gA4,List.cons.injEq,and_true] at q3;exact ⟨rfl,⟨q2,q3⟩,rfl⟩
theorem f71_5_TFF_e(n5 k22 c22 n32 n34 n35 n36:Int)(r:Nat)(st s1:St):evR gA36 sL20 (f71P 5) ⟨38,[(5,(i64 n5)),(21,(pt r))],[]⟩ st [.eff (.tup [TT,(i64 k22),(i32 c22)]) (fun _=>s1),.av FF,.av FF,.av (i64 n32),.av (i32 n34),.eff (i64 n35) id,.av (i64 n36)]=some (.normal,38,[(i64 n36),(pt r)],s1,[nextStrA st (pt r)=some ((.tup [TT,(i64 k22),(i32 c22)]),s1),binA E0 .lss 21 (i32 c22) (i32 48)=some FF,binA E0 .gtr 21 (i32 c22) (i32 57)=some FF,Bt 3 .mul 10 n5 (i64 n32),binA E0 .sub 21 (i32 c22) (i32 48)=some (i32 n34),convO E0 s1 21 3 (i32 n34)=some ((i64 n35),s1),Bt 3 .add n32 n35 (i64 n36)]):=by kernel_rfl
theorem f71_5_TFF{n5 k22 c22 n32 n34 n35 n36:Int}{r:Nat}{st s1:St}(h1:nextStrA st (pt r)=some ((.tup [TT,(i64 k22),(i32 c22)]),s1))(h2:binA E0 .lss 21 (i32 c22) (i32 48)=some FF)(h3:binA E0 .gtr 21 (i32 c22) (i32 57)=some FF)(h4:Bt 3 .mul 10 n5 (i64 n32))(h5:binA E0 .sub 21 (i32 c22) (i32 48)=some (i32 n34))(h6:convO E0 s1 21 3 (i32 n34)=some ((i64 n35),s1))(h7:Bt 3 .add n32 n35 (i64 n36)){T:Tm}(hT:f71L5 T (i64 n5) (pt r)):AW Tryz.prog (f71P 5) (fun ex T' st'=>ex= .normal∧f71L5 T' (i64 n36) (pt r)∧st'=s1) T st:=by
 obtain ⟨hn,g5,g21⟩:=hT
 exact genR (f71_5_TFF_e n5 k22 c22 n32 n34 n35 n36 r st s1) (kk h1 (kk h2 (kk h3 (kk h4 (kk h5 (kk h6 (kk h7 Ob.ok_nil))))))) hn (conz g5 (one g21)) fun T' q2 q3=>by simp only [gA36,List.cons.injEq,and_true] at q3;exact ⟨rfl,⟨q2,q3⟩,rfl⟩
def f71L6(T:Tm)(a5:AV):Prop:=T.n=38∧T.get 5=a5
abbrev gA37(T:Tm):List AV:= [T.get 5]
theorem f71_5_F_e(n5:Int)(r:Nat)(st:St):evR gA37 sL20 (f71P 5) ⟨38,[(5,(i64 n5)),(21,(pt r))],[]⟩ st [.eff (.tup [FF]) id]=some ((.exit 0),38,[(i64 n5)],st,[nextStrA st (pt r)=some ((.tup [FF]),st)]):=by kernel_rfl
theorem f71_5_F{n5:Int}{r:Nat}{st:St}(h1:nextStrA st (pt r)=some ((.tup [FF]),st)){T:Tm}(hT:f71L5 T (i64 n5) (pt r)):AW Tryz.prog (f71P 5) (fun ex T' st'=>ex=(.exit 0)∧f71L6 T' (i64 n5)∧st'=st) T st:=by
 obtain ⟨hn,g5,g21⟩:=hT
 exact genR (f71_5_F_e n5 r st) (kk h1 Ob.ok_nil) hn (conz g5 (one g21)) fun T' q2 q3=>by simp only [gA37,List.cons.injEq,and_true] at q3;exact ⟨rfl,⟨q2,q3⟩,rfl⟩
theorem f71_6_e(n5:Int)(st:St):evR gA4 [] (f71P 6) ⟨38,[(5,(i64 n5))],[]⟩ st []=some (.ret,38,[(i64 n5)],st,[]):=by kernel_rfl
theorem f71_6{n5:Int}{st:St}{T:Tm}(hT:f71L6 T (i64 n5)):AW Tryz.prog (f71P 6) (fun ex T' st'=>ex= .ret∧f71L2 T' (i64 n5)∧st'=st) T st:=by
 obtain ⟨hn,g5⟩:=hT
 exact genR (f71_6_e n5 st) Ob.ok_nil hn (one g5) fun T' q2 q3=>by simp only [gA4,List.cons.injEq,and_true] at q3;exact ⟨rfl,⟨q2,q3⟩,rfl⟩
noncomputable def f72P(i:Nat):Code:=match Tryz.f72.body with
 |some (.seq x0 (.seq x1 (.seq x2 (.seq (.seq x3 (.block 0 (.loop x4))) x5))))=> [x0,x1,x2,x3,x4,x5].getD i .skip
 |_=> .skip
theorem f72body:Tryz.f72.body=some (.seq (f72P 0) (.seq (f72P 1) (.seq (f72P 2) (.seq (.seq (f72P 3) (.block 0 (.loop (f72P 4)))) (f72P 5))))):=by kernel_rfl
def f72L0(T:Tm)(a0:AV):Prop:=T.n=36∧T.get 0=a0
theorem f72_0_e(w0:ByteArray)(st:St):evR gA0 [] (f72P 0) ⟨36,[(0,(str w0))],[]⟩ st []=some (.normal,36,[(str w0)],st,[]):=by kernel_rfl
theorem f72_0{w0:ByteArray}{st:St}{T:Tm}(hT:f72L0 T (str w0)):AW Tryz.prog (f72P 0) (fun ex T' st'=>ex= .normal∧f72L0 T' (str w0)∧st'=st) T st:=by
 obtain ⟨hn,g0⟩:=hT
 exact genR (f72_0_e w0 st) Ob.ok_nil hn (one g0) fun T' q2 q3=>by simp only [gA0,List.cons.injEq,and_true] at q3;exact ⟨rfl,⟨q2,q3⟩,rfl⟩
def f72L1(T:Tm)(a2:AV):Prop:=T.n=36∧T.get 2=a2
abbrev sL21:List Nat:= [7006,7007,7010,7011]
theorem f72_1_T_e(w0:ByteArray)(st:St)(n6:Int):evR gA4 sL21 (f72P 1) ⟨36,[(0,(str w0))],[]⟩ st [.av (i64 n6),.av TT]=some (.ret,36,[(i64 0)],st,[lenA E0 9 (str w0)=some (i64 n6),Bt 3 .neq n6 12 TT]):=by kernel_rfl
theorem f72_1_T{w0:ByteArray}{st:St}{n6:Int}(h1:lenA E0 9 (str w0)=some (i64 n6))(h2:Bt 3 .neq n6 12 TT){T:Tm}(hT:f72L0 T (str w0)):AW Tryz.prog (f72P 1) (fun ex T' st'=>ex= .ret∧f72L1 T' (i64 0)∧st'=st) T st:=by
 obtain ⟨hn,g0⟩:=hT
 exact genR (f72_1_T_e w0 st n6) (kk h1 (kk h2 Ob.ok_nil)) hn (one g0) fun T' q2 q3=>by simp only [gA4,List.cons.injEq,and_true] at q3;exact ⟨rfl,⟨q2,q3⟩,rfl⟩
theorem f72_1_FT_e(w0 w10:ByteArray)(st:St)(n6:Int):evR gA4 sL21 (f72P 1) ⟨36,[(0,(str w0))],[]⟩ st [.av (i64 n6),.av FF,.av (str w10),.av TT]=some (.ret,36,[(i64 0)],st,[lenA E0 9 (str w0)=some (i64 n6),Bt 3 .neq n6 12 FF,sliceA E0 st 9 (str w0) none (some (i64 4)) none=some (str w10),binA E0 .neq 9 (str w10) (str ⟨#[119,97,108,45]⟩)=some TT]):=by kernel_rfl
theorem f72_1_FT{w0 w10:ByteArray}{st:St}{n6:Int}(h1:lenA E0 9 (str w0)=some (i64 n6))(h2:Bt 3 .neq n6 12 FF)(h3:sliceA E0 st 9 (str w0) none (some (i64 4)) none=some (str w10))(h4:binA E0 .neq 9 (str w10) (str ⟨#[119,97,108,45]⟩)=some TT){T:Tm}(hT:f72L0 T (str w0)):AW Tryz.prog (f72P 1) (fun ex T' st'=>ex= .ret∧f72L1 T' (i64 0)∧st'=st) T st:=by
 obtain ⟨hn,g0⟩:=hT
 exact genR (f72_1_FT_e w0 w10 st n6) (kk h1 (kk h2 (kk h3 (kk h4 Ob.ok_nil)))) hn (one g0) fun T' q2 q3=>by simp only [gA4,List.cons.injEq,and_true] at q3;exact ⟨rfl,⟨q2,q3⟩,rfl⟩
theorem f72_1_FF_e(w0 w10:ByteArray)(st:St)(n6:Int):evR gA0 sL21 (f72P 1) ⟨36,[(0,(str w0))],[]⟩ st [.av (i64 n6),.av FF,.av (str w10),.av FF]=some (.normal,36,[(str w0)],st,[lenA E0 9 (str w0)=some (i64 n6),Bt 3 .neq n6 12 FF,sliceA E0 st 9 (str w0) none (some (i64 4)) none=some (str w10),binA E0 .neq 9 (str w10) (str ⟨#[119,97,108,45]⟩)=some FF]):=by kernel_rfl
theorem f72_1_FF{w0 w10:ByteArray}{st:St}{n6:Int}(h1:lenA E0 9 (str w0)=some (i64 n6))(h2:Bt 3 .neq n6 12 FF)(h3:sliceA E0 st 9 (str w0) none (some (i64 4)) none=some (str w10))(h4:binA E0 .neq 9 (str w10) (str ⟨#[119,97,108,45]⟩)=some FF){T:Tm}(hT:f72L0 T (str w0)):AW Tryz.prog (f72P 1) (fun ex T' st'=>ex= .normal∧f72L0 T' (str w0)∧st'=st) T st:=by
 obtain ⟨hn,g0⟩:=hT
 exact genR (f72_1_FF_e w0 w10 st n6) (kk h1 (kk h2 (kk h3 (kk h4 Ob.ok_nil)))) hn (one g0) fun T' q2 q3=>by simp only [gA0,List.cons.injEq,and_true] at q3;exact ⟨rfl,⟨q2,q3⟩,rfl⟩
def f72L2(T:Tm)(a0 a3:AV):Prop:=T.n=36∧T.get 0=a0∧T.get 3=a3
theorem f72_2_e(w0:ByteArray)(st:St):evR gA1 [] (f72P 2) ⟨36,[(0,(str w0))],[]⟩ st []=some (.normal,36,[(str w0),(i64 0)],st,[]):=by kernel_rfl
theorem f72_2{w0:ByteArray}{st:St}{T:Tm}(hT:f72L0 T (str w0)):AW Tryz.prog (f72P 2) (fun ex T' st'=>ex= .normal∧f72L2 T' (str w0) (i64 0)∧st'=st) T st:=by
 obtain ⟨hn,g0⟩:=hT
 exact genR (f72_2_e w0 st) Ob.ok_nil hn (one g0) fun T' q2 q3=>by simp only [gA1,List.cons.injEq,and_true] at q3;exact ⟨rfl,⟨q2,q3⟩,rfl⟩
def f72L3(T:Tm)(a0 a3 a4:AV):Prop:=T.n=36∧T.get 0=a0∧T.get 3=a3∧T.get 4=a4
theorem f72_3_e(w0:ByteArray)(n3:Int)(st:St):evR gA29 [] (f72P 3) ⟨36,[(0,(str w0)),(3,(i64 n3))],[]⟩ st []=some (.normal,36,[(str w0),(i64 n3),(i64 4)],st,[]):=by kernel_rfl
theorem f72_3{w0:ByteArray}{n3:Int}{st:St}{T:Tm}(hT:f72L2 T (str w0) (i64 n3)):AW Tryz.prog (f72P 3) (fun ex T' st'=>ex= .normal∧f72L3 T' (str w0) (i64 n3) (i64 4)∧st'=st) T st:=by
 obtain ⟨hn,g0,g3⟩:=hT
 exact genR (f72_3_e w0 n3 st) Ob.ok_nil hn (conz g0 (one g3)) fun T' q2 q3=>by simp only [gA29,List.cons.injEq,and_true] at q3;exact ⟨rfl,⟨q2,q3⟩,rfl⟩
abbrev sL22:List Nat:= [2033,7014,7016,7019,7020,7024,7025,7028,7031,7032,7034]
theorem f72_4_TT_e(w0:ByteArray)(n3 n4 n19:Int)(st:St):evR gA4 sL22 (f72P 4) ⟨36,[(0,(str w0)),(3,(i64 n3)),(4,(i64 n4))],[]⟩ st [.av TT,.av (u8 n19),.av TT]=some (.ret,36,[(i64 0)],st,[Bt 3 .lss n4 12 TT,indexA E0 9 (str w0) (i64 n4)=some (u8 n19),binA E0 .lss 5 (u8 n19) (u8 48)=some TT]):=by kernel_rfl
theorem f72_4_TT{w0:ByteArray}{n3 n4 n19:Int}{st:St}(h1:Bt 3 .lss n4 12 TT)(h2:indexA E0 9 (str w0) (i64 n4)=some (u8 n19))(h3:binA E0 .lss 5 (u8 n19) (u8 48)=some TT){T:Tm}(hT:f72L3 T (str w0) (i64 n3) (i64 n4)):AW Tryz.prog (f72P 4) (fun ex T' st'=>ex= .ret∧f72L1 T' (i64 0)∧st'=st) T st:=by
 obtain ⟨hn,g0,g3,g4⟩:=hT
 exact genR (f72_4_TT_e w0 n3 n4 n19 st) (kk h1 (kk h2 (kk h3 Ob.ok_nil))) hn (conz g0 (conz g3 (one g4))) fun T' q2 q3=>by simp only [gA4,List.cons.injEq,and_true] at q3;exact ⟨rfl,⟨q2,q3⟩,rfl⟩
theorem f72_4_TFT_e(w0:ByteArray)(n3 n4 n19 n24:Int)(st:St):evR gA4 sL22 (f72P 4) ⟨36,[(0,(str w0)),(3,(i64 n3)),(4,(i64 n4))],[]⟩ st [.av TT,.av (u8 n19),.av FF,.av (u8 n24),.av TT]=some (.ret,36,[(i64 0)],st,[Bt 3 .lss n4 12 TT,indexA E0 9 (str w0) (i64 n4)=some (u8 n19),binA E0 .lss 5 (u8 n19) (u8 48)=some FF,indexA E0 9 (str w0) (i64 n4)=some (u8 n24),binA E0 .gtr 5 (u8 n24) (u8 57)=some TT]):=by kernel_rfl
theorem f72_4_TFT{w0:ByteArray}{n3 n4 n19 n24:Int}{st:St}(h1:Bt 3 .lss n4 12 TT)(h2:indexA E0 9 (str w0) (i64 n4)=some (u8 n19))(h3:binA E0 .lss 5 (u8 n19) (u8 48)=some FF)(h4:indexA E0 9 (str w0) (i64 n4)=some (u8 n24))(h5:binA E0 .gtr 5 (u8 n24) (u8 57)=some TT){T:Tm}(hT:f72L3 T (str w0) (i64 n3) (i64 n4)):AW Tryz.prog (f72P 4) (fun ex T' st'=>ex= .ret∧f72L1 T' (i64 0)∧st'=st) T st:=by
 obtain ⟨hn,g0,g3,g4⟩:=hT
 exact genR (f72_4_TFT_e w0 n3 n4 n19 n24 st) (kk h1 (kk h2 (kk h3 (kk h4 (kk h5 Ob.ok_nil))))) hn (conz g0 (conz g3 (one g4))) fun T' q2 q3=>by simp only [gA4,List.cons.injEq,and_true] at q3;exact ⟨rfl,⟨q2,q3⟩,rfl⟩
theorem f72_4_TFF_e(w0:ByteArray)(n3 n4 n19 n24 n28 n31 n32 n33 n34 n16:Int)(st:St):evR gA29 sL22 (f72P 4) ⟨36,[(0,(str w0)),(3,(i64 n3)),(4,(i64 n4))],[]⟩ st [.av TT,.av (u8 n19),.av FF,.av (u8 n24),.av FF,.av (i64 n28),.av (u8 n31),.av (u8 n32),.eff (i64 n33) id,.av (i64 n34),.av (i64 n16)]=some (.normal,36,[(str w0),(i64 n34),(i64 n16)],st,[Bt 3 .lss n4 12 TT,indexA E0 9 (str w0) (i64 n4)=some (u8 n19),binA E0 .lss 5 (u8 n19) (u8 48)=some FF,indexA E0 9 (str w0) (i64 n4)=some (u8 n24),binA E0 .gtr 5 (u8 n24) (u8 57)=some FF,Bt 3 .mul 10 n3 (i64 n28),indexA E0 9 (str w0) (i64 n4)=some (u8 n31),binA E0 .sub 5 (u8 n31) (u8 48)=some (u8 n32),convO E0 st 5 3 (u8 n32)=some ((i64 n33),st),Bt 3 .add n28 n33 (i64 n34),Bt 3 .add n4 1 (i64 n16)]):=by kernel_rfl
theorem f72_4_TFF{w0:ByteArray}{n3 n4 n19 n24 n28 n31 n32 n33 n34 n16:Int}{st:St}(h1:Bt 3 .lss n4 12 TT)(h2:indexA E0 9 (str w0) (i64 n4)=some (u8 n19))(h3:binA E0 .lss 5 (u8 n19) (u8 48)=some FF)(h4:indexA E0 9 (str w0) (i64 n4)=some (u8 n24))(h5:binA E0 .gtr 5 (u8 n24) (u8 57)=some FF)(h6:Bt 3 .mul 10 n3 (i64 n28))(h7:indexA E0 9 (str w0) (i64 n4)=some (u8 n31))(h8:binA E0 .sub 5 (u8 n31) (u8 48)=some (u8 n32))(h9:convO E0 st 5 3 (u8 n32)=some ((i64 n33),st))(h10:Bt 3 .add n28 n33 (i64 n34))(h11:Bt 3 .add n4 1 (i64 n16)){T:Tm}(hT:f72L3 T (str w0) (i64 n3) (i64 n4)):AW Tryz.prog (f72P 4) (fun ex T' st'=>ex= .normal∧f72L3 T' (str w0) (i64 n34) (i64 n16)∧st'=st) T st:=by
 obtain ⟨hn,g0,g3,g4⟩:=hT
 exact genR (f72_4_TFF_e w0 n3 n4 n19 n24 n28 n31 n32 n33 n34 n16 st) (kk h1 (kk h2 (kk h3 (kk h4 (kk h5 (kk h6 (kk h7 (kk h8 (kk h9 (kk h10 (kk h11 Ob.ok_nil))))))))))) hn (conz g0 (conz g3 (one g4))) fun T' q2 q3=>by simp only [gA29,List.cons.injEq,and_true] at q3;exact ⟨rfl,⟨q2,q3⟩,rfl⟩
def f72L4(T:Tm)(a3:AV):Prop:=T.n=36∧T.get 3=a3
theorem f72_4_F_e(w0:ByteArray)(n3 n4:Int)(st:St):evR gA3 sL22 (f72P 4) ⟨36,[(0,(str w0)),(3,(i64 n3)),(4,(i64 n4))],[]⟩ st [.av FF]=some ((.exit 0),36,[(i64 n3)],st,[Bt 3 .lss n4 12 FF]):=by kernel_rfl
theorem f72_4_F{w0:ByteArray}{n3 n4:Int}{st:St}(h1:Bt 3 .lss n4 12 FF){T:Tm}(hT:f72L3 T (str w0) (i64 n3) (i64 n4)):AW Tryz.prog (f72P 4) (fun ex T' st'=>ex=(.exit 0)∧f72L4 T' (i64 n3)∧st'=st) T st:=by
 obtain ⟨hn,g0,g3,g4⟩:=hT
 exact genR (f72_4_F_e w0 n3 n4 st) (kk h1 Ob.ok_nil) hn (conz g0 (conz g3 (one g4))) fun T' q2 q3=>by simp only [gA3,List.cons.injEq,and_true] at q3;exact ⟨rfl,⟨q2,q3⟩,rfl⟩
theorem f72_5_e(n3:Int)(st:St):evR gA4 [] (f72P 5) ⟨36,[(3,(i64 n3))],[]⟩ st []=some (.ret,36,[(i64 n3)],st,[]):=by kernel_rfl
theorem f72_5{n3:Int}{st:St}{T:Tm}(hT:f72L4 T (i64 n3)):AW Tryz.prog (f72P 5) (fun ex T' st'=>ex= .ret∧f72L1 T' (i64 n3)∧st'=st) T st:=by
 obtain ⟨hn,g3⟩:=hT
 exact genR (f72_5_e n3 st) Ob.ok_nil hn (one g3) fun T' q2 q3=>by simp only [gA4,List.cons.injEq,and_true] at q3;exact ⟨rfl,⟨q2,q3⟩,rfl⟩
abbrev sL23:List Nat:= [7006,7008,7009,7013,7014,7016]
theorem f96_TT_e(st:St)(s p w14:ByteArray)(n6 n8 n13:Int):evC sL23 96 [(str s),(str p)] st [.av (i64 n6),.av (i64 n8),.av TT,.av (i64 n13),.av (str w14),.av TT]=some (TT,st,[],[lenA E0 9 (str s)=some (i64 n6),lenA E0 9 (str p)=some (i64 n8),Bt 3 .geq n6 n8 TT,lenA E0 9 (str p)=some (i64 n13),sliceA E0 st 9 (str s) none (some (i64 n13)) none=some (str w14),binA E0 .eql 9 (str w14) (str p)=some TT]):=by kernel_rfl
theorem f96_TT{st:St}{s p w14:ByteArray}{n6 n8 n13:Int}(h1:lenA E0 9 (str s)=some (i64 n6))(h2:lenA E0 9 (str p)=some (i64 n8))(h3:Bt 3 .geq n6 n8 TT)(h4:lenA E0 9 (str p)=some (i64 n13))(h5:sliceA E0 st 9 (str s) none (some (i64 n13)) none=some (str w14))(h6:binA E0 .eql 9 (str w14) (str p)=some TT):obC 96 [(str s),(str p)] st TT st:=ACalls.run hE noOv_ok (f96_TT_e st s p w14 n6 n8 n13) (kk h1 (kk h2 (kk h3 (kk h4 (kk h5 (kk h6 Ob.ok_nil))))))
theorem f96_TF_e(st:St)(s p w14:ByteArray)(n6 n8 n13:Int):evC sL23 96 [(str s),(str p)] st [.av (i64 n6),.av (i64 n8),.av TT,.av (i64 n13),.av (str w14),.av FF]=some (FF,st,[],[lenA E0 9 (str s)=some (i64 n6),lenA E0 9 (str p)=some (i64 n8),Bt 3 .geq n6 n8 TT,lenA E0 9 (str p)=some (i64 n13),sliceA E0 st 9 (str s) none (some (i64 n13)) none=some (str w14),binA E0 .eql 9 (str w14) (str p)=some FF]):=by kernel_rfl
theorem f96_TF{st:St}{s p w14:ByteArray}{n6 n8 n13:Int}(h1:lenA E0 9 (str s)=some (i64 n6))(h2:lenA E0 9 (str p)=some (i64 n8))(h3:Bt 3 .geq n6 n8 TT)(h4:lenA E0 9 (str p)=some (i64 n13))(h5:sliceA E0 st 9 (str s) none (some (i64 n13)) none=some (str w14))(h6:binA E0 .eql 9 (str w14) (str p)=some FF):obC 96 [(str s),(str p)] st FF st:=ACalls.run hE noOv_ok (f96_TF_e st s p w14 n6 n8 n13) (kk h1 (kk h2 (kk h3 (kk h4 (kk h5 (kk h6 Ob.ok_nil))))))
theorem f96_F_e(st:St)(s p:ByteArray)(n6 n8:Int):evC sL23 96 [(str s),(str p)] st [.av (i64 n6),.av (i64 n8),.av FF]=some (FF,st,[],[lenA E0 9 (str s)=some (i64 n6),lenA E0 9 (str p)=some (i64 n8),Bt 3 .geq n6 n8 FF]):=by kernel_rfl
theorem f96_F{st:St}{s p:ByteArray}{n6 n8:Int}(h1:lenA E0 9 (str s)=some (i64 n6))(h2:lenA E0 9 (str p)=some (i64 n8))(h3:Bt 3 .geq n6 n8 FF):obC 96 [(str s),(str p)] st FF st:=ACalls.run hE noOv_ok (f96_F_e st s p n6 n8) (kk h1 (kk h2 (kk h3 Ob.ok_nil)))
abbrev sL24:List Nat:= [6096,7013,7014]
theorem f103_T_e(st s1:St)(s p w14:ByteArray)(n13:Int):evC sL24 103 [(str s),(str p)] st [.eff TT (fun _=>s1),.av (i64 n13),.av (str w14)]=some ((.tup [(str w14),TT]),s1,[],[obC 96 [(str s),(str p)] st TT s1,lenA E0 9 (str p)=some (i64 n13),sliceA E0 s1 9 (str s) (some (i64 n13)) none none=some (str w14)]):=by kernel_rfl
theorem f103_T{st s1:St}{s p w14:ByteArray}{n13:Int}(h1:obC 96 [(str s),(str p)] st TT s1)(h2:lenA E0 9 (str p)=some (i64 n13))(h3:sliceA E0 s1 9 (str s) (some (i64 n13)) none none=some (str w14)):obC 103 [(str s),(str p)] st (.tup [(str w14),TT]) s1:=ACalls.run hE noOv_ok (f103_T_e st s1 s p w14 n13) (kk h1 (kk h2 (kk h3 Ob.ok_nil)))
theorem f103_F_e(st s1:St)(s p:ByteArray):evC sL24 103 [(str s),(str p)] st [.eff FF (fun _=>s1)]=some ((.tup [(str s),FF]),s1,[],[obC 96 [(str s),(str p)] st FF s1]):=by kernel_rfl
theorem f103_F{st s1:St}{s p:ByteArray}(h1:obC 96 [(str s),(str p)] st FF s1):obC 103 [(str s),(str p)] st (.tup [(str s),FF]) s1:=ACalls.run hE noOv_ok (f103_F_e st s1 s p) (kk h1 Ob.ok_nil)
theorem f92_e(st s1:St)(s p w8a:ByteArray)(b8b:Bool):evC [6103] 92 [(str s),(str p)] st [.eff (.tup [(str w8a),(bo b8b)]) (fun _=>s1)]=some ((.tup [(str w8a),(bo b8b)]),s1,[],[obC 103 [(str s),(str p)] st (.tup [(str w8a),(bo b8b)]) s1]):=by kernel_rfl
theorem f92{st s1:St}{s p w8a:ByteArray}{b8b:Bool}(h1:obC 103 [(str s),(str p)] st (.tup [(str w8a),(bo b8b)]) s1):obC 92 [(str s),(str p)] st (.tup [(str w8a),(bo b8b)]) s1:=ACalls.run hE noOv_ok (f92_e st s1 s p w8a b8b) (kk h1 Ob.ok_nil)
end
section
set_option maxRecDepth 8000
def dgo:Nat→List UInt8→Option Nat
 |n,[]=>some n
 |n,c::r=>if 48≤c.toNat∧c.toNat≤57 then dgo (10*n+(c.toNat- 48)) r else none
def pre4:ByteArray:=⟨#[119,97,108,45]⟩
def numS(w:ByteArray):Nat:=if w.size=12∧w.extract 0 4=pre4 then (dgo 0 (w.extract 4 w.size).data.toList).getD 0 else 0
theorem slice_lo4(st:St){w:ByteArray}(h:4≤w.size):sliceA E0 st 9 (str w) (some (i64 4)) none none=some (str (w.extract 4 w.size)):=by
 obtain ⟨i,h1,h2⟩:∃i,E0.ty 9=some i∧i.desc= .string:=⟨_,rfl,by kernel_rfl⟩
 have e1:natLe (i64 4) w.size=some 4:=by
  show (if 0≤(4:Int)∧(4:Int)≤w.size then some (4:Int).toNat else none)=some 4
  rw [if_pos ⟨by omega,by omega⟩];rfl
 have hb:boundsA w.size w.size (some (i64 4)) none none=some (4,w.size,w.size):=by
  delta boundsA
  simp only [e1]
 simp only [sliceA,h1,h2,hb,Option.isSome_none]
 rfl
theorem slice_hi4(st:St){w:ByteArray}(h:4≤w.size):sliceA E0 st 9 (str w) none (some (i64 4)) none=some (str (w.extract 0 4)):=by
 obtain ⟨i,h1,h2⟩:∃i,E0.ty 9=some i∧i.desc= .string:=⟨_,rfl,by kernel_rfl⟩
 have e1:natLe (i64 4) w.size=some 4:=by
  show (if 0≤(4:Int)∧(4:Int)≤w.size then some (4:Int).toNat else none)=some 4
  rw [if_pos ⟨by omega,by omega⟩];rfl
 have hb:boundsA w.size w.size none (some (i64 4)) none=some (0,4,w.size):=by
  delta boundsA
  simp only [e1]
 simp only [sliceA,h1,h2,hb,Option.isSome_none]
 rfl
theorem cutp_ok(st:St)(w:ByteArray):obC 92 [str w,str pre4] st (if 4≤w.size∧w.extract 0 4=pre4 then .tup [str (w.extract 4 w.size),TT] else .tup [str w,FF]) st:=by
 have lp:lenA E0 9 (str pre4)=some (i64 4):=by kernel_rfl
 by_cases h:4≤w.size
 ·by_cases he:w.extract 0 4=pre4
  ·rw [if_pos ⟨h,he⟩]
   exact f92 (b8b:=true) (f103_T (f96_TT (lenStr w) lp (geqT (by omega)) lp (slice_hi4 st h) (eqST he)) lp (slice_lo4 st h))
  ·rw [if_neg (fun q=>he q.2)]
   exact f92 (b8b:=false) (f103_F (f96_TF (lenStr w) lp (geqT (by omega)) lp (slice_hi4 st h) (eqSF he)))
 ·rw [if_neg (fun q=>h q.1)]
  exact f92 (b8b:=false) (f103_F (f96_F (lenStr w) lp (geqF (by omega))))
theorem dgo_lt:∀(l:List UInt8) (n m:Nat),dgo n l=some m→m<(n+1)*10^l.length
 | [],n,m,h=>by simp only [dgo,Option.some.injEq] at h;subst h;simp
 |c::r,n,m,h=>by
  simp only [dgo] at h
  split at h
  ·rename_i hc
   have:=dgo_lt r _ _ h
   rw [List.length_cons,Nat.pow_succ]
   have e:10*n+(c.toNat- 48)+1≤(n+1)*10:=by omega
   calc m<(10*n+(c.toNat- 48)+1)*10^r.length:=this
    _≤(n+1)*10*10^r.length:=Nat.mul_le_mul_right _ e
    _=(n+1)*(10^r.length*10):=by rw [Nat.mul_assoc,Nat.mul_comm 10]
  ·cases h
theorem lss21{a b:Int}:binA E0 .lss 21 (i32 a) (i32 b)=some (bo (decide (a<b))):=rfl
theorem gtr21{a b:Int}:binA E0 .gtr 21 (i32 a) (i32 b)=some (bo (decide (a>b))):=rfl
theorem nextStr_hit{st:St}{r i:Nat}{t:ByteArray}(hg:st.get r=some (.siter t i))(hl:st.lock= [])(hi:i<t.size):nextStrA st (.ptr r 0)=some (.tup [TT,i64 i,i32 ((Utf8.decode t i).1:Nat)],st.set r (.siter t (i+(Utf8.decode t i).2))):=by
 have hwg:=St.wget_of hg (show r∉st.lock by rw [hl];simp)
 simp only [nextStrA,hwg]
 rw [if_pos hi]
theorem nextStr_end{st:St}{r i:Nat}{t:ByteArray}(hg:st.get r=some (.siter t i))(hl:st.lock= [])(hi:t.size≤i):nextStrA st (.ptr r 0)=some (.tup [FF],st):=by
 have hwg:=St.wget_of hg (show r∉st.lock by rw [hl];simp)
 simp only [nextStrA,hwg]
 rw [if_neg (by omega)]
def NI(t:ByteArray)(r:Nat)(st0:St)(a:Nat×Nat)(σ:St):Prop:=σ.get r=some (.siter t a.1)∧Rest st0 σ []∧a.1≤t.size∧dgo a.2 (t.data.toList.drop a.1)=dgo 0 t.data.toList∧a.2<10^a.1
def NE(t:ByteArray)(r:Nat)(st0:St)(a:Nat×Nat)(σ:St):Prop:=∃τ,Rest st0 τ []∧
  ((dgo 0 t.data.toList=some a.2∧∀T,f71L5 T (i64 a.2) (.ptr r 0)→AW Tryz.prog (f71P 5) (fun ex T' z=>ex= .exit 0∧f71L6 T' (i64 a.2)∧z=τ) T σ)∨
   (dgo 0 t.data.toList=none∧∀T,f71L5 T (i64 a.2) (.ptr r 0)→AW Tryz.prog (f71P 5) (fun ex T' z=>ex= .ret∧f71L2 T' (i64 0)∧z=τ) T σ))
theorem num_step{t:ByteArray}{r:Nat}{st0:St}(hw0:st0.wf)(hl0:st0.lock= [])(hr0:st0.next≤r)(h8:t.size=8)(a:Nat×Nat)(σ:St)(h:NI t r st0 a σ):
  NE t r st0 a σ∨∃a' σ',NI t r st0 a' σ'∧t.size- a'.1<t.size- a.1∧∀T,f71L5 T (i64 a.2) (.ptr r 0)→AW Tryz.prog (f71P 5) (fun ex T' z=>ex= .normal∧f71L5 T' (i64 a'.2) (.ptr r 0)∧z=σ') T σ:=by
 obtain ⟨i,n⟩:=a
 obtain ⟨hg,hR,hi,hd,hn⟩:=h
 simp only at hg hi hd hn
 have hlσ:=hR.lock.trans hl0
 have hsz:t.data.toList.length=t.size:=by rw [Array.length_toList];rfl
 by_cases he:t.size≤i
 ·refine .inl ⟨σ,hR,.inl ⟨?_,fun T hT=>f71_5_F (nextStr_end hg hlσ he) hT⟩⟩
  rw [←hd,List.drop_eq_nil_of_le (by omega)];rfl
 ·have hi':i<t.size:=by omega
  have hnx:=nextStr_hit hg hlσ hi'
  have hS:∀o,Rest st0 (σ.set r o) []:=fun o=>hR.fresh (Rest.set (S:= [r]) hR.wf (hR.wf _ _ hg) o (by simp)) (by simpa using hr0) hw0
  have hcons:t.data.toList.drop i=t[i]::t.data.toList.drop (i+1):=by
   rw [List.drop_eq_getElem_cons (by omega)];rfl
  rw [hcons] at hd
  simp only [dgo] at hd
  by_cases hc:48≤(t[i]).toNat∧(t[i]).toNat≤57
  ·rw [if_pos hc] at hd
   have hdec:=decode_ascii t i hi' (by omega)
   rw [hdec] at hnx
   have hpow:10^i≤10^8:=Nat.pow_le_pow_right (by decide) (by omega)
   refine .inr ⟨(i+1,10*n+((t[i]).toNat- 48)),_,⟨by rw [St.get_set,if_pos rfl],hS _,by omega,hd,by simp only;rw [Nat.pow_succ];omega⟩,by simp only;omega,fun T hT=> ?_⟩
   have hsub:binA E0 .sub 21 (i32 ((t[i]).toNat:Nat)) (i32 48)=some (i32 (((t[i]).toNat- 48:Nat):Int)):=by
    have:binA E0 .sub 21 (i32 ((t[i]).toNat:Nat)) (i32 48)=some (i32 (IntKind.i32.wrap (((t[i]).toNat:Int)- 48))):=rfl
    rw [this,IntWalk.i32_in _ (by omega)]
    congr 3;omega
   have hcv:∀s,convO E0 s 21 3 (i32 (((t[i]).toNat- 48:Nat):Int))=some (i64 (((t[i]).toNat- 48:Nat):Int),s):=fun s=>by
    have:convO E0 s 21 3 (i32 (((t[i]).toNat- 48:Nat):Int))=some (i64 (IntKind.i64.wrap (((t[i]).toNat- 48:Nat):Int)),s):=by kernel_rfl
    rw [this,IntWalk.i64_in _ (by omega)]
   exact f71_5_TFF hnx (by rw [lss21,decide_eq_false (by omega)];rfl) (by rw [gtr21,decide_eq_false (by omega)];rfl) (mulN 10 n (by omega)) hsub (hcv _) (addN' (10*n) _ (by omega)) hT
  ·rw [if_neg hc] at hd
   refine .inl ⟨σ.set r (.siter t (i+(Utf8.decode t i).2)),hS _,.inr ⟨hd.symm,fun T hT=> ?_⟩⟩
   by_cases h128:(t[i]).toNat<128
   ·have hdec:=decode_ascii t i hi' h128
    rw [hdec] at hnx⊢
    by_cases h48:(t[i]).toNat<48
    ·exact f71_5_TT hnx (by rw [lss21,decide_eq_true (by omega)];rfl) hT
    ·exact f71_5_TFT hnx (by rw [lss21,decide_eq_false (by omega)];rfl) (by rw [gtr21,decide_eq_true (by omega)];rfl) hT
   ·have hdec:=(decode_high t i hi' (by omega)).1
    exact f71_5_TFT hnx (by rw [lss21,decide_eq_false (by omega)];rfl) (by rw [gtr21,decide_eq_true (by omega)];rfl) hT
theorem range_str(st:St)(w:ByteArray):rangeA E0 st 9 (str w)=none∧rangeStrA E0 st 9 (str w)=some (.ptr st.next 0,st.push (.siter w 0)):=⟨by kernel_rfl,by kernel_rfl⟩
theorem numberP_ok{st:St}(hw:st.wf)(hl:st.lock= [])(w:ByteArray):∃st',obC 71 [str w] st (i64 (numS w:Nat)) st'∧Rest st st' []:=by
 have hc:=cutp_ok st w
 have fin:∀{T:Tm} {n:Nat} {s:St},n=numS w→f71L2 T (i64 n)→∃l,resA E0 T s Tryz.f71.results.toList=some l∧(oneOrTup l=i64 (numS w:Nat)∧s=s):=fun {T n s} e q=>by
  refine ⟨[T.get 2],rfl,?_⟩
  simp only [oneOrTup]
  rw [q.2,e]
  exact ⟨rfl,trivial⟩
 by_cases h:4≤w.size∧w.extract 0 4=pre4
 ·rw [if_pos h] at hc
  have hts:(w.extract 4 w.size).size=w.size- 4:=by rw [ByteArray.size_extract];omega
  by_cases h8:w.size=12
  ·have h8':(w.extract 4 w.size).size=8:=by omega
   have hS:numS w=(dgo 0 (w.extract 4 w.size).data.toList).getD 0:=by unfold numS;rw [if_pos ⟨h8,h.2⟩]
   generalize w.extract 4 w.size=t at hc h8' hts hS
   have R0:Rest st (st.push (.siter t 0)) []:=Rest.push hw _ _
   obtain ⟨n,c,σ,c0,s0,ht,τ,hτ,hE'⟩:=chain_wf (NI t st.next st) (fun a=>t.size- a.1) (fun a s a' s'=>∀T,f71L5 T (i64 a.2) (.ptr st.next 0)→AW Tryz.prog (f71P 5) (fun ex T' z=>ex= .normal∧f71L5 T' (i64 a'.2) (.ptr st.next 0)∧z=s') T s) (NE t st.next st) (num_step hw hl (Nat.le_refl _) h8') t.size (0,0) (st.push (.siter t 0)) (by simp) ⟨by rw [St.get_push,if_pos rfl],R0,by simp,rfl,by simp⟩
   refine ⟨τ,?_,hτ⟩
   refine ACalls.body (E:=E0) hE Tryz.func71 f71body ?_
   refine AW.andThen (f71_0 (w0:=w) ⟨rfl,rfl⟩) fun T1 q1=> ?_
   refine AW.andThen (f71_1 (b10b:=true) hc q1) fun T2 q2=> ?_
   refine AW.andThen (f71_2_TF (lenStr t) (neqF (by rw [h8'];rfl)) q2) fun T3 q3=> ?_
   refine AW.andThen (f71_3 q3) fun T4 q4=> ?_
   have hin:∀T5,f71L5 T5 (i64 0) (.ptr st.next 0)→f71L5 T5 (i64 (c 0).2) (.ptr st.next 0):=fun T5 q=>by rw [c0];exact q
   rcases hE' with ⟨hd,hE'⟩|⟨hd,hE'⟩
   ·refine AW.andThen (AW.andThen (f71_4 (range_str st t) q4) fun T5 q5=>AW.turns (In:=fun i T=>f71L5 T (i64 (c i).2) (.ptr st.next 0)) (L:=fun T=>f71L6 T (i64 (c n).2)) (c:=σ) (n:=n) (sf:=τ) s0.symm (hin T5 q5) (fun i hi T hT=>ht i hi T hT) hE') fun T6 q6=> ?_
    refine AW.atRet (f71_6 q6) fun T7 q7=> ?_
    obtain ⟨l,h1,h2,_⟩:=fin (s:=τ) (by rw [hS,hd];rfl) q7
    exact ⟨l,h1,h2,rfl⟩
   ·refine AW.retThen (L:=fun T=>f71L2 T (i64 0)) (s:=τ) (AW.andThen (f71_4 (range_str st t) q4) fun T5 q5=>AW.turnsRet (In:=fun i T=>f71L5 T (i64 (c i).2) (.ptr st.next 0)) (L:=fun T=>f71L2 T (i64 0)) (c:=σ) (n:=n) (sf:=τ) s0.symm (hin T5 q5) (fun i hi T hT=>ht i hi T hT) hE') fun T7 q7=> ?_
    obtain ⟨l,h1,h2,_⟩:=fin (n:=0) (s:=τ) (by rw [hS,hd];rfl) q7
    exact ⟨l,h1,h2,rfl⟩
  ·have hS:0=numS w:=by unfold numS;rw [if_neg (fun q=>h8 q.1)]
   refine ⟨st,?_,Rest.refl hw _⟩
   refine ACalls.body (E:=E0) hE Tryz.func71 f71body ?_
   refine AW.andThen (f71_0 (w0:=w) ⟨rfl,rfl⟩) fun T1 q1=> ?_
   refine AW.andThen (f71_1 (b10b:=true) hc q1) fun T2 q2=> ?_
   refine AW.retThen (f71_2_TT (lenStr _) (neqT (by rw [hts];omega)) q2) fun T7 q7=> ?_
   obtain ⟨l,h1,h2,_⟩:=fin (n:=0) (s:=st) hS q7
   exact ⟨l,h1,h2,rfl⟩
 ·rw [if_neg h] at hc
  have hS:0=numS w:=by unfold numS;rw [if_neg (fun q=>h ⟨by omega,q.2⟩)]
  refine ⟨st,?_,Rest.refl hw _⟩
  refine ACalls.body (E:=E0) hE Tryz.func71 f71body ?_
  refine AW.andThen (f71_0 (w0:=w) ⟨rfl,rfl⟩) fun T1 q1=> ?_
  refine AW.andThen (f71_1 (b10b:=false) hc q1) fun T2 q2=> ?_
  refine AW.retThen (f71_2_F q2) fun T7 q7=> ?_
  obtain ⟨l,h1,h2,_⟩:=fin (n:=0) (s:=st) hS q7
  exact ⟨l,h1,h2,rfl⟩
end
section
set_option maxRecDepth 8000
theorem idx_str{w:ByteArray}{i:Nat}(h:i<w.size):indexA E0 9 (str w) (i64 (i:Nat))=some (u8 ((w[i]'h).toNat:Nat)):=by
 obtain ⟨t,h1,h2⟩:∃i,E0.ty 9=some i∧i.desc= .string:=⟨_,rfl,by kernel_rfl⟩
 simp only [indexA,h1,h2]
 rw [if_pos (by omega)]
 have:w[((i:Nat):Int).toNat]? =some (w[i]'h):=by
  rw [Int.toNat_natCast]
  exact getElem?_pos w i h
 rw [this]
 rfl
theorem lss5{a b:Int}:binA E0 .lss 5 (u8 a) (u8 b)=some (bo (decide (a<b))):=rfl
theorem gtr5{a b:Int}:binA E0 .gtr 5 (u8 a) (u8 b)=some (bo (decide (a>b))):=rfl
theorem tail_get{w:ByteArray}(h12:w.size=12){i:Nat}(hi:i<8):(w.extract 4 w.size).data.toList.drop i=(w[4+i]'(by omega))::(w.extract 4 w.size).data.toList.drop (i+1):=by
 have hl:(w.extract 4 w.size).data.toList.length=8:=by rw [Array.length_toList];show (w.extract 4 w.size).size=8;rw [ByteArray.size_extract];omega
 rw [List.drop_eq_getElem_cons (by omega)]
 congr 1
 rw [Array.getElem_toList]
 show (w.extract 4 w.size)[i]'(by rw [ByteArray.size_extract];omega)=_
 rw [ByteArray.getElem_extract]
def N2I(w:ByteArray)(st0:St)(a:Nat×Nat)(σ:St):Prop:=σ=st0∧a.1≤8∧dgo a.2 ((w.extract 4 w.size).data.toList.drop a.1)=dgo 0 (w.extract 4 w.size).data.toList∧a.2<10^a.1
def N2E(w:ByteArray)(st0:St)(a:Nat×Nat)(σ:St):Prop:=
  (dgo 0 (w.extract 4 w.size).data.toList=some a.2∧∀T,f72L3 T (str w) (i64 a.2) (i64 ((4+a.1:Nat):Int))→AW Tryz.prog (f72P 4) (fun ex T' z=>ex= .exit 0∧f72L4 T' (i64 a.2)∧z=st0) T σ)∨
   (dgo 0 (w.extract 4 w.size).data.toList=none∧∀T,f72L3 T (str w) (i64 a.2) (i64 ((4+a.1:Nat):Int))→AW Tryz.prog (f72P 4) (fun ex T' z=>ex= .ret∧f72L1 T' (i64 0)∧z=st0) T σ)
theorem num72_step{w:ByteArray}{st0:St}(h12:w.size=12)(a:Nat×Nat)(σ:St)(h:N2I w st0 a σ):
  N2E w st0 a σ∨∃a' σ',N2I w st0 a' σ'∧8- a'.1<8- a.1∧∀T,f72L3 T (str w) (i64 a.2) (i64 ((4+a.1:Nat):Int))→AW Tryz.prog (f72P 4) (fun ex T' z=>ex= .normal∧f72L3 T' (str w) (i64 a'.2) (i64 ((4+a'.1:Nat):Int))∧z=σ') T σ:=by
 obtain ⟨i,n⟩:=a
 obtain ⟨rfl,hi,hd,hn⟩:=h
 simp only at hi hd hn
 have hl:(w.extract 4 w.size).data.toList.length=8:=by rw [Array.length_toList];show (w.extract 4 w.size).size=8;rw [ByteArray.size_extract];omega
 by_cases he:8≤i
 ·refine .inl (.inl ⟨?_,fun T hT=>f72_4_F (lssF (by simp only;omega)) hT⟩)
  rw [←hd,List.drop_eq_nil_of_le (by omega)];rfl
 ·have hi':i<8:=by omega
  have hx:=idx_str (w:=w) (i:=4+i) (by omega)
  rw [tail_get h12 hi'] at hd
  simp only [dgo] at hd
  generalize w[4+i]=b at hx hd
  have hb:=b.toNat_lt
  by_cases hc:48≤b.toNat∧b.toNat≤57
  ·rw [if_pos hc] at hd
   have hpow:10^i≤10^8:=Nat.pow_le_pow_right (by decide) (by omega)
   refine .inr ⟨(i+1,10*n+(b.toNat- 48)),_,⟨rfl,by omega,hd,by simp only;rw [Nat.pow_succ];omega⟩,by simp only;omega,fun T hT=> ?_⟩
   have hsub:binA E0 .sub 5 (u8 (b.toNat:Nat)) (u8 48)=some (u8 ((b.toNat- 48:Nat):Int)):=by
    have:binA E0 .sub 5 (u8 (b.toNat:Nat)) (u8 48)=some (u8 (IntKind.u8.wrap ((b.toNat:Int)- 48))):=rfl
    rw [this,IntWalk.u8_in _ (by omega)]
    congr 3;omega
   exact f72_4_TFF (lssT (by omega)) hx (by rw [lss5,decide_eq_false (by omega)];rfl) hx (by rw [gtr5,decide_eq_false (by omega)];rfl) (mulN 10 n (by omega)) hx hsub (conv5_3 _ _ (by omega)) (addN' (10*n) _ (by omega)) (addN' (4+i) 1 (by omega)) hT
  ·rw [if_neg hc] at hd
   refine .inl (.inr ⟨hd.symm,fun T hT=> ?_⟩)
   by_cases h48:b.toNat<48
   ·exact f72_4_TT (lssT (by omega)) hx (by rw [lss5,decide_eq_true (by omega)];rfl) hT
   ·exact f72_4_TFT (lssT (by omega)) hx (by rw [lss5,decide_eq_false (by omega)];rfl) hx (by rw [gtr5,decide_eq_true (by omega)];rfl) hT
theorem numberR_ok(st:St)(w:ByteArray):obC 72 [str w] st (i64 (numS w:Nat)) st:=by
 have fin:∀{T:Tm} {n:Nat},n=numS w→f72L1 T (i64 n)→∃l,resA E0 T st Tryz.f72.results.toList=some l∧(oneOrTup l=i64 (numS w:Nat)∧st=st):=fun {T n} e q=>by
  refine ⟨[T.get 2],rfl,?_⟩
  simp only [oneOrTup]
  rw [q.2,e]
  exact ⟨rfl,trivial⟩
 refine ACalls.body (E:=E0) hE Tryz.func72 f72body ?_
 refine AW.andThen (f72_0 (w0:=w) ⟨rfl,rfl⟩) fun T1 q1=> ?_
 by_cases h12:w.size=12
 ·by_cases he:w.extract 0 4=pre4
  ·have hS:numS w=(dgo 0 (w.extract 4 w.size).data.toList).getD 0:=by unfold numS;rw [if_pos ⟨h12,he⟩]
   obtain ⟨n,c,σ,c0,s0,ht,hE'⟩:=chain_wf (N2I w st) (fun a=>8- a.1) (fun a s a' s'=>∀T,f72L3 T (str w) (i64 a.2) (i64 ((4+a.1:Nat):Int))→AW Tryz.prog (f72P 4) (fun ex T' z=>ex= .normal∧f72L3 T' (str w) (i64 a'.2) (i64 ((4+a'.1:Nat):Int))∧z=s') T s) (N2E w st) (num72_step h12) 8 (0,0) st (by simp) ⟨rfl,by simp,rfl,by simp⟩
   refine AW.andThen (f72_1_FF (lenStr w) (neqF (by rw [h12];rfl)) (slice_hi4 st (by omega)) (neSF he) q1) fun T2 q2=> ?_
   refine AW.andThen (f72_2 q2) fun T3 q3=> ?_
   have hin:∀T5,f72L3 T5 (str w) (i64 0) (i64 4)→f72L3 T5 (str w) (i64 (c 0).2) (i64 ((4+(c 0).1:Nat):Int)):=fun T5 q=>by rw [c0];exact q
   rcases hE' with ⟨hd,hE'⟩|⟨hd,hE'⟩
   ·refine AW.andThen (AW.andThen (f72_3 q3) fun T5 q5=>AW.turns (In:=fun i T=>f72L3 T (str w) (i64 (c i).2) (i64 ((4+(c i).1:Nat):Int))) (L:=fun T=>f72L4 T (i64 (c n).2)) (c:=σ) (n:=n) (sf:=st) s0.symm (hin T5 q5) (fun i hi T hT=>ht i hi T hT) hE') fun T6 q6=> ?_
    refine AW.atRet (f72_5 q6) fun T7 q7=> ?_
    obtain ⟨l,h1,h2,_⟩:=fin (by rw [hS,hd];rfl) q7
    exact ⟨l,h1,h2,rfl⟩
   ·refine AW.retThen (L:=fun T=>f72L1 T (i64 0)) (s:=st) (AW.andThen (f72_3 q3) fun T5 q5=>AW.turnsRet (In:=fun i T=>f72L3 T (str w) (i64 (c i).2) (i64 ((4+(c i).1:Nat):Int))) (L:=fun T=>f72L1 T (i64 0)) (c:=σ) (n:=n) (sf:=st) s0.symm (hin T5 q5) (fun i hi T hT=>ht i hi T hT) hE') fun T7 q7=> ?_
    obtain ⟨l,h1,h2,_⟩:=fin (n:=0) (by rw [hS,hd];rfl) q7
    exact ⟨l,h1,h2,rfl⟩
  ·have hS:0=numS w:=by unfold numS;rw [if_neg (fun q=>he q.2)]
   refine AW.retThen (f72_1_FT (lenStr w) (neqF (by rw [h12];rfl)) (slice_hi4 st (by omega)) (neST he) q1) fun T7 q7=> ?_
   obtain ⟨l,h1,h2,_⟩:=fin (n:=0) hS q7
   exact ⟨l,h1,h2,rfl⟩
 ·have hS:0=numS w:=by unfold numS;rw [if_neg (fun q=>h12 q.1)]
  refine AW.retThen (f72_1_T (lenStr w) (neqT (by omega)) q1) fun T7 q7=> ?_
  obtain ⟨l,h1,h2,_⟩:=fin (n:=0) hS q7
  exact ⟨l,h1,h2,rfl⟩
end
section
set_option maxRecDepth 8000
def dgs(m k:Nat):List UInt8:=(List.range k).map fun t=>Lib.dg m (k- 1- t)
theorem dgs_succ(m k:Nat):dgs m (k+1)=Lib.dg m k::dgs m k:=by
 unfold dgs
 rw [List.range_succ_eq_map,List.map_cons,List.map_map]
 congr 1
 apply List.map_congr_left
 intro t _
 show Lib.dg m (k+1- 1- (t+1))=Lib.dg m (k- 1- t)
 congr 1
 omega
theorem dg_nat(m k:Nat):(Lib.dg m k).toNat=48+m/10^k%10:=by
 unfold Lib.dg
 show (48+m/10^k%10)%256=_
 omega
theorem dgo_back:∀(l:List UInt8) (n m:Nat),dgo n l=some m→l=dgs m l.length∧m/10^l.length=n
 | [],n,m,h=>by simp only [dgo,Option.some.injEq] at h;subst h;exact ⟨rfl,by simp⟩
 |c::r,n,m,h=>by
  simp only [dgo] at h
  split at h
  ·rename_i hc
   obtain ⟨h1,h2⟩:=dgo_back r _ _ h
   have hd:Lib.dg m r.length=c:=by
    apply UInt8.toNat_inj.1
    rw [dg_nat,h2]
    omega
   refine ⟨?_,?_⟩
   ·rw [List.length_cons,dgs_succ,hd,←h1]
   ·rw [List.length_cons,Nat.pow_succ,←Nat.div_div_eq_div_mul,h2]
    omega
  ·cases h
theorem ext_list(w:ByteArray)(i j:Nat):(w.extract i j).data.toList=(w.data.toList.drop i).take (j- i):=by
 rw [ByteArray.data_extract,Array.toList_extract]
theorem ba_list{a b:ByteArray}(h:a.data.toList=b.data.toList):a=b:=ByteArray.ext (Array.toList_inj.1 h)
theorem size_list(w:ByteArray):w.data.toList.length=w.size:=by rw [Array.length_toList];rfl
theorem nmG_list(n:Nat):(nmG n).data.toList= [119,97,108,45]++dgs n 8:=rfl
theorem nmG_size(n:Nat):(nmG n).size=12:=by
 rw [←size_list,nmG_list];simp [dgs]
theorem nmG_numS{w:ByteArray}(h:0<numS w):nmG (numS w)=w∧numS w≤99999999:=by
 unfold numS at h
 split at h
 ·rename_i hc
  obtain ⟨hs,h4⟩:=hc
  have hw:numS w=(dgo 0 (w.extract 4 w.size).data.toList).getD 0:=by unfold numS;rw [if_pos ⟨hs,h4⟩]
  cases hd:dgo 0 (w.extract 4 w.size).data.toList with
  |none=>rw [hd] at h;simp at h
  |some m=>
   have hl:(w.extract 4 w.size).data.toList.length=8:=by rw [size_list,ByteArray.size_extract];omega
   obtain ⟨h1,h2⟩:=dgo_back _ _ _ hd
   have h3:=dgo_lt _ _ _ hd
   rw [hl] at h1 h3
   have hm:numS w=m:=by rw [hw,hd];rfl
   rw [hm]
   refine ⟨ba_list ?_,by omega⟩
   rw [nmG_list,←h1,ext_list]
   have e4:=congrArg (fun b:ByteArray=>b.data.toList) h4
   simp only [ext_list] at e4
   have e5:w.data.toList.take 4= [119,97,108,45]:=e4
   have e6:(w.data.toList.drop 4).take (w.size- 4)=w.data.toList.drop 4:=List.take_of_length_le (by rw [List.length_drop,size_list];omega)
   rw [e6,←e5,List.take_append_drop]
 ·omega
end
section
set_option maxRecDepth 8000
noncomputable def f10B:Code:= .seq (f10P 3) (.block 1 (.seq (f10P 4) (.seq (.seq (f10P 5) (.block 2 (.loop (f10P 6)))) (f10P 7))))
def gf(ys:List Nat)(i:Nat):Nat:=(ys.take i).foldl (fun n b=>256*n+b) 0
theorem gf_step{ys:List Nat}(h256:∀x∈ys,x<256)(hl:4≤ys.length){i:Nat}(hi:i<4):∃x,ys[i]? =some x∧x<256∧gf ys (i+1)=256*gf ys i+x∧gf ys i<2^24:=by
 match ys,hl,h256 with
 |a::b::c::d::r,_,h256=>
  have ha:=h256 a (by simp)
  have hb:=h256 b (by simp)
  have hc:=h256 c (by simp)
  have hd:=h256 d (by simp)
  have e0:gf (a::b::c::d::r) 0=0:=rfl
  have e1:gf (a::b::c::d::r) 1=256*0+a:=rfl
  have e2:gf (a::b::c::d::r) 2=256*(256*0+a)+b:=rfl
  have e3:gf (a::b::c::d::r) 3=256*(256*(256*0+a)+b)+c:=rfl
  match i,hi with
  |0,_=>exact ⟨a,rfl,ha,rfl,by rw [e0];omega⟩
  |1,_=>exact ⟨b,rfl,hb,rfl,by rw [e1];omega⟩
  |2,_=>exact ⟨c,rfl,hc,rfl,by rw [e2];omega⟩
  |3,_=>exact ⟨d,rfl,hd,rfl,by rw [e3];omega⟩
theorem inner4{st:St}{v l:AV}{xs:List Nat}(hv:BS st v (xs.map Int.ofNat))(h256:∀x∈xs,x<256)(hA:xs.length≤8000000){k:Nat}(hk:k+8≤xs.length){X:Code}{Q:Exit→Tm→St→Prop}(next:∀T',f10L4 T' v l (i64 k) (i64 (val4 (xs.drop k):Nat))→AW Tryz.prog X Q T' st):
  ∀T,f10L2 T v l (i64 k)→AW Tryz.prog (.seq (f10P 4) (.seq (.seq (f10P 5) (.block 2 (.loop (f10P 6)))) X)) Q T st:=by
 intro T hT
 have hd:∀x∈xs.drop k,x<256:=fun x hx=>h256 x (List.mem_of_mem_drop hx)
 refine AW.andThen (f10_4 hT) fun T1 q1=> ?_
 refine AW.andThen (AW.andThen (f10_5 q1) fun T2 q2=>AW.turns (In:=fun i T=>f10L5 T v l (i64 k) (i64 (gf (xs.drop k) i:Nat)) (i64 i)) (L:=fun T=>f10L4 T v l (i64 k) (i64 (gf (xs.drop k) 4:Nat))) (c:=fun _=>st) (n:=4) (sf:=st) rfl q2 (fun i hi T hT=> ?_) (fun T hT=>f10_6_F (lssF (by omega)) hT)) fun T3 q3=>next T3 q3
 obtain ⟨x,hx,hx256,hs,hb⟩:=gf_step hd (by rw [List.length_drop];omega) hi
 rw [List.getElem?_drop] at hx
 obtain ⟨q,i1,i2⟩:=hv.at (i:=k+i) (x:=Int.ofNat x) (by rw [List.getElem?_map,hx];rfl)
 rw [hs]
 exact f10_6_T (lssT (by omega)) (mulN 256 _ (by omega)) (addN' k i (by omega)) i1 i2 (conv5_3 st x (by omega)) (addN' (256*gf (xs.drop k) i) x (by omega)) (addN' i 1 (by omega)) hT
theorem build32(st:St)(j k:Nat)(f:Bool):buildSliceA E0 st 32 1 [(0,.sl j 1 0 k f)]=some (.sl st.next 1 0 1 true,st.push (.row [.sl j 1 0 k f] 22)):=by kernel_rfl
def RSpl(xs:List Nat)(st0:St)(a:Nat×AV)(s:St):Prop:=∃js R,LO s false a.2 js R∧Rest st0 s []∧FreshL st0.next a.2 js∧a.1≤xs.length∧9*R.length≤a.1∧R++splitN ((xs.drop a.1).map Int.ofNat).length ((xs.drop a.1).map Int.ofNat)=splitN (xs.map Int.ofNat).length (xs.map Int.ofNat)
def REnd(xs:List Nat)(st0:St)(v:AV)(a:Nat×AV)(s:St):Prop:=∃sf js,LO sf false a.2 js (splitN (xs.map Int.ofNat).length (xs.map Int.ofNat))∧Rest st0 sf []∧FreshL st0.next a.2 js∧
 ((∀T,f10L2 T v a.2 (i64 a.1)→AW Tryz.prog f10B (fun ex T' st'=>ex= .exit 0∧f10L3 T' a.2∧st'=sf) T s)∨(∀T,f10L2 T v a.2 (i64 a.1)→AW Tryz.prog f10B (fun ex T' st'=>ex= .ret∧f10L6 T' a.2∧st'=sf) T s))
def RStep(v:AV)(a:Nat×AV)(s:St)(a':Nat×AV)(s':St):Prop:=∀T,f10L2 T v a.2 (i64 a.1)→AW Tryz.prog f10B (fun ex T' st'=>ex= .normal∧f10L2 T' v a'.2 (i64 a'.1)∧st'=s') T s
theorem rspl{st0:St}(hw0:st0.wf)(hl0:st0.lock= []){v:AV}{xs:List Nat}(hv0:BS st0 v (xs.map Int.ofNat))(h256:∀x∈xs,x<256)(hA:xs.length≤8000000)(a:Nat×AV)(s:St)(h:RSpl xs st0 a s):
  REnd xs st0 v a s∨∃a' s',RSpl xs st0 a' s'∧xs.length- a'.1<xs.length- a.1∧RStep v a s a' s':=by
 obtain ⟨k,l⟩:=a
 obtain ⟨js,R,hL,hr,hf,hk,hR9,hlaw⟩:=h
 simp only at hL hf hk hR9 hlaw
 have hv:=hv0.rest hr
 have hlen:=hv.len
 rw [List.length_map] at hlen
 have hs1:binA E0 .sub 3 (i64 (xs.length:Nat)) (i64 (k:Nat))=some (i64 ((xs.length- k:Nat):Int)):=by
  rw [show ((xs.length- k:Nat):Int)=(xs.length:Int)- (k:Int) by omega];exact sub64 (by omega)
 have hdl:(xs.drop k).length=xs.length- k:=List.length_drop
 have stop:∀sf:St,LO sf false l js R→Rest st0 sf []→parse1 ((xs.drop k).map Int.ofNat)=none→LO sf false l js (splitN (xs.map Int.ofNat).length (xs.map Int.ofNat)):=fun sf h1 _ hp=>by
  rw [split_none hp,List.append_nil] at hlaw
  rw [←hlaw];exact h1
 by_cases h8:xs.length- k<8
 ·have hp:parse1 ((xs.drop k).map Int.ofNat)=none:=parse_short (by rw [List.length_map,hdl];exact h8)
  refine .inl ⟨s,js,stop s hL hr hp,hr,hf,.inl fun T hT=> ?_⟩
  exact AW.exitThen (f10_3_F hlen hs1 (geqF (by omega)) hT) fun T' q=>⟨rfl,q,rfl⟩
 have hd:∀x∈xs.drop k,x<256:=fun x hx=>h256 x (List.mem_of_mem_drop hx)
 have hpr:=parse_ref hd (by omega)
 rw [hdl] at hpr
 have hin:∀{Q:Exit→Tm→St→Prop},(∀T',f10L4 T' v l (i64 k) (i64 (val4 (xs.drop k):Nat))→AW Tryz.prog (f10P 7) Q T' s)→∀T,f10L2 T v l (i64 k)→AW Tryz.prog (.seq (f10P 4) (.seq (.seq (f10P 5) (.block 2 (.loop (f10P 6)))) (f10P 7))) Q T s:=fun nx=>inner4 hv h256 hA (by omega) nx
 have go:∀{Q:Exit→Tm→St→Prop},(∀T,f10L2 T v l (i64 k)→AW Tryz.prog (.block 1 (.seq (f10P 4) (.seq (.seq (f10P 5) (.block 2 (.loop (f10P 6)))) (f10P 7)))) Q T s)→∀T,f10L2 T v l (i64 k)→AW Tryz.prog f10B Q T s:=fun nx T hT=>AW.andThen (f10_3_T hlen hs1 (geqT (by omega)) hT) fun T' q=>nx T' q
 generalize val4 (xs.drop k)=n at hpr hin
 by_cases h1:n<1
 ·rw [if_pos h1] at hpr
  exact .inl ⟨s,js,stop s hL hr hpr,hr,hf,.inr (go fun T hT=>AW.blockR (hin (fun T' q=>f10_7_T (lssT (by omega)) q) T hT))⟩
 rw [if_neg h1] at hpr
 by_cases h2:4096<n
 ·rw [if_pos h2] at hpr
  exact .inl ⟨s,js,stop s hL hr hpr,hr,hf,.inr (go fun T hT=>AW.blockR (hin (fun T' q=>f10_7_FT (lssF (by omega)) (gtrT (by omega)) q) T hT))⟩
 rw [if_neg h2] at hpr
 have hs2:binA E0 .sub 3 (i64 ((xs.length- k:Nat):Int)) (i64 8)=some (i64 ((xs.length- k- 8:Nat):Int)):=by
  rw [show ((xs.length- k- 8:Nat):Int)=((xs.length- k:Nat):Int)- 8 by omega];exact sub64 (by omega)
 by_cases h3:xs.length- k- 8<n
 ·rw [if_pos h3] at hpr
  exact .inl ⟨s,js,stop s hL hr hpr,hr,hf,.inr (go fun T hT=>AW.blockR (hin (fun T' q=>f10_7_FFT (lssF (by omega)) (gtrF (by omega)) hlen hs1 hs2 (gtrT (by omega)) q) T hT))⟩
 rw [if_neg h3] at hpr
 have a8:binA E0 .add 3 (i64 (k:Nat)) (i64 8)=some (i64 ((k+8:Nat):Int)):=addN' k 8 (by omega)
 have an:binA E0 .add 3 (i64 ((k+8:Nat):Int)) (i64 (n:Nat))=some (i64 ((k+8+n:Nat):Int)):=addN' (k+8) n (by omega)
 obtain ⟨w,w1,w2⟩:=hv.slice (lo:=k+8) (hi:=k+8+n) (by omega) (by rw [List.length_map];omega)
 have hD:((xs.map Int.ofNat).drop (k+8)).take (k+8+n- (k+8))=(((xs.drop k).drop 8).take n).map Int.ofNat:=by
  rw [List.drop_drop,List.map_take,List.map_drop,Nat.add_sub_cancel_left]
 rw [hD] at w2
 have hY:((xs.map Int.ofNat).drop k).take (k+8+n- k)=((xs.drop k).take (8+n)).map Int.ofNat:=by
  rw [List.map_take,List.map_drop];congr 1;omega
 have hDl:(((xs.drop k).drop 8).take n).length=n:=by rw [List.length_take,List.length_drop,hdl];omega
 have hD256:∀x∈((xs.drop k).drop 8).take n,x<256:=fun x hx=>hd x (List.mem_of_mem_drop (List.mem_of_mem_take hx))
 have hY256:∀x∈(xs.drop k).take (8+n),x<256:=fun x hx=>hd x (List.mem_of_mem_take hx)
 generalize ((xs.drop k).drop 8).take n=D at hD w2 hpr hDl hD256
 have wc:=w2.cells
 rw [List.length_map,hDl] at wc
 have ap:=app_nil wc (by rw [List.length_map,List.length_map,hDl]) (by omega) (by unfold big;omega)
 have hw:=hr.wf
 have rp:Rest s (s.push (.row ((D.map Int.ofNat).map u8) 5)) []:=Rest.push hw _ _
 have gj:(s.push (.row ((D.map Int.ofNat).map u8) 5)).get s.next=some (.row ((D.map Int.ofNat).map u8) 5):=by rw [St.get_push,if_pos rfl]
 have bj:BS (s.push (.row ((D.map Int.ofNat).map u8) 5)) (.sl s.next 1 0 n false) (D.map Int.ofNat):=by
  refine .inr (.inr ⟨s.next,0,false,_,by rw [List.length_map,hDl],gj,?_,by simp⟩)
  rw [List.drop_zero,List.take_of_length_le (by simp)]
 obtain ⟨fr,s2,c1,o1,r1,f1⟩:=frameR_ok rp.wf (rp.lock.trans (hr.lock.trans hl0)) bj hD256 (by omega) (by omega)
 have r2:=(hr.trans rp).trans r1
 have gj2:=r1.keep _ _ (by simp) gj
 obtain ⟨y,y1,y2⟩:=(hv0.rest r2).slice (lo:=k) (hi:=k+8+n) (by omega) (by rw [List.length_map];omega)
 rw [hY] at y2
 have hLo:=(hL.rest rp).rest r1
 by_cases h4:frameL (D.map Int.ofNat)=((xs.drop k).take (8+n)).map Int.ofNat
 ·rw [if_pos h4] at hpr
  have hjs:s.next∉js:=fun hm=>by
   obtain ⟨i,hi,e⟩:=List.getElem_of_mem hm
   have hi2:i<R.length:=by rw [←hL.len];exact hi
   have:=hL.each i s.next R[i] (by rw [List.getElem?_eq_getElem hi,e]) (List.getElem?_eq_getElem hi2)
   have:=hw _ _ this
   omega
  obtain ⟨s4,p1,p2,p3,p4,_⟩:=hLo.app (d:=D.map Int.ofNat) r2 hw0 hl0 hf gj2 hr.next hjs (by omega)
  rw [List.length_map,hDl] at p1
  refine .inr ⟨(k+(8+n),.sl (s2.next+1) 1 0 (R.length+1) false),s4,⟨js++ [s.next],R++ [D.map Int.ofNat],p2,p3,p4,by omega,by simp only [List.length_append,List.length_cons,List.length_nil];omega,?_⟩,by simp only;omega,go fun T hT=>AW.blockN (hin (fun T' q=> ?_) T hT)⟩
  ·rw [←hlaw,split_some hpr,List.append_assoc]
   simp only [List.cons_append,List.nil_append,List.drop_drop]
  ·exact f10_7_FFFF (lssF (by omega)) (gtrF (by omega)) hlen hs1 hs2 (gtrF (by omega)) a8 a8 an w1 ap c1 o1.bs.str a8 an y1 y2.str (neSF (by rw [h4])) (build32 s2 s.next n false) p1 (addN' 8 n (by omega)) (addN' k (8+n) (by omega)) q
 ·rw [if_neg h4] at hpr
  have hne:strOfNums (frameL (D.map Int.ofNat))≠strOfNums (((xs.drop k).take (8+n)).map Int.ofNat):=fun e=>h4 (strOf_inj (frameL_range (nat_range hD256)) (nat_range hY256) e)
  refine .inl ⟨s2,js,stop s2 hLo r2 hpr,r2,hf,.inr (go fun T hT=>AW.blockR (hin (fun T' q=> ?_) T hT))⟩
  exact f10_7_FFFT (lssF (by omega)) (gtrF (by omega)) hlen hs1 hs2 (gtrF (by omega)) a8 a8 an w1 ap c1 o1.bs.str a8 an y1 y2.str (neST hne) q
theorem splitR_ok{st:St}(hw:st.wf)(hl:st.lock= []){v:AV}{xs:List Nat}(hv:BS st v (xs.map Int.ofNat))(h256:∀x∈xs,x<256)(hA:xs.length≤8000000):
  ∃l js st',obC 10 [v] st l st'∧LO st' false l js (splitN (xs.map Int.ofNat).length (xs.map Int.ofNat))∧Rest st st' []∧FreshL st.next l js:=by
 obtain ⟨n,c,σ,c0,s0,ht,sf,js,he1,he2,he3,he4⟩:=chain_wf (RSpl xs st) (fun a=>xs.length- a.1) (RStep v) (REnd xs st v) (rspl hw hl hv h256 hA) xs.length (0,.nils) st (by simp) ⟨[],[],LO.nil st false,Rest.refl hw _,⟨fun j hj=>(by cases hj),fun i sz o k f e=>(by cases e)⟩,by simp,by simp,by simp⟩
 refine ⟨(c n).2,js,sf,?_,he1,he2,he3⟩
 refine ACalls.body (E:=E0) hE Tryz.func10 f10body ?_
 refine AW.andThen (f10_0 ⟨rfl,rfl⟩) fun T1 q1=> ?_
 refine AW.andThen (f10_1 q1) fun T2 q2=> ?_
 refine AW.andThen (f10_2 q2) fun T3 q3=> ?_
 have hin:f10L2 T3 v (c 0).2 (i64 (c 0).1):=by rw [c0];exact q3
 rcases he4 with he4|he4
 ·refine AW.andThen (AW.turns (In:=fun i T=>f10L2 T v (c i).2 (i64 (c i).1)) (L:=fun T=>f10L3 T (c n).2) (c:=σ) (n:=n) (sf:=sf) s0.symm hin (fun i hi T hT=>ht i hi T hT) he4) fun T4 q4=> ?_
  refine AW.atRet (f10_8 q4) fun T5 q5=> ?_
  refine ⟨[T5.get 2],rfl,?_⟩
  simp only [oneOrTup]
  rw [q5.2]
  exact ⟨rfl,trivial⟩
 ·refine AW.retThen (AW.turnsRet (In:=fun i T=>f10L2 T v (c i).2 (i64 (c i).1)) (L:=fun T=>f10L6 T (c n).2) (c:=σ) (n:=n) (sf:=sf) s0.symm hin (fun i hi T hT=>ht i hi T hT) he4) fun T5 q5=> ?_
  refine ⟨[T5.get 2],rfl,?_⟩
  simp only [oneOrTup]
  rw [q5.2]
  exact ⟨rfl,trivial⟩
end
section
set_option maxRecDepth 8000
theorem LO.take{st:St}{f:Bool}{l:AV}{js:List Nat}{R:List (List Int)}(h:LO st f l js R){left:AV}{r:Nat}(hr:st.get r=some (.row [left,TT] 137))(hw:st.wf)(bs:List AV)(n:Nat)(lf:AV):LO (takeSt st r 137 bs n lf) f l js R:=by
 have kp:∀i vs ty,st.get i=some (.row vs ty)→ty≠137→(takeSt st r 137 bs n lf).get i=some (.row vs ty):=fun i vs ty hg hty=>by
  have:=hw _ _ hg
  rw [takeSt_get,if_neg (fun e=> ?_),if_neg (by omega)]
  ·exact hg
  ·rw [e,hr] at hg
   simp only [Option.some.injEq,AObj.row.injEq] at hg
   exact hty hg.2.symm
 refine ⟨h.len,?_,fun k j d hj hd=>kp _ _ _ (h.each k j d hj hd) (by decide),h.nodup⟩
 rcases h.row with h1|⟨h1,id,h2,h3⟩
 ·exact .inl h1
 ·exact .inr ⟨h1,id,h2,kp _ _ _ h3 (by decide)⟩
theorem Rest.take{st0 st:St}(hk:Rest st0 st [])(hw0:st0.wf){r ty n:Nat}{bs:List AV}{lf:AV}(hr:st0.next≤r)(hrn:r<st.next):Rest st0 (takeSt st r ty bs n lf) []:=
 ⟨fun i o hi ho=>by
  have:=hw0 _ _ ho
  have hn:=hk.next
  rw [takeSt_get,if_neg (by omega),if_neg (by omega)]
  exact hk.keep i o hi ho,by rw [takeSt_next];have:=hk.next;omega,by rw [takeSt_lock];exact hk.lock,hk.gl,takeSt_wf hk.wf hrn⟩
theorem newU_own{st:St}{b:AV}{A:List Int}(hw:st.wf)(hb:OwnB st b A)(hA:A.length≤8000000):
  ∃r left st',obC 44 [b] st (.ptr r 0) st'∧st.next≤r∧st'.get r=some (.row [left,TT] 137)∧LeftE st' left A∧Rest st st' []:=by
 rcases hb with ⟨rfl,rfl⟩|⟨rfl,i,rfl,hg⟩|⟨hne,i,rfl,hg⟩
 ·exact new_own hw (.inl ⟨rfl,rfl⟩) (by simp)
 ·exact new_own hw (.inr (.inl ⟨rfl,i,rfl,hg⟩)) (by simp)
 ·have hi:=hw _ _ hg
  have h0:0<A.length:=List.length_pos_iff.2 hne
  have hg':(st.push (.row [] 5)).get i=some (.row (A.map u8) 5):=by rw [St.get_push,if_neg (by omega)];exact hg
  have ha:appendA E0 (st.push (.row [] 5)) 22 22 (.sl st.next 1 0 0 true) (.sl i 1 0 A.length false)=some (.sl (st.next+1) 1 0 A.length false,(st.push (.row [] 5)).push (.row (A.map u8) 5)):=by
   have:=app_full (st:=st.push (.row [] 5)) (id:=st.next) (off:=0) (len:=0) (n:=A.length) (vs:= []) (c:=A.map u8) (x:= .sl i 1 0 A.length false) (by rw [St.get_push,if_pos rfl]) (by simp)
    (by rw [cells_sl hg' (by simp),List.drop_zero,List.take_of_length_le (by simp)]) (by simp) (by omega) (by unfold big;omega)
   simpa using this
  obtain ⟨x1,h1⟩:=run_of (newRun st (fun _=>(st.push (.row [] 5)).push (.row (A.map u8) 5)) i 0 A.length (st.next+1) A.length false)
  refine ⟨st.next+2,.sl (st.next+1) 1 0 A.length false,_,ACalls.run hE (ov:=noOv) noOv_ok h1 (by simp only [Ob.ok_cons,Ob.ok_nil,and_true];exact ha),by omega,by rw [St.get_push,if_pos (by simp)],.inl (.inr ⟨by simpa using hne,st.next+1,0,false,A,by simp,?_,by simp⟩),((Rest.push hw _ _).trans (Rest.push (push_wf hw _) _ _)).trans (Rest.push (push_wf (push_wf hw _) _) _ _)⟩
  rw [St.get_push,if_neg (by simp),St.get_push,if_pos (by simp)]
structure SplU (A:List Int) (st0:St) (r:Nat) (js:List Nat) (R:List (List Int)) (bs:List Int) (l:AV) (st:St):Prop where
 rd:∃left,st.get r=some (.row [left,TT] 137)∧LeftR st left (bs.map u8)
 ls:LO st true l js R
 keep:Rest st0 st []
 law:R++splitN bs.length bs=splitN A.length A
 len:9*R.length+bs.length≤A.length
 fresh:FreshL st0.next l js
def UEnd(A:List Int)(st0:St)(r:Nat)(l:AV)(st:St):Prop:=∃st' js,LO st' true l js (splitN A.length A)∧Rest st0 st' []∧FreshL st0.next l js∧∀T,f9L2 T l (.ptr r 0)→AW Tryz.prog (f9P 4) (fun ex T' s=>ex= .exit 0∧f9L3 T' l∧s=st') T st
theorem SplU.done{A:List Int}{st0:St}{r:Nat}{js:List Nat}{R:List (List Int)}{bs:List Int}{l:AV}{st:St}(h:SplU A st0 r js R bs l st)(hp:parse1 bs=none){st':St}(hls:LO st true l js R→LO st' true l js R)(hk:Rest st0 st' [])(hr:∀T,f9L2 T l (.ptr r 0)→AW Tryz.prog (f9P 4) (fun ex T' s=>ex= .exit 0∧f9L3 T' l∧s=st') T st):UEnd A st0 r l st:=
 ⟨st',js,by
   have:=h.law
   rw [split_none hp,List.append_nil] at this
   rw [←this];exact hls h.ls,hk,h.fresh,hr⟩
theorem spl_detU{A:List Int}{st0:St}{r:Nat}{js:List Nat}{R:List (List Int)}{bs:List Int}{l:AV}{st:St}(hI:SplU A st0 r js R bs l st)(hA:A.length≤8000000)(hw0:st0.wf)(hl0:st0.lock= [])(hr0:st0.next≤r):
  UEnd A st0 r l st∨
  (∃js' R' bs' l' st',bs'.length<bs.length∧SplU A st0 r js' R' bs' l' st'∧∀T,f9L2 T l (.ptr r 0)→AW Tryz.prog (f9P 4) (fun ex T' s=>ex= .normal∧f9L2 T' l' (.ptr r 0)∧s=st') T st):=by
 have hw:=hI.keep.wf
 have hlk:st.lock= []:=hI.keep.lock.trans hl0
 obtain ⟨left,hrd,hL⟩:=hI.rd
 have hrn:=hw _ _ hrd
 by_cases h4:bs.length<4
 ·have hp:parse1 bs=none:=by unfold parse1;rw [if_pos h4]
  exact .inl (hI.done hp (fun h=>h) hI.keep fun T hT=>f9_4_T (num_short hrd hL (by simpa using h4)) (neqT (by decide)) hT)
 obtain ⟨lf1,c1,L1,i1⟩:=num_ok hw hlk hrd hL (by omega) (by decide)
 have w1:=takeSt_wf (ty:=137) (n:=4) (bs:=bs.map u8) (lf:=lf1) hw hrn
 have r1:=takeSt_r (st:=st) (r:=r) (ty:=137) (n:=4) (bs:=bs.map u8) (lf:=lf1)
 have ls1:=fun (h:LO st true l js R)=>h.take hrd hw (bs.map u8) 4 lf1
 have k1:Rest st0 (takeSt st r 137 (bs.map u8) 4 lf1) []:=hI.keep.take hw0 hr0 hrn
 have x1:st0.next≤(takeSt st r 137 (bs.map u8) 4 lf1).next:=k1.next
 have lk1:(takeSt st r 137 (bs.map u8) 4 lf1).lock= []:=by rw [takeSt_lock];exact hlk
 have rn1:r<(takeSt st r 137 (bs.map u8) 4 lf1).next:=by rw [takeSt_next];omega
 generalize hs1:takeSt st r 137 (bs.map u8) 4 lf1=st1 at*
 by_cases hn1:num4 bs<1
 ·have hp:parse1 bs=none:=by unfold parse1;rw [if_neg h4,if_pos hn1]
  exact .inl (hI.done hp ls1 k1 fun T hT=>f9_4_FT c1 (neqF rfl) (lssT (by omega)) hT)
 by_cases hn2:4096<num4 bs
 ·have hp:parse1 bs=none:=by unfold parse1;rw [if_neg h4,if_neg hn1,if_pos hn2]
  exact .inl (hI.done hp ls1 k1 fun T hT=>f9_4_FFT c1 (neqF rfl) (lssF (by omega)) (gtrT (by omega)) hT)
 by_cases h8:(bs.drop 4).length<4
 ·have hp:parse1 bs=none:=by unfold parse1;rw [if_neg h4,if_neg hn1,if_neg hn2,if_pos h8]
  exact .inl (hI.done hp ls1 k1 fun T hT=>f9_4_FFFT c1 (neqF rfl) (lssF (by omega)) (gtrF (by omega)) (num_short r1 L1 (by simpa using h8)) (neqT (by decide)) hT)
 have hd8:(bs.drop 4).drop 4=bs.drop 8:=by rw [List.drop_drop]
 obtain ⟨lf2,c2,L2,i2⟩:=num_ok w1 lk1 r1 L1 (by omega) (by decide)
 rw [hd8] at L2
 have w2:=takeSt_wf (ty:=137) (n:=4) (bs:=(bs.drop 4).map u8) (lf:=lf2) w1 rn1
 have r2:=takeSt_r (st:=st1) (r:=r) (ty:=137) (n:=4) (bs:=(bs.drop 4).map u8) (lf:=lf2)
 have ls2:=fun (h:LO st1 true l js R)=>h.take r1 w1 ((bs.drop 4).map u8) 4 lf2
 have k2:Rest st0 (takeSt st1 r 137 ((bs.drop 4).map u8) 4 lf2) []:=k1.take hw0 hr0 rn1
 have x2:st0.next≤(takeSt st1 r 137 ((bs.drop 4).map u8) 4 lf2).next:=k2.next
 have lk2:(takeSt st1 r 137 ((bs.drop 4).map u8) 4 lf2).lock= []:=by rw [takeSt_lock];exact lk1
 have rn2:r<(takeSt st1 r 137 ((bs.drop 4).map u8) 4 lf2).next:=by rw [takeSt_next];omega
 generalize hs2:takeSt st1 r 137 ((bs.drop 4).map u8) 4 lf2=st2 at*
 obtain ⟨n,hn⟩:∃n:Nat,num4 bs=(n:Int):=⟨(num4 bs).toNat,by omega⟩
 have hnt:(num4 bs).toNat=n:=by rw [hn];rfl
 have hcv:convO E0 st2 79 3 (u64 (num4 bs))=some (i64 n,st2):=by rw [hn];exact conv64 st2 n (by omega)
 by_cases hsh:(bs.drop 8).length<n
 ·have hp:parse1 bs=none:=by unfold parse1;rw [if_neg h4,if_neg hn1,if_neg hn2,if_neg h8,if_pos (by rw [hnt];exact hsh)]
  exact .inl (hI.done hp (fun h=>ls2 (ls1 h)) k2 fun T hT=>f9_4_FFFFT c1 (neqF rfl) (lssF (by omega)) (gtrF (by omega)) c2 (neqF rfl) hcv (take_short r2 L2 (by simpa using hsh)) (neqT (by decide)) hT)
 obtain ⟨lf3,c3,L3,i3⟩:=take_ok (n:=n) w2 lk2 r2 L2 (by omega) (by simpa using hsh) (by omega) (by decide)
 rw [←List.map_drop] at L3
 have w3:=takeSt_wf (ty:=137) (n:=n) (bs:=(bs.drop 8).map u8) (lf:=lf3) w2 rn2
 have r3:=takeSt_r (st:=st2) (r:=r) (ty:=137) (n:=n) (bs:=(bs.drop 8).map u8) (lf:=lf3)
 have ls3:=fun (h:LO st2 true l js R)=>h.take r2 w2 ((bs.drop 8).map u8) n lf3
 have k3:Rest st0 (takeSt st2 r 137 ((bs.drop 8).map u8) n lf3) []:=k2.take hw0 hr0 rn2
 have x3:st0.next≤(takeSt st2 r 137 ((bs.drop 8).map u8) n lf3).next:=k3.next
 have g3:(takeSt st2 r 137 ((bs.drop 8).map u8) n lf3).get st2.next=some (.row (((bs.drop 8).take n).map u8) 5):=by
  rw [takeSt_get,if_neg (by omega),if_pos rfl,List.map_take]
 generalize hs3:takeSt st2 r 137 ((bs.drop 8).map u8) n lf3=st3 at*
 have hdl:((bs.drop 8).take n).length=n:=by rw [List.length_take];omega
 have c4:=sum_ok (f:=true) g3 hdl.symm (by omega)
 by_cases hcr:crcU ((bs.drop 8).take n)≠num4 (bs.drop 4)
 ·have hp:parse1 bs=none:=by unfold parse1;rw [if_neg h4,if_neg hn1,if_neg hn2,if_neg h8,if_neg (by rw [hnt];exact hsh),if_pos (by rw [hnt];exact hcr)]
  exact .inl (hI.done hp (fun h=>ls3 (ls2 (ls1 h))) k3 fun T hT=>f9_4_FFFFFT c1 (neqF rfl) (lssF (by omega)) (gtrF (by omega)) c2 (neqF rfl) hcv c3 (neqF rfl) c4 (conv32 _ _) (neqT hcr) hT)
 have hp:parse1 bs=some ((bs.drop 8).take n,(bs.drop 8).drop n):=by
  unfold parse1;rw [if_neg h4,if_neg hn1,if_neg hn2,if_neg h8,if_neg (by rw [hnt];exact hsh),if_neg (by rw [hnt];exact hcr),hnt]
 have hlen:=parse1_len hp
 simp only at hlen
 have l2:LO st2 true l js R:=ls2 (ls1 hI.ls)
 have l3:LO st3 true l js R:=ls3 l2
 have hlen2:=hI.len
 have hjs:st2.next∉js:=fun hm=>by
  obtain ⟨i,hi,e⟩:=List.getElem_of_mem hm
  have hi2:i<R.length:=by rw [←l2.len];exact hi
  have:=l2.each i st2.next R[i] (by rw [List.getElem?_eq_getElem hi,e]) (List.getElem?_eq_getElem hi2)
  have:=w2 _ _ this
  omega
 obtain ⟨st5,ha,p2,p3,p4,kp5⟩:=l3.app (d:=(bs.drop 8).take n) k3 hw0 hl0 hI.fresh g3 x2 hjs (by omega)
 rw [hdl] at ha
 refine .inr ⟨js++ [st2.next],R++ [(bs.drop 8).take n],(bs.drop 8).drop n,.sl (st3.next+1) 1 0 (R.length+1) false,st5,by omega,⟨⟨lf3,kp5 _ _ _ r3 (by decide),?_⟩,p2,p3,?_,?_,p4⟩,fun T hT=> ?_⟩
 ·rcases L3 with h|⟨hne,id,off,full,B,h,hg,hd⟩
  ·exact .inl h
  ·exact .inr ⟨hne,id,off,full,B,h,kp5 _ _ _ hg (by decide),hd⟩
 ·rw [←hI.law,split_some hp]
  simp
 ·simp only [List.length_append,List.length_cons,List.length_nil]
  omega
 ·exact f9_4_FFFFFF c1 (neqF rfl) (lssF (by omega)) (gtrF (by omega)) c2 (neqF rfl) hcv c3 (neqF rfl) c4 (conv32 _ _) (neqF (Classical.not_not.1 hcr)) (build32 st3 st2.next n true) ha hT
theorem splitU_ok{st:St}{b:AV}{A:List Int}(hw:st.wf)(hl:st.lock= [])(hb:OwnB st b A)(hA:A.length≤8000000):
  ∃l js st',obC 9 [b] st l st'∧LO st' true l js (splitN A.length A)∧Rest st st' []∧FreshL st.next l js:=by
 obtain ⟨r,left,s1,hnew,hr0,hrd,hL,hk⟩:=newU_own hw hb hA
 have f0:FreshL st.next .nils []:=⟨fun j hj=>(by cases hj),fun i sz o k f e=>(by cases e)⟩
 obtain ⟨n,c,σ,c0,s0,ht,sf,js,h4,h5,h6,hf⟩:∃(n:Nat) (c:Nat→AV) (σ:Nat→St),c 0= .nils∧σ 0=s1∧(∀i,i<n→∀T,f9L2 T (c i) (.ptr r 0)→AW Tryz.prog (f9P 4) (fun ex T' s=>ex= .normal∧f9L2 T' (c (i+1)) (.ptr r 0)∧s=σ (i+1)) T (σ i))∧UEnd A st r (c n) (σ n):=by
  rcases hL with hL|⟨rfl,j,rfl⟩
  ·obtain ⟨n,c,σ,c0,s0,ht,he⟩:=chain_wf (fun (a:List Int×AV) s=>∃js R,SplU A st r js R a.1 a.2 s) (fun a=>a.1.length) (fun a s a' s'=>∀T,f9L2 T a.2 (.ptr r 0)→AW Tryz.prog (f9P 4) (fun ex T' z=>ex= .normal∧f9L2 T' a'.2 (.ptr r 0)∧z=s') T s) (fun a s=>UEnd A st r a.2 s)
    (fun a s ⟨js,R,hI⟩=>by
     rcases spl_detU hI hA hw hl hr0 with he|⟨js',R',bs',l',st',hlt,hI',hs⟩
     ·exact .inl he
     ·exact .inr ⟨(bs',l'),st',⟨js',R',hI'⟩,hlt,hs⟩) A.length (A,.nils) s1 (Nat.le_refl _) ⟨[],[],⟨left,hrd,hL⟩,LO.nil _ _,hk,rfl,by simp,f0⟩
   exact ⟨n,fun i=>(c i).2,σ,by show (c 0).2=_;rw [c0],s0,ht,he⟩
  ·exact ⟨0,fun _=> .nils,fun _=>s1,rfl,rfl,fun i h=>by omega,s1,[],LO.nil _ _,hk,f0,fun T hT=>f9_4_T (num_shortE hrd) (neqT (by decide)) hT⟩
 refine ⟨c n,js,sf,?_,h4,h5,h6⟩
 refine ACalls.body (E:=E0) hE Tryz.func9 f9body ?_
 refine AW.andThen (f9_0 ⟨rfl,rfl⟩) fun T1 q1=> .scope ?_
 refine AW.andThen (f9_1 q1) fun T2 q2=> ?_
 refine AW.andThen (f9_2 hnew q2) fun T3 q3=> ?_
 refine AW.andThen (f9_3 q3) fun T4 q4=> ?_
 refine AW.andThen (AW.turns (In:=fun i T=>f9L2 T (c i) (.ptr r 0)) (L:=fun T=>f9L3 T (c n)) (c:=σ) (n:=n) (sf:=sf) s0.symm (by rw [c0];exact q4) ht hf) fun T5 q5=> ?_
 refine AW.atRet (f9_5 q5) fun T6 q6=> ?_
 refine ⟨fun l h=>(by cases h),[T6.get 2],rfl,?_⟩
 simp only [oneOrTup]
 exact ⟨q6.2,trivial⟩
end
section
set_option maxRecDepth 100000
abbrev sL25:List Nat:= [2017,2025,2031,6040,6041,7008,7009,7012,7013,7016]
theorem f7_T_e(st:St)(x:AV)(n8:Int):evC sL25 7 [x] st [.av (i64 n8),.av TT]=some ((.tup [.nils,(i64 1)]),st,[],[lenA E0 22 x=some (i64 n8),Bt 3 .eql n8 0 TT]):=by kernel_rfl
theorem f7_T{st:St}{x:AV}{n8:Int}(h1:lenA E0 22 x=some (i64 n8))(h2:Bt 3 .eql n8 0 TT):obC 7 [x] st (.tup [.nils,(i64 1)]) st:=ACalls.run hE noOv_ok (f7_T_e st x n8) (kk h1 (kk h2 Ob.ok_nil))
theorem f7_FT_e(st:St)(x:AV)(n8 n12:Int):evC sL25 7 [x] st [.av (i64 n8),.av FF,.av (i64 n12),.av TT]=some ((.tup [.nils,(i64 3)]),st,[],[lenA E0 22 x=some (i64 n8),Bt 3 .eql n8 0 FF,lenA E0 22 x=some (i64 n12),Bt 3 .gtr n12 4096 TT]):=by kernel_rfl
theorem f7_FT{st:St}{x:AV}{n8 n12:Int}(h1:lenA E0 22 x=some (i64 n8))(h2:Bt 3 .eql n8 0 FF)(h3:lenA E0 22 x=some (i64 n12))(h4:Bt 3 .gtr n12 4096 TT):obC 7 [x] st (.tup [.nils,(i64 3)]) st:=ACalls.run hE noOv_ok (f7_FT_e st x n8 n12) (kk h1 (kk h2 (kk h3 (kk h4 Ob.ok_nil))))
theorem f7_FF_e(st s1 s2 s3 s4:St)(x v18a v26a v31:AV)(n8 n12 n16 n17 n18b n24 n25 n26b:Int):evC sL25 7 [x] st [.av (i64 n8),.av FF,.av (i64 n12),.av FF,.av (i64 n16),.eff (u64 n17) id,.eff (.tup [v18a,(i64 n18b)]) (fun _=>s1),.eff (u32 n24) (fun _=>s2),.eff (u64 n25) id,.eff (.tup [v26a,(i64 n26b)]) (fun _=>s3),.eff v31 (fun _=>s4)]=some ((.tup [v31,(i64 0)]),s4,[],[lenA E0 22 x=some (i64 n8),Bt 3 .eql n8 0 FF,lenA E0 22 x=some (i64 n12),Bt 3 .gtr n12 4096 FF,lenA E0 22 x=some (i64 n16),convO E0 st 3 79 (i64 n16)=some ((u64 n17),st),obC 40 [.nils,(u64 n17),(i64 4)] st (.tup [v18a,(i64 n18b)]) s1,obC 41 [x] s1 (u32 n24) s2,convO E0 s2 80 79 (u32 n24)=some ((u64 n25),s2),obC 40 [v18a,(u64 n25),(i64 4)] s2 (.tup [v26a,(i64 n26b)]) s3,appendA E0 s3 22 22 v26a x=some (v31,s4)]):=by kernel_rfl
theorem f7_FF{st s1 s2 s3 s4:St}{x v18a v26a v31:AV}{n8 n12 n16 n17 n18b n24 n25 n26b:Int}(h1:lenA E0 22 x=some (i64 n8))(h2:Bt 3 .eql n8 0 FF)(h3:lenA E0 22 x=some (i64 n12))(h4:Bt 3 .gtr n12 4096 FF)(h5:lenA E0 22 x=some (i64 n16))(h6:convO E0 st 3 79 (i64 n16)=some ((u64 n17),st))(h7:obC 40 [.nils,(u64 n17),(i64 4)] st (.tup [v18a,(i64 n18b)]) s1)(h8:obC 41 [x] s1 (u32 n24) s2)(h9:convO E0 s2 80 79 (u32 n24)=some ((u64 n25),s2))(h10:obC 40 [v18a,(u64 n25),(i64 4)] s2 (.tup [v26a,(i64 n26b)]) s3)(h11:appendA E0 s3 22 22 v26a x=some (v31,s4)):obC 7 [x] st (.tup [v31,(i64 0)]) s4:=ACalls.run hE noOv_ok (f7_FF_e st s1 s2 s3 s4 x v18a v26a v31 n8 n12 n16 n17 n18b n24 n25 n26b) (kk h1 (kk h2 (kk h3 (kk h4 (kk h5 (kk h6 (kk h7 (kk h8 (kk h9 (kk h10 (kk h11 Ob.ok_nil)))))))))))
end
section
set_option maxRecDepth 8000
theorem num40{st:St}{s:AV}{B:List Int}(hB:BR st s B)(hw:st.wf)(hl:st.lock= []){n:Nat}(hn:n<2^32)(hb:B.length+4≤1000000):
  ∃i st',obC 40 [s,u64 n,i64 4] st (.tup [S4 i (B.length+4),i64 0]) st'∧st'.get i=some (.row ((B++be4 n).map u8) 5)∧Rest st st' []∧st.next≤i:=by
 obtain ⟨i,st',c,hg,hl',hi,hx,hk,hw'⟩:=numW_ok hB hw hl (n:=(n:Int)) (by omega) hb
 exact ⟨i,_,obC_gl c,hg,⟨fun j o _ ho=>hk j o ho,hx,hl'.trans hl.symm,rfl,hw'⟩,hi⟩
theorem frameU_0{st:St}{v:AV}(hv:BS st v []):obC 7 [v] st (.tup [.nils,i64 1]) st:=f7_T hv.len (eqlT rfl)
theorem frameU_long{st:St}{v:AV}{d:List Int}(hv:BS st v d)(h:4096<d.length):obC 7 [v] st (.tup [.nils,i64 3]) st:=f7_FT hv.len (eqlF (by omega)) hv.len (gtrT (by omega))
theorem frameU_ok{st:St}(hw:st.wf)(hl:st.lock= []){v:AV}{d:List Int}(hv:OwnB st v d)(h1:1≤d.length)(h2:d.length≤4096):
  ∃v' st',obC 7 [v] st (.tup [v',i64 0]) st'∧OwnB st' v' (frameL d)∧Rest st st' []∧FreshB st v':=by
 have hlen:=hv.bs.len
 obtain ⟨i1,s1,c1,g1,r1,f1⟩:=num40 (st:=st) (s:= .nils) (B:= []) (.inl ⟨rfl,rfl⟩) hw hl (n:=d.length) (by omega) (by simp)
 have hc:=crc_range d
 obtain ⟨m,hm⟩:=Int.eq_ofNat_of_zero_le hc.1
 rw [hm] at hc
 have hs:obC 41 [v] s1 (u32 (m:Int)) s1:=by
  rcases hv with ⟨rfl,_⟩|⟨rfl,_⟩|⟨_,i,rfl,hg⟩
  ·simp at h1
  ·simp at h1
  ·rw [←hm];exact sum_ok (r1.keep _ _ (by simp) hg) rfl (by omega)
 obtain ⟨i2,s2,c2,g2,r2,f2⟩:=num40 (st:=s1) (s:=S4 i1 (0+4)) (B:=be4 d.length) (.inr ⟨by simp [be4],i1,rfl,by simpa using g1⟩) r1.wf (r1.lock.trans hl) (n:=m) (by omega) (by simp [be4])
 have r12:=r1.trans r2
 have o2:OwnB s2 (S4 i2 ((be4 (d.length:Nat)).length+4)) (be4 d.length++be4 m):= .inr (.inr ⟨by simp [be4],i2,rfl,g2⟩)
 obtain ⟨g,s3,a3,o3,r3,f3,_⟩:=app_ownR hw hl r12 o2 (fun i o l f e=>by
  simp only [S4,AV.sl.injEq] at e
  have:=r1.next
  omega) (hv.bs.rest r12).cells (by simp [be4,big];omega)
 have hU:crcU d=(m:Int):=by rw [crcU_eq,hm]
 refine ⟨g,s3,f7_FF hlen (eqlF (by omega)) hlen (gtrF (by omega)) hlen (conv3_79 st _ (by omega)) c1 hs (conv80_79 s1 m (by omega)) c2 a3,?_,r3,f3⟩
 unfold frameL
 rw [hU]
 exact o3
theorem xorA(x:Int):∃m,binA E0 .xor 5 (u8 x) (u8 255)=some (u8 m):=⟨_,rfl⟩
theorem xor_chain{st:St}(hw:st.wf)(hl:st.lock= []){o n:Nat}{fl:Bool}{d:List Int}(hg:st.get o=some (.row (d.map u8) 5))(hd:d.length=n):
  ∃c:Nat→St,c 0=st∧(∀i,i≤n→Rest st (c i) [o])∧∀i,i<n→∃x m,indexAddrA E0 22 (.sl o 1 0 n fl) (i64 i)=some (.ptr o i)∧loadA E0 (c i) 5 (.ptr o i)=some (u8 x)∧binA E0 .xor 5 (u8 x) (u8 255)=some (u8 m)∧storeA E0 (c i) 5 (.ptr o i) (u8 m)=some (c (i+1)):=by
 obtain ⟨c,c0,inv,step⟩:=chain_seq (fun _ σ=>∃l':List Int,l'.length=n∧σ.get o=some (.row (l'.map u8) 5)∧Rest st σ [o]) (fun i σ σ'=>∃x m,indexAddrA E0 22 (.sl o 1 0 n fl) (i64 i)=some (.ptr o i)∧loadA E0 σ 5 (.ptr o i)=some (u8 x)∧binA E0 .xor 5 (u8 x) (u8 255)=some (u8 m)∧storeA E0 σ 5 (.ptr o i) (u8 m)=some σ') n st ⟨d,hd,hg,Rest.refl hw _⟩ (fun i σ hi ⟨l',h1,h2,h3⟩=>by
  obtain ⟨m,hm⟩:=xorA l'[i]
  exact ⟨_,⟨l'.set i m,by simp [h1],by rw [St.get_set,if_pos rfl],h3.trans (Rest.set h3.wf (h3.wf _ _ h2) _ (by simp))⟩,l'[i],m,idx22 hi,load_row h2 (plainT ty5 rfl (by rw [List.getElem?_map,List.getElem?_eq_getElem (by omega)];rfl)),hm,store_u8 h2 (h3.lock.trans hl) (by omega) m⟩)
 exact ⟨c,c0,fun i hi=>(by obtain ⟨_,_,_,h⟩:=inv i hi;exact h),step⟩
theorem slL:SlT 32 22 1:=⟨⟨_,rfl,by kernel_rfl⟩,by kernel_rfl⟩
theorem LO.lenA{st:St}{f:Bool}{l:AV}{js:List Nat}{R:List (List Int)}(h:LO st f l js R):lenA E0 32 l=some (i64 R.length):=by
 rcases h.row with ⟨rfl,rfl⟩|⟨_,id,rfl,_⟩
 ·exact lenS0 slL
 ·exact lenS slL
end
section
set_option maxRecDepth 8000
abbrev GT(st:St):Prop:=st.gl=(stTab tabsD).gl
section
variable {st:St} {w d m nx op ct:Nat} {s:PS}
def gSync(s:PS)(op:Nat):Int×PS:=if op=0 then (0,s) else pSync s (nmG op)
theorem gsync_ok(h:WA st w d m s nx op ct)(hgl:GT st)(hg:Good s)(ho:op≤99999999):∃st',obC 18 [.ptr w 0] st (i64 (gSync s op).1) st'∧WA st' w d m (gSync s op).2 nx op ct∧Rest st st' [d,m]:=by
 unfold gSync
 by_cases h0:op=0
 ·rw [if_pos h0]
  exact ⟨st,f18_T h.l0 h.l2 (eqlT (by omega)),h,Rest.refl h.wf _⟩
 ·rw [if_neg h0]
  obtain ⟨s1,r1,k1⟩:=nameP_ok h.wf hgl (n:=op) (by omega) ho
  have h1:=h.rest k1
  obtain ⟨s2,r2,p2,k2⟩:=sync_ok h1.disk h1.wf h1.lock hg (nmG op)
  exact ⟨s2,f18_F h.l0 h.l2 (eqlF (by omega)) h.l2 r1 h1.l0 r2,h1.disk' p2 k2,(k1.weak (by simp)).trans k2⟩
def gBeg(s:PS)(nx:Nat):Int×PS:=if 99999999<nx then (7,s) else pCreate s (nmG nx)
theorem gbegin_ok(h:WA st w d m s nx op ct)(hgl:GT st)(hf:0≤s.fu∧s.fu≤9223372036854775807)(hn:1≤nx∧nx≤100000000):∃st',obC 51 [.ptr w 0] st (i64 (gBeg s nx).1) st'∧(((gBeg s nx).1=0∧WA st' w d m (gBeg s nx).2 (nx+1) nx 0)∨((gBeg s nx).1≠0∧WA st' w d m (gBeg s nx).2 nx op ct))∧Rest st st' [d,m,w]:=by
 unfold gBeg
 by_cases hb:99999999<nx
 ·rw [if_pos hb]
  exact ⟨st,f51_T h.l1 (nameP_bad (.inr (by omega))) (neqT (by decide)),.inr ⟨fun e=>(by cases e),h⟩,Rest.refl h.wf _⟩
 rw [if_neg hb]
 obtain ⟨s1,r1,k1⟩:=nameP_ok h.wf hgl (n:=nx) hn.1 (by omega)
 have h1:=h.rest k1
 obtain ⟨s2,r2,p2,k2⟩:=create_ok h1.disk h1.wf h1.lock hf (nmG nx)
 have h2:=h1.disk' p2 k2
 have k12:Rest st s2 [d,m,w]:=(k1.weak (by simp)).trans (k2.weak (by simp))
 by_cases he:(pCreate s (nmG nx)).1=0
 ·rw [he] at r2
  obtain ⟨h3,k3⟩:=h2.set (vs:= [.ptr d 0,i64 nx,i64 op,i64 ct].set 2 (i64 nx)) rfl
  obtain ⟨h4,k4⟩:=h3.set (vs:=([.ptr d 0,i64 nx,i64 nx,i64 ct]:List AV).set 3 (i64 (0:Nat))) rfl
  obtain ⟨h5,k5⟩:=h4.set (vs:=([.ptr d 0,i64 nx,i64 nx,i64 (0:Nat)]:List AV).set 1 (i64 (nx+1:Nat))) rfl
  refine ⟨_,?_,.inl ⟨he,h5⟩,((k12.trans (k3.weak (by simp))).trans (k4.weak (by simp))).trans (k5.weak (by simp))⟩
  rw [he]
  exact f51_FF h.l1 r1 (neqF rfl) h1.l0 r2 (neqF rfl) h2.l1 (storeWl h2.row h2.lock (by simp) _) (storeWl h3.row h3.lock (by simp) _) h4.l1 (add64 (by omega)) (storeWl h4.row h4.lock (by simp) _)
 ·exact ⟨s2,f51_FT h.l1 r1 (neqF rfl) h1.l0 r2 (neqT he),.inr ⟨he,h2⟩,k12⟩
end
end
section
set_option maxRecDepth 8000
theorem own_w{st0 st:St}{v:AV}{c:List Int}(h:OwnB st v c)(hf:FreshB st0 v)(hne:c≠ []):OwnW st0 st v c:=by
 rcases h with ⟨h,_⟩|⟨h,_⟩|⟨_,i,rfl,hg⟩
 ·exact absurd h hne
 ·exact absurd h hne
 ·exact ⟨i,rfl,hg,hf _ _ _ _ rfl⟩
theorem Fine.beg{s:PS}{U:Nat}(h:Fine s U)(nx:Nat):Fine (gBeg s nx).2 U:=by
 unfold gBeg;split
 ·exact h
 ·exact h.create _
theorem gbeg_le{s:PS}{nx:Nat}(h:(gBeg s nx).1=0):nx≤99999999:=by
 unfold gBeg at h;split at h
 ·cases h
 ·omega
section
variable {st:St} {w d m nx op ct:Nat} {s:PS}
theorem gapp_tail{st0:St}{v:AV}{c:List Int}(h:WA st w d m s nx op ct){U:Nat}(hf:Fine s U)(hU:U<1000000000)(hgl:GT st)(ho:1≤op∧op≤99999999)(hv:OwnW st0 st v c)(hc:c.length<1000000000)(hlt:∀i∈ [d,m,w],i<st0.next):
  ∃sA sB s',obC 5 [i64 op] st (.tup [str (nmG op),i64 0]) sA∧loadA E0 sA 38 (.ptr w 0)=some (.ptr d 0)∧obC 32 [.ptr d 0,str (nmG op),v] sA (i64 (appE s (nmG op) c)) sB∧AppS s (nmG op) c s'∧WA sB w d m s' nx op ct∧RestF st sB [d,m,w]:=by
 obtain ⟨sA,r1,k1⟩:=nameP_ok h.wf hgl (n:=op) (by omega) (by omega)
 have h1:=h.rest k1
 obtain ⟨sB,s',r2,p2,k2,a2⟩:=append_ok h1.disk h1.wf h1.lock hf.good (by have:=hf.used;omega) hf.q (nmG op) (hv.rest k1 (by simp)).arg hc
 have hw2:sB.get w=some (.row [.ptr d 0,i64 nx,i64 op,i64 ct] 93):=k2.keep w _ (by simp [h.wd,h.wm]) h1.row fun _ _ _=>rfl
 exact ⟨sA,sB,s',r1,h1.l0,r2,a2,⟨p2,hw2,k2.wf,k2.lock.trans h1.lock⟩,(k1.f.weak (by simp)).trans (k2.weak (by simp))⟩
def gPre(s:PS)(nx op ct:Nat):Int×PS×Nat×Nat×Nat:=
 if 0<op∧ct=8 then
  if (pSync s (nmG op)).1≠0 then ((pSync s (nmG op)).1,(pSync s (nmG op)).2,nx,op,ct) else
  if (gBeg (pSync s (nmG op)).2 nx).1≠0 then ((gBeg (pSync s (nmG op)).2 nx).1,(gBeg (pSync s (nmG op)).2 nx).2,nx,0,ct)
  else (0,(gBeg (pSync s (nmG op)).2 nx).2,nx+1,nx,0)
 else if op=0 then
  if (gBeg s nx).1≠0 then ((gBeg s nx).1,(gBeg s nx).2,nx,0,ct) else (0,(gBeg s nx).2,nx+1,nx,0)
 else (0,s,nx,op,ct)
def GApp(x:AV)(c:List Int)(st:St)(w d m:Nat)(s:PS)(nx op ct:Nat)(st':St)(s':PS):Prop:=
  ((gPre s nx op ct).1≠0∧s'=(gPre s nx op ct).2.1∧obC 16 [.ptr w 0,x] st (.tup [i64 0,i64 (gPre s nx op ct).1]) st'∧WA st' w d m s' (gPre s nx op ct).2.2.1 (gPre s nx op ct).2.2.2.1 (gPre s nx op ct).2.2.2.2)∨
  ((gPre s nx op ct).1=0∧AppS (gPre s nx op ct).2.1 (nmG (gPre s nx op ct).2.2.2.1) c s'∧
    ((appE (gPre s nx op ct).2.1 (nmG (gPre s nx op ct).2.2.2.1) c≠0∧obC 16 [.ptr w 0,x] st (.tup [i64 0,i64 (appE (gPre s nx op ct).2.1 (nmG (gPre s nx op ct).2.2.2.1) c)]) st'∧WA st' w d m s' (gPre s nx op ct).2.2.1 (gPre s nx op ct).2.2.2.1 (gPre s nx op ct).2.2.2.2)∨
     (appE (gPre s nx op ct).2.1 (nmG (gPre s nx op ct).2.2.2.1) c=0∧obC 16 [.ptr w 0,x] st (.tup [i64 (gPre s nx op ct).2.2.2.1,i64 0]) st'∧WA st' w d m s' (gPre s nx op ct).2.2.1 (gPre s nx op ct).2.2.2.1 ((gPre s nx op ct).2.2.2.2+1))))
theorem gapp_fin{sB:St}{s':PS}{ct':Nat}(h:WA sB w d m s' nx op ct')(hct:ct'≤1000):∃s7,storeA E0 sB 3 (.ptr w 3) (i64 (ct'+1:Int))=some s7∧WA s7 w d m s' nx op (ct'+1)∧Rest sB s7 [w]:=by
 obtain ⟨h3,k3⟩:=h.set (vs:= [.ptr d 0,i64 nx,i64 op,i64 ct'].set 3 (i64 (ct'+1:Nat))) rfl
 exact ⟨_,storeWl h.row h.lock (by simp) _,h3,k3⟩
theorem gappend_ok{x:AV}{U:Nat}{data:List Int}(h:WA st w d m s nx op ct)(hgl:GT st)(hx:OwnB st x data)(hf:Fine s U)(hU:U<1000000000)(hn:1≤nx∧nx≤100000000)(ho:op≤99999999)(hct:ct≤8)(h1:1≤data.length)(h2:data.length≤4096):
  ∃st' s',GApp x (frameL data) st w d m s nx op ct st' s'∧RestF st st' [d,m,w]:=by
 have hlt:=h.lt
 have hcl:(frameL data).length<1000000000:=by rw [frame_len];omega
 obtain ⟨v,s1,f1,hvo,kf,hvf⟩:=frameU_ok h.wf h.lock hx h1 h2
 have hv1:OwnW st s1 v (frameL data):=own_w hvo hvf (fun e=>by have:=congrArg List.length e;rw [frame_len] at this;simp at this)
 have hgl1:GT s1:=kf.gl.trans hgl
 have w1:=h.rest kf
 have kf':Rest st s1 [d,m,w]:=kf.weak (by simp)
 by_cases hfull:0<op∧ct=8
 ·obtain ⟨s2,r2,w2,k2⟩:=gsync_ok w1 hgl1 hf.good ho
  have hsy:gSync s op=pSync s (nmG op):=by unfold gSync;rw [if_neg (by omega)]
  rw [hsy] at r2 w2
  by_cases he:(pSync s (nmG op)).1≠0
  ·refine ⟨s2,(pSync s (nmG op)).2,.inl ?_,(kf'.trans (k2.weak (by simp))).f⟩
   have:gPre s nx op ct=((pSync s (nmG op)).1,(pSync s (nmG op)).2,nx,op,ct):=by unfold gPre;rw [if_pos hfull,if_pos he]
   rw [this]
   exact ⟨he,rfl,f16_FTTT h.l0 f1 (neqF rfl) w1.l2 (gtrT (by omega)) w1.l3 (eqlT (by omega)) r2 (neqT he),w2⟩
  have he':=Classical.not_not.1 he
  rw [he'] at r2
  obtain ⟨w3,k3⟩:=w2.set (vs:= [.ptr d 0,i64 nx,i64 op,i64 ct].set 2 (i64 (0:Nat))) rfl
  have t3:=storeWl w2.row w2.lock (k:=2) (by simp) 0
  have hf3:Fine (pSync s (nmG op)).2 U:=hf.sync _
  have hgl3:GT _:=k3.gl.trans (k2.gl.trans hgl1)
  obtain ⟨s4,r4,w4,k4⟩:=gbegin_ok w3 hgl3 hf3.good.fu hn
  have k14:Rest st s4 [d,m,w]:=(kf'.trans (k2.weak (by simp))).trans ((k3.weak (by simp)).trans k4)
  rcases w4 with ⟨hz,w4⟩|⟨hz,w4⟩
  ·have hp:gPre s nx op ct=(0,(gBeg (pSync s (nmG op)).2 nx).2,nx+1,nx,0):=by unfold gPre;rw [if_pos hfull,if_neg he,if_neg (fun e=>e hz)]
   have hv4:OwnW st s4 v (frameL data):=((hv1.rest (k2.weak (S':= [d,m,w]) (by simp)) hlt).rest (k3.weak (S':= [d,m,w]) (by simp)) hlt).rest k4 hlt
   obtain ⟨sA,sB,s',a1,a2,a3,a4,a5,a6⟩:=gapp_tail w4 (hf3.beg nx) hU (k4.gl.trans hgl3) ⟨hn.1,gbeg_le hz⟩ hv4 hcl hlt
   rw [hz] at r4
   by_cases hz2:appE (gBeg (pSync s (nmG op)).2 nx).2 (nmG nx) (frameL data)=0
   ·obtain ⟨s7,b1,b2,b3⟩:=gapp_fin a5 (by omega)
    refine ⟨s7,s',.inr ?_,k14.f.trans (a6.trans (b3.f.weak (by simp)))⟩
    rw [hp]
    rw [hz2] at a3
    exact ⟨rfl,a4,.inr ⟨hz2,f16_FTTFTFF h.l0 f1 (neqF rfl) w1.l2 (gtrT (by omega)) w1.l3 (eqlT (by omega)) r2 (neqF rfl) t3 w3.l2 (eqlT rfl) r4 (neqF rfl) w4.l2 a1 a2 a3 (neqF rfl) a5.l3 (add64 (by omega)) b1 b2.l2,b2⟩⟩
   ·refine ⟨sB,s',.inr ?_,k14.f.trans a6⟩
    rw [hp]
    exact ⟨rfl,a4,.inl ⟨hz2,f16_FTTFTFT h.l0 f1 (neqF rfl) w1.l2 (gtrT (by omega)) w1.l3 (eqlT (by omega)) r2 (neqF rfl) t3 w3.l2 (eqlT rfl) r4 (neqF rfl) w4.l2 a1 a2 a3 (neqT hz2),a5⟩⟩
  ·have hp:gPre s nx op ct=((gBeg (pSync s (nmG op)).2 nx).1,(gBeg (pSync s (nmG op)).2 nx).2,nx,0,ct):=by unfold gPre;rw [if_pos hfull,if_neg he,if_pos hz]
   refine ⟨s4,(gBeg (pSync s (nmG op)).2 nx).2,.inl ?_,k14.f⟩
   rw [hp]
   exact ⟨hz,rfl,f16_FTTFTT h.l0 f1 (neqF rfl) w1.l2 (gtrT (by omega)) w1.l3 (eqlT (by omega)) r2 (neqF rfl) t3 w3.l2 (eqlT rfl) r4 (neqT hz),w4⟩
 by_cases h0:op=0
 ·subst h0
  obtain ⟨s2,r2,w2,k2⟩:=gbegin_ok w1 hgl1 hf.good.fu hn
  have k12:Rest st s2 [d,m,w]:=kf'.trans k2
  rcases w2 with ⟨hz,w2⟩|⟨hz,w2⟩
  ·have hp:gPre s nx 0 ct=(0,(gBeg s nx).2,nx+1,nx,0):=by unfold gPre;rw [if_neg hfull,if_pos rfl,if_neg (fun e=>e hz)]
   obtain ⟨sA,sB,s',a1,a2,a3,a4,a5,a6⟩:=gapp_tail w2 (hf.beg nx) hU (k2.gl.trans hgl1) ⟨hn.1,gbeg_le hz⟩ (hv1.rest k2 hlt) hcl hlt
   rw [hz] at r2
   by_cases hz2:appE (gBeg s nx).2 (nmG nx) (frameL data)=0
   ·obtain ⟨s7,b1,b2,b3⟩:=gapp_fin a5 (by omega)
    refine ⟨s7,s',.inr ?_,k12.f.trans (a6.trans (b3.f.weak (by simp)))⟩
    rw [hp]
    rw [hz2] at a3
    exact ⟨rfl,a4,.inr ⟨hz2,f16_FFTFF h.l0 f1 (neqF rfl) w1.l2 (gtrF (by omega)) w1.l2 (eqlT rfl) r2 (neqF rfl) w2.l2 a1 a2 a3 (neqF rfl) a5.l3 (add64 (by omega)) b1 b2.l2,b2⟩⟩
   ·refine ⟨sB,s',.inr ?_,k12.f.trans a6⟩
    rw [hp]
    exact ⟨rfl,a4,.inl ⟨hz2,f16_FFTFT h.l0 f1 (neqF rfl) w1.l2 (gtrF (by omega)) w1.l2 (eqlT rfl) r2 (neqF rfl) w2.l2 a1 a2 a3 (neqT hz2),a5⟩⟩
  ·have hp:gPre s nx 0 ct=((gBeg s nx).1,(gBeg s nx).2,nx,0,ct):=by unfold gPre;rw [if_neg hfull,if_pos rfl,if_pos hz]
   refine ⟨s2,(gBeg s nx).2,.inl ?_,k12.f⟩
   rw [hp]
   exact ⟨hz,rfl,f16_FFTT h.l0 f1 (neqF rfl) w1.l2 (gtrF (by omega)) w1.l2 (eqlT rfl) r2 (neqT hz),w2⟩
 ·have hp:gPre s nx op ct=(0,s,nx,op,ct):=by unfold gPre;rw [if_neg hfull,if_neg h0]
  obtain ⟨sA,sB,s',a1,a2,a3,a4,a5,a6⟩:=gapp_tail w1 hf hU hgl1 ⟨by omega,ho⟩ hv1 hcl hlt
  by_cases hz2:appE s (nmG op) (frameL data)=0
  ·obtain ⟨s7,b1,b2,b3⟩:=gapp_fin a5 (by omega)
   refine ⟨s7,s',.inr ?_,kf'.f.trans (a6.trans (b3.f.weak (by simp)))⟩
   rw [hp]
   rw [hz2] at a3
   exact ⟨rfl,a4,.inr ⟨hz2,f16_FTFFF h.l0 f1 (neqF rfl) w1.l2 (gtrT (by omega)) w1.l3 (eqlF (by omega)) w1.l2 (eqlF (by omega)) w1.l2 a1 a2 a3 (neqF rfl) a5.l3 (add64 (by omega)) b1 b2.l2,b2⟩⟩
  ·refine ⟨sB,s',.inr ?_,kf'.f.trans a6⟩
   rw [hp]
   exact ⟨rfl,a4,.inl ⟨hz2,f16_FTFFT h.l0 f1 (neqF rfl) w1.l2 (gtrT (by omega)) w1.l3 (eqlF (by omega)) w1.l2 (eqlF (by omega)) w1.l2 a1 a2 a3 (neqT hz2),a5⟩⟩
end
end
section
set_option maxRecDepth 100000
abbrev sL26:List Nat:= [2008,2014,2021,6006,6053,7009]
theorem f19_T_e(st:St)(v:Nat)(n8:Int):evC sL26 19 [(pt v)] st [.eff (i64 n8) id,.av TT]=some ((i64 0),st,[],[LI st v 2 n8∧st=st,Bt 3 .eql n8 0 TT]):=by kernel_rfl
theorem f19_T{st:St}{v:Nat}{n8:Int}(h1:LI st v 2 n8)(h2:Bt 3 .eql n8 0 TT):obC 19 [(pt v)] st (i64 0) st:=ACalls.run hE noOv_ok (f19_T_e st v n8) (kk ⟨h1,rfl⟩ (kk h2 Ob.ok_nil))
theorem f19_F_e(st s1 s2:St)(v p21:Nat)(n8 n14 n15b n23:Int)(w15a:ByteArray):evC sL26 19 [(pt v)] st [.eff (i64 n8) id,.av FF,.eff (i64 n14) id,.eff (.tup [(str w15a),(i64 n15b)]) (fun _=>s1),.eff (pt p21) id,.eff (i64 n23) (fun _=>s2)]=some ((i64 n23),s2,[],[LI st v 2 n8∧st=st,Bt 3 .eql n8 0 FF,LI st v 2 n14∧st=st,obC 6 [(i64 n14)] st (.tup [(str w15a),(i64 n15b)]) s1,loadA E0 s1 39 (pt v)=some (pt p21)∧s1=s1,obC 53 [(pt p21),(str w15a)] s1 (i64 n23) s2]):=by kernel_rfl
theorem f19_F{st s1 s2:St}{v p21:Nat}{n8 n14 n15b n23:Int}{w15a:ByteArray}(h1:LI st v 2 n8)(h2:Bt 3 .eql n8 0 FF)(h3:LI st v 2 n14)(h4:obC 6 [(i64 n14)] st (.tup [(str w15a),(i64 n15b)]) s1)(h5:loadA E0 s1 39 (pt v)=some (pt p21))(h6:obC 53 [(pt p21),(str w15a)] s1 (i64 n23) s2):obC 19 [(pt v)] st (i64 n23) s2:=ACalls.run hE noOv_ok (f19_F_e st s1 s2 v p21 n8 n14 n15b n23 w15a) (kk ⟨h1,rfl⟩ (kk h2 (kk ⟨h3,rfl⟩ (kk h4 (kk ⟨h5,rfl⟩ (kk h6 Ob.ok_nil))))))
abbrev sL27:List Nat:= [2023,2029,2043,2049,2058,2068,2077,2085,2092,2102,2109,5000,6006,6008,6019,6031,6033,7018,7024,7030,7035,7044,7054,7062,7078,7097,7103]
theorem f17_T_e(st s1:St)(v:Nat)(x v14a:AV)(n14b:Int):evC sL27 17 [(pt v),x] st [.eff (.tup [v14a,(i64 n14b)]) (fun _=>s1),.av TT]=some ((.tup [(i64 0),(i64 n14b)]),s1,[],[obC 8 [x] st (.tup [v14a,(i64 n14b)]) s1,Bt 3 .neq n14b 0 TT]):=by kernel_rfl
theorem f17_T{st s1:St}{v:Nat}{x v14a:AV}{n14b:Int}(h1:obC 8 [x] st (.tup [v14a,(i64 n14b)]) s1)(h2:Bt 3 .neq n14b 0 TT):obC 17 [(pt v),x] st (.tup [(i64 0),(i64 n14b)]) s1:=ACalls.run hE noOv_ok (f17_T_e st s1 v x v14a n14b) (kk h1 (kk h2 Ob.ok_nil))
theorem f17_FTTT_e(st s1 s2:St)(v:Nat)(x v14a:AV)(n14b n23 n29 n33:Int):evC sL27 17 [(pt v),x] st [.eff (.tup [v14a,(i64 n14b)]) (fun _=>s1),.av FF,.eff (i64 n23) id,.av TT,.eff (i64 n29) id,.av TT,.eff (i64 n33) (fun _=>s2),.av TT]=some ((.tup [(i64 0),(i64 n33)]),s2,[],[obC 8 [x] st (.tup [v14a,(i64 n14b)]) s1,Bt 3 .neq n14b 0 FF,LI s1 v 2 n23∧s1=s1,Bt 3 .gtr n23 0 TT,LI s1 v 3 n29∧s1=s1,Bt 3 .eql n29 8 TT,obC 19 [(pt v)] s1 (i64 n33) s2,Bt 3 .neq n33 0 TT]):=by kernel_rfl
theorem f17_FTTT{st s1 s2:St}{v:Nat}{x v14a:AV}{n14b n23 n29 n33:Int}(h1:obC 8 [x] st (.tup [v14a,(i64 n14b)]) s1)(h2:Bt 3 .neq n14b 0 FF)(h3:LI s1 v 2 n23)(h4:Bt 3 .gtr n23 0 TT)(h5:LI s1 v 3 n29)(h6:Bt 3 .eql n29 8 TT)(h7:obC 19 [(pt v)] s1 (i64 n33) s2)(h8:Bt 3 .neq n33 0 TT):obC 17 [(pt v),x] st (.tup [(i64 0),(i64 n33)]) s2:=ACalls.run hE noOv_ok (f17_FTTT_e st s1 s2 v x v14a n14b n23 n29 n33) (kk h1 (kk h2 (kk ⟨h3,rfl⟩ (kk h4 (kk ⟨h5,rfl⟩ (kk h6 (kk h7 (kk h8 Ob.ok_nil))))))))
theorem f17_FTTFTT_e(st s1 s2 s3 s4:St)(v:Nat)(x v14a:AV)(n14b n23 n29 n33 n43 n49 n50b:Int)(w50a:ByteArray):evC sL27 17 [(pt v),x] st [.eff (.tup [v14a,(i64 n14b)]) (fun _=>s1),.av FF,.eff (i64 n23) id,.av TT,.eff (i64 n29) id,.av TT,.eff (i64 n33) (fun _=>s2),.av FF,.eff .undef (fun _=>s3),.eff (i64 n43) id,.av TT,.eff (i64 n49) id,.eff (.tup [(str w50a),(i64 n50b)]) (fun _=>s4),.av TT]=some ((.tup [(i64 0),(i64 7)]),s4,[],[obC 8 [x] st (.tup [v14a,(i64 n14b)]) s1,Bt 3 .neq n14b 0 FF,LI s1 v 2 n23∧s1=s1,Bt 3 .gtr n23 0 TT,LI s1 v 3 n29∧s1=s1,Bt 3 .eql n29 8 TT,obC 19 [(pt v)] s1 (i64 n33) s2,Bt 3 .neq n33 0 FF,storeA E0 s2 3 (.ptr v 2) (i64 0)=some s3,LI s3 v 2 n43∧s3=s3,Bt 3 .eql n43 0 TT,LI s3 v 1 n49∧s3=s3,obC 6 [(i64 n49)] s3 (.tup [(str w50a),(i64 n50b)]) s4,Bt 3 .neq n50b 0 TT]):=by kernel_rfl
theorem f17_FTTFTT{st s1 s2 s3 s4:St}{v:Nat}{x v14a:AV}{n14b n23 n29 n33 n43 n49 n50b:Int}{w50a:ByteArray}(h1:obC 8 [x] st (.tup [v14a,(i64 n14b)]) s1)(h2:Bt 3 .neq n14b 0 FF)(h3:LI s1 v 2 n23)(h4:Bt 3 .gtr n23 0 TT)(h5:LI s1 v 3 n29)(h6:Bt 3 .eql n29 8 TT)(h7:obC 19 [(pt v)] s1 (i64 n33) s2)(h8:Bt 3 .neq n33 0 FF)(h9:storeA E0 s2 3 (.ptr v 2) (i64 0)=some s3)(h10:LI s3 v 2 n43)(h11:Bt 3 .eql n43 0 TT)(h12:LI s3 v 1 n49)(h13:obC 6 [(i64 n49)] s3 (.tup [(str w50a),(i64 n50b)]) s4)(h14:Bt 3 .neq n50b 0 TT):obC 17 [(pt v),x] st (.tup [(i64 0),(i64 7)]) s4:=ACalls.run hE noOv_ok (f17_FTTFTT_e st s1 s2 s3 s4 v x v14a n14b n23 n29 n33 n43 n49 n50b w50a) (kk h1 (kk h2 (kk ⟨h3,rfl⟩ (kk h4 (kk ⟨h5,rfl⟩ (kk h6 (kk h7 (kk h8 (kk h9 (kk ⟨h10,rfl⟩ (kk h11 (kk ⟨h12,rfl⟩ (kk h13 (kk h14 Ob.ok_nil))))))))))))))
theorem f17_FTTFTFT_e(st s1 s2 s3 s4 s5:St)(v p58:Nat)(x v14a:AV)(n14b n23 n29 n33 n43 n49 n50b n60:Int)(w50a:ByteArray):evC sL27 17 [(pt v),x] st [.eff (.tup [v14a,(i64 n14b)]) (fun _=>s1),.av FF,.eff (i64 n23) id,.av TT,.eff (i64 n29) id,.av TT,.eff (i64 n33) (fun _=>s2),.av FF,.eff .undef (fun _=>s3),.eff (i64 n43) id,.av TT,.eff (i64 n49) id,.eff (.tup [(str w50a),(i64 n50b)]) (fun _=>s4),.av FF,.eff (pt p58) id,.eff (i64 n60) (fun _=>s5),.av TT]=some ((.tup [(i64 0),(i64 n60)]),s5,[],[obC 8 [x] st (.tup [v14a,(i64 n14b)]) s1,Bt 3 .neq n14b 0 FF,LI s1 v 2 n23∧s1=s1,Bt 3 .gtr n23 0 TT,LI s1 v 3 n29∧s1=s1,Bt 3 .eql n29 8 TT,obC 19 [(pt v)] s1 (i64 n33) s2,Bt 3 .neq n33 0 FF,storeA E0 s2 3 (.ptr v 2) (i64 0)=some s3,LI s3 v 2 n43∧s3=s3,Bt 3 .eql n43 0 TT,LI s3 v 1 n49∧s3=s3,obC 6 [(i64 n49)] s3 (.tup [(str w50a),(i64 n50b)]) s4,Bt 3 .neq n50b 0 FF,loadA E0 s4 39 (pt v)=some (pt p58)∧s4=s4,obC 31 [(pt p58),(str w50a)] s4 (i64 n60) s5,Bt 3 .neq n60 0 TT]):=by kernel_rfl
theorem f17_FTTFTFT{st s1 s2 s3 s4 s5:St}{v p58:Nat}{x v14a:AV}{n14b n23 n29 n33 n43 n49 n50b n60:Int}{w50a:ByteArray}(h1:obC 8 [x] st (.tup [v14a,(i64 n14b)]) s1)(h2:Bt 3 .neq n14b 0 FF)(h3:LI s1 v 2 n23)(h4:Bt 3 .gtr n23 0 TT)(h5:LI s1 v 3 n29)(h6:Bt 3 .eql n29 8 TT)(h7:obC 19 [(pt v)] s1 (i64 n33) s2)(h8:Bt 3 .neq n33 0 FF)(h9:storeA E0 s2 3 (.ptr v 2) (i64 0)=some s3)(h10:LI s3 v 2 n43)(h11:Bt 3 .eql n43 0 TT)(h12:LI s3 v 1 n49)(h13:obC 6 [(i64 n49)] s3 (.tup [(str w50a),(i64 n50b)]) s4)(h14:Bt 3 .neq n50b 0 FF)(h15:loadA E0 s4 39 (pt v)=some (pt p58))(h16:obC 31 [(pt p58),(str w50a)] s4 (i64 n60) s5)(h17:Bt 3 .neq n60 0 TT):obC 17 [(pt v),x] st (.tup [(i64 0),(i64 n60)]) s5:=ACalls.run hE noOv_ok (f17_FTTFTFT_e st s1 s2 s3 s4 s5 v p58 x v14a n14b n23 n29 n33 n43 n49 n50b n60 w50a) (kk h1 (kk h2 (kk ⟨h3,rfl⟩ (kk h4 (kk ⟨h5,rfl⟩ (kk h6 (kk h7 (kk h8 (kk h9 (kk ⟨h10,rfl⟩ (kk h11 (kk ⟨h12,rfl⟩ (kk h13 (kk h14 (kk ⟨h15,rfl⟩ (kk h16 (kk h17 Ob.ok_nil)))))))))))))))))
theorem f17_FTTFTFFT_e(st s1 s2 s3 s4 s5 s6 s7 s8 s9 s10:St)(v p58 p92:Nat)(x v14a:AV)(n14b n23 n29 n33 n43 n49 n50b n60 n68 n77 n78 n85 n86b n95:Int)(w50a w86a:ByteArray):evC sL27 17 [(pt v),x] st [.eff (.tup [v14a,(i64 n14b)]) (fun _=>s1),.av FF,.eff (i64 n23) id,.av TT,.eff (i64 n29) id,.av TT,.eff (i64 n33) (fun _=>s2),.av FF,.eff .undef (fun _=>s3),.eff (i64 n43) id,.av TT,.eff (i64 n49) id,.eff (.tup [(str w50a),(i64 n50b)]) (fun _=>s4),.av FF,.eff (pt p58) id,.eff (i64 n60) (fun _=>s5),.av FF,.eff (i64 n68) id,.eff .undef (fun _=>s6),.eff .undef (fun _=>s7),.eff (i64 n77) id,.av (i64 n78),.eff .undef (fun _=>s8),.eff (i64 n85) id,.eff (.tup [(str w86a),(i64 n86b)]) (fun _=>s9),.eff (pt p92) id,.eff (i64 n95) (fun _=>s10),.av TT]=some ((.tup [(i64 0),(i64 n95)]),s10,[],[obC 8 [x] st (.tup [v14a,(i64 n14b)]) s1,Bt 3 .neq n14b 0 FF,LI s1 v 2 n23∧s1=s1,Bt 3 .gtr n23 0 TT,LI s1 v 3 n29∧s1=s1,Bt 3 .eql n29 8 TT,obC 19 [(pt v)] s1 (i64 n33) s2,Bt 3 .neq n33 0 FF,storeA E0 s2 3 (.ptr v 2) (i64 0)=some s3,LI s3 v 2 n43∧s3=s3,Bt 3 .eql n43 0 TT,LI s3 v 1 n49∧s3=s3,obC 6 [(i64 n49)] s3 (.tup [(str w50a),(i64 n50b)]) s4,Bt 3 .neq n50b 0 FF,loadA E0 s4 39 (pt v)=some (pt p58)∧s4=s4,obC 31 [(pt p58),(str w50a)] s4 (i64 n60) s5,Bt 3 .neq n60 0 FF,LI s5 v 1 n68∧s5=s5,storeA E0 s5 3 (.ptr v 2) (i64 n68)=some s6,storeA E0 s6 3 (.ptr v 3) (i64 0)=some s7,LI s7 v 1 n77∧s7=s7,Bt 3 .add n77 1 (i64 n78),storeA E0 s7 3 (.ptr v 1) (i64 n78)=some s8,LI s8 v 2 n85∧s8=s8,obC 6 [(i64 n85)] s8 (.tup [(str w86a),(i64 n86b)]) s9,loadA E0 s9 39 (pt v)=some (pt p92)∧s9=s9,obC 33 [(pt p92),(str w86a),v14a] s9 (i64 n95) s10,Bt 3 .neq n95 0 TT]):=by kernel_rfl
theorem f17_FTTFTFFT{st s1 s2 s3 s4 s5 s6 s7 s8 s9 s10:St}{v p58 p92:Nat}{x v14a:AV}{n14b n23 n29 n33 n43 n49 n50b n60 n68 n77 n78 n85 n86b n95:Int}{w50a w86a:ByteArray}(h1:obC 8 [x] st (.tup [v14a,(i64 n14b)]) s1)(h2:Bt 3 .neq n14b 0 FF)(h3:LI s1 v 2 n23)(h4:Bt 3 .gtr n23 0 TT)(h5:LI s1 v 3 n29)(h6:Bt 3 .eql n29 8 TT)(h7:obC 19 [(pt v)] s1 (i64 n33) s2)(h8:Bt 3 .neq n33 0 FF)(h9:storeA E0 s2 3 (.ptr v 2) (i64 0)=some s3)(h10:LI s3 v 2 n43)(h11:Bt 3 .eql n43 0 TT)(h12:LI s3 v 1 n49)(h13:obC 6 [(i64 n49)] s3 (.tup [(str w50a),(i64 n50b)]) s4)(h14:Bt 3 .neq n50b 0 FF)(h15:loadA E0 s4 39 (pt v)=some (pt p58))(h16:obC 31 [(pt p58),(str w50a)] s4 (i64 n60) s5)(h17:Bt 3 .neq n60 0 FF)(h18:LI s5 v 1 n68)(h19:storeA E0 s5 3 (.ptr v 2) (i64 n68)=some s6)(h20:storeA E0 s6 3 (.ptr v 3) (i64 0)=some s7)(h21:LI s7 v 1 n77)(h22:Bt 3 .add n77 1 (i64 n78))(h23:storeA E0 s7 3 (.ptr v 1) (i64 n78)=some s8)(h24:LI s8 v 2 n85)(h25:obC 6 [(i64 n85)] s8 (.tup [(str w86a),(i64 n86b)]) s9)(h26:loadA E0 s9 39 (pt v)=some (pt p92))(h27:obC 33 [(pt p92),(str w86a),v14a] s9 (i64 n95) s10)(h28:Bt 3 .neq n95 0 TT):obC 17 [(pt v),x] st (.tup [(i64 0),(i64 n95)]) s10:=ACalls.run hE noOv_ok (f17_FTTFTFFT_e st s1 s2 s3 s4 s5 s6 s7 s8 s9 s10 v p58 p92 x v14a n14b n23 n29 n33 n43 n49 n50b n60 n68 n77 n78 n85 n86b n95 w50a w86a) (kk h1 (kk h2 (kk ⟨h3,rfl⟩ (kk h4 (kk ⟨h5,rfl⟩ (kk h6 (kk h7 (kk h8 (kk h9 (kk ⟨h10,rfl⟩ (kk h11 (kk ⟨h12,rfl⟩ (kk h13 (kk h14 (kk ⟨h15,rfl⟩ (kk h16 (kk h17 (kk ⟨h18,rfl⟩ (kk h19 (kk h20 (kk ⟨h21,rfl⟩ (kk h22 (kk h23 (kk ⟨h24,rfl⟩ (kk h25 (kk ⟨h26,rfl⟩ (kk h27 (kk h28 Ob.ok_nil))))))))))))))))))))))))))))
theorem f17_FTTFTFFF_e(st s1 s2 s3 s4 s5 s6 s7 s8 s9 s10 s11:St)(v p58 p92:Nat)(x v14a:AV)(n14b n23 n29 n33 n43 n49 n50b n60 n68 n77 n78 n85 n86b n95 n102 n103 n109:Int)(w50a w86a:ByteArray):evC sL27 17 [(pt v),x] st [.eff (.tup [v14a,(i64 n14b)]) (fun _=>s1),.av FF,.eff (i64 n23) id,.av TT,.eff (i64 n29) id,.av TT,.eff (i64 n33) (fun _=>s2),.av FF,.eff .undef (fun _=>s3),.eff (i64 n43) id,.av TT,.eff (i64 n49) id,.eff (.tup [(str w50a),(i64 n50b)]) (fun _=>s4),.av FF,.eff (pt p58) id,.eff (i64 n60) (fun _=>s5),.av FF,.eff (i64 n68) id,.eff .undef (fun _=>s6),.eff .undef (fun _=>s7),.eff (i64 n77) id,.av (i64 n78),.eff .undef (fun _=>s8),.eff (i64 n85) id,.eff (.tup [(str w86a),(i64 n86b)]) (fun _=>s9),.eff (pt p92) id,.eff (i64 n95) (fun _=>s10),.av FF,.eff (i64 n102) id,.av (i64 n103),.eff .undef (fun _=>s11),.eff (i64 n109) id]=some ((.tup [(i64 n109),(i64 0)]),s11,[],[obC 8 [x] st (.tup [v14a,(i64 n14b)]) s1,Bt 3 .neq n14b 0 FF,LI s1 v 2 n23∧s1=s1,Bt 3 .gtr n23 0 TT,LI s1 v 3 n29∧s1=s1,Bt 3 .eql n29 8 TT,obC 19 [(pt v)] s1 (i64 n33) s2,Bt 3 .neq n33 0 FF,storeA E0 s2 3 (.ptr v 2) (i64 0)=some s3,LI s3 v 2 n43∧s3=s3,Bt 3 .eql n43 0 TT,LI s3 v 1 n49∧s3=s3,obC 6 [(i64 n49)] s3 (.tup [(str w50a),(i64 n50b)]) s4,Bt 3 .neq n50b 0 FF,loadA E0 s4 39 (pt v)=some (pt p58)∧s4=s4,obC 31 [(pt p58),(str w50a)] s4 (i64 n60) s5,Bt 3 .neq n60 0 FF,LI s5 v 1 n68∧s5=s5,storeA E0 s5 3 (.ptr v 2) (i64 n68)=some s6,storeA E0 s6 3 (.ptr v 3) (i64 0)=some s7,LI s7 v 1 n77∧s7=s7,Bt 3 .add n77 1 (i64 n78),storeA E0 s7 3 (.ptr v 1) (i64 n78)=some s8,LI s8 v 2 n85∧s8=s8,obC 6 [(i64 n85)] s8 (.tup [(str w86a),(i64 n86b)]) s9,loadA E0 s9 39 (pt v)=some (pt p92)∧s9=s9,obC 33 [(pt p92),(str w86a),v14a] s9 (i64 n95) s10,Bt 3 .neq n95 0 FF,LI s10 v 3 n102∧s10=s10,Bt 3 .add n102 1 (i64 n103),storeA E0 s10 3 (.ptr v 3) (i64 n103)=some s11,LI s11 v 2 n109∧s11=s11]):=by kernel_rfl
theorem f17_FTTFTFFF{st s1 s2 s3 s4 s5 s6 s7 s8 s9 s10 s11:St}{v p58 p92:Nat}{x v14a:AV}{n14b n23 n29 n33 n43 n49 n50b n60 n68 n77 n78 n85 n86b n95 n102 n103 n109:Int}{w50a w86a:ByteArray}(h1:obC 8 [x] st (.tup [v14a,(i64 n14b)]) s1)(h2:Bt 3 .neq n14b 0 FF)(h3:LI s1 v 2 n23)(h4:Bt 3 .gtr n23 0 TT)(h5:LI s1 v 3 n29)(h6:Bt 3 .eql n29 8 TT)(h7:obC 19 [(pt v)] s1 (i64 n33) s2)(h8:Bt 3 .neq n33 0 FF)(h9:storeA E0 s2 3 (.ptr v 2) (i64 0)=some s3)(h10:LI s3 v 2 n43)(h11:Bt 3 .eql n43 0 TT)(h12:LI s3 v 1 n49)(h13:obC 6 [(i64 n49)] s3 (.tup [(str w50a),(i64 n50b)]) s4)(h14:Bt 3 .neq n50b 0 FF)(h15:loadA E0 s4 39 (pt v)=some (pt p58))(h16:obC 31 [(pt p58),(str w50a)] s4 (i64 n60) s5)(h17:Bt 3 .neq n60 0 FF)(h18:LI s5 v 1 n68)(h19:storeA E0 s5 3 (.ptr v 2) (i64 n68)=some s6)(h20:storeA E0 s6 3 (.ptr v 3) (i64 0)=some s7)(h21:LI s7 v 1 n77)(h22:Bt 3 .add n77 1 (i64 n78))(h23:storeA E0 s7 3 (.ptr v 1) (i64 n78)=some s8)(h24:LI s8 v 2 n85)(h25:obC 6 [(i64 n85)] s8 (.tup [(str w86a),(i64 n86b)]) s9)(h26:loadA E0 s9 39 (pt v)=some (pt p92))(h27:obC 33 [(pt p92),(str w86a),v14a] s9 (i64 n95) s10)(h28:Bt 3 .neq n95 0 FF)(h29:LI s10 v 3 n102)(h30:Bt 3 .add n102 1 (i64 n103))(h31:storeA E0 s10 3 (.ptr v 3) (i64 n103)=some s11)(h32:LI s11 v 2 n109):obC 17 [(pt v),x] st (.tup [(i64 n109),(i64 0)]) s11:=ACalls.run hE noOv_ok (f17_FTTFTFFF_e st s1 s2 s3 s4 s5 s6 s7 s8 s9 s10 s11 v p58 p92 x v14a n14b n23 n29 n33 n43 n49 n50b n60 n68 n77 n78 n85 n86b n95 n102 n103 n109 w50a w86a) (kk h1 (kk h2 (kk ⟨h3,rfl⟩ (kk h4 (kk ⟨h5,rfl⟩ (kk h6 (kk h7 (kk h8 (kk h9 (kk ⟨h10,rfl⟩ (kk h11 (kk ⟨h12,rfl⟩ (kk h13 (kk h14 (kk ⟨h15,rfl⟩ (kk h16 (kk h17 (kk ⟨h18,rfl⟩ (kk h19 (kk h20 (kk ⟨h21,rfl⟩ (kk h22 (kk h23 (kk ⟨h24,rfl⟩ (kk h25 (kk ⟨h26,rfl⟩ (kk h27 (kk h28 (kk ⟨h29,rfl⟩ (kk h30 (kk h31 (kk ⟨h32,rfl⟩ Ob.ok_nil))))))))))))))))))))))))))))))))
theorem f17_FTFFT_e(st s1 s2 s3:St)(v p92:Nat)(x v14a:AV)(n14b n23 n29 n43 n85 n86b n95:Int)(w86a:ByteArray):evC sL27 17 [(pt v),x] st [.eff (.tup [v14a,(i64 n14b)]) (fun _=>s1),.av FF,.eff (i64 n23) id,.av TT,.eff (i64 n29) id,.av FF,.eff (i64 n43) id,.av FF,.eff (i64 n85) id,.eff (.tup [(str w86a),(i64 n86b)]) (fun _=>s2),.eff (pt p92) id,.eff (i64 n95) (fun _=>s3),.av TT]=some ((.tup [(i64 0),(i64 n95)]),s3,[],[obC 8 [x] st (.tup [v14a,(i64 n14b)]) s1,Bt 3 .neq n14b 0 FF,LI s1 v 2 n23∧s1=s1,Bt 3 .gtr n23 0 TT,LI s1 v 3 n29∧s1=s1,Bt 3 .eql n29 8 FF,LI s1 v 2 n43∧s1=s1,Bt 3 .eql n43 0 FF,LI s1 v 2 n85∧s1=s1,obC 6 [(i64 n85)] s1 (.tup [(str w86a),(i64 n86b)]) s2,loadA E0 s2 39 (pt v)=some (pt p92)∧s2=s2,obC 33 [(pt p92),(str w86a),v14a] s2 (i64 n95) s3,Bt 3 .neq n95 0 TT]):=by kernel_rfl
theorem f17_FTFFT{st s1 s2 s3:St}{v p92:Nat}{x v14a:AV}{n14b n23 n29 n43 n85 n86b n95:Int}{w86a:ByteArray}(h1:obC 8 [x] st (.tup [v14a,(i64 n14b)]) s1)(h2:Bt 3 .neq n14b 0 FF)(h3:LI s1 v 2 n23)(h4:Bt 3 .gtr n23 0 TT)(h5:LI s1 v 3 n29)(h6:Bt 3 .eql n29 8 FF)(h7:LI s1 v 2 n43)(h8:Bt 3 .eql n43 0 FF)(h9:LI s1 v 2 n85)(h10:obC 6 [(i64 n85)] s1 (.tup [(str w86a),(i64 n86b)]) s2)(h11:loadA E0 s2 39 (pt v)=some (pt p92))(h12:obC 33 [(pt p92),(str w86a),v14a] s2 (i64 n95) s3)(h13:Bt 3 .neq n95 0 TT):obC 17 [(pt v),x] st (.tup [(i64 0),(i64 n95)]) s3:=ACalls.run hE noOv_ok (f17_FTFFT_e st s1 s2 s3 v p92 x v14a n14b n23 n29 n43 n85 n86b n95 w86a) (kk h1 (kk h2 (kk ⟨h3,rfl⟩ (kk h4 (kk ⟨h5,rfl⟩ (kk h6 (kk ⟨h7,rfl⟩ (kk h8 (kk ⟨h9,rfl⟩ (kk h10 (kk ⟨h11,rfl⟩ (kk h12 (kk h13 Ob.ok_nil)))))))))))))
theorem f17_FTFFF_e(st s1 s2 s3 s4:St)(v p92:Nat)(x v14a:AV)(n14b n23 n29 n43 n85 n86b n95 n102 n103 n109:Int)(w86a:ByteArray):evC sL27 17 [(pt v),x] st [.eff (.tup [v14a,(i64 n14b)]) (fun _=>s1),.av FF,.eff (i64 n23) id,.av TT,.eff (i64 n29) id,.av FF,.eff (i64 n43) id,.av FF,.eff (i64 n85) id,.eff (.tup [(str w86a),(i64 n86b)]) (fun _=>s2),.eff (pt p92) id,.eff (i64 n95) (fun _=>s3),.av FF,.eff (i64 n102) id,.av (i64 n103),.eff .undef (fun _=>s4),.eff (i64 n109) id]=some ((.tup [(i64 n109),(i64 0)]),s4,[],[obC 8 [x] st (.tup [v14a,(i64 n14b)]) s1,Bt 3 .neq n14b 0 FF,LI s1 v 2 n23∧s1=s1,Bt 3 .gtr n23 0 TT,LI s1 v 3 n29∧s1=s1,Bt 3 .eql n29 8 FF,LI s1 v 2 n43∧s1=s1,Bt 3 .eql n43 0 FF,LI s1 v 2 n85∧s1=s1,obC 6 [(i64 n85)] s1 (.tup [(str w86a),(i64 n86b)]) s2,loadA E0 s2 39 (pt v)=some (pt p92)∧s2=s2,obC 33 [(pt p92),(str w86a),v14a] s2 (i64 n95) s3,Bt 3 .neq n95 0 FF,LI s3 v 3 n102∧s3=s3,Bt 3 .add n102 1 (i64 n103),storeA E0 s3 3 (.ptr v 3) (i64 n103)=some s4,LI s4 v 2 n109∧s4=s4]):=by kernel_rfl
theorem f17_FTFFF{st s1 s2 s3 s4:St}{v p92:Nat}{x v14a:AV}{n14b n23 n29 n43 n85 n86b n95 n102 n103 n109:Int}{w86a:ByteArray}(h1:obC 8 [x] st (.tup [v14a,(i64 n14b)]) s1)(h2:Bt 3 .neq n14b 0 FF)(h3:LI s1 v 2 n23)(h4:Bt 3 .gtr n23 0 TT)(h5:LI s1 v 3 n29)(h6:Bt 3 .eql n29 8 FF)(h7:LI s1 v 2 n43)(h8:Bt 3 .eql n43 0 FF)(h9:LI s1 v 2 n85)(h10:obC 6 [(i64 n85)] s1 (.tup [(str w86a),(i64 n86b)]) s2)(h11:loadA E0 s2 39 (pt v)=some (pt p92))(h12:obC 33 [(pt p92),(str w86a),v14a] s2 (i64 n95) s3)(h13:Bt 3 .neq n95 0 FF)(h14:LI s3 v 3 n102)(h15:Bt 3 .add n102 1 (i64 n103))(h16:storeA E0 s3 3 (.ptr v 3) (i64 n103)=some s4)(h17:LI s4 v 2 n109):obC 17 [(pt v),x] st (.tup [(i64 n109),(i64 0)]) s4:=ACalls.run hE noOv_ok (f17_FTFFF_e st s1 s2 s3 s4 v p92 x v14a n14b n23 n29 n43 n85 n86b n95 n102 n103 n109 w86a) (kk h1 (kk h2 (kk ⟨h3,rfl⟩ (kk h4 (kk ⟨h5,rfl⟩ (kk h6 (kk ⟨h7,rfl⟩ (kk h8 (kk ⟨h9,rfl⟩ (kk h10 (kk ⟨h11,rfl⟩ (kk h12 (kk h13 (kk ⟨h14,rfl⟩ (kk h15 (kk h16 (kk ⟨h17,rfl⟩ Ob.ok_nil)))))))))))))))))
theorem f17_FFTT_e(st s1 s2:St)(v:Nat)(x v14a:AV)(n14b n23 n43 n49 n50b:Int)(w50a:ByteArray):evC sL27 17 [(pt v),x] st [.eff (.tup [v14a,(i64 n14b)]) (fun _=>s1),.av FF,.eff (i64 n23) id,.av FF,.eff (i64 n43) id,.av TT,.eff (i64 n49) id,.eff (.tup [(str w50a),(i64 n50b)]) (fun _=>s2),.av TT]=some ((.tup [(i64 0),(i64 7)]),s2,[],[obC 8 [x] st (.tup [v14a,(i64 n14b)]) s1,Bt 3 .neq n14b 0 FF,LI s1 v 2 n23∧s1=s1,Bt 3 .gtr n23 0 FF,LI s1 v 2 n43∧s1=s1,Bt 3 .eql n43 0 TT,LI s1 v 1 n49∧s1=s1,obC 6 [(i64 n49)] s1 (.tup [(str w50a),(i64 n50b)]) s2,Bt 3 .neq n50b 0 TT]):=by kernel_rfl
theorem f17_FFTT{st s1 s2:St}{v:Nat}{x v14a:AV}{n14b n23 n43 n49 n50b:Int}{w50a:ByteArray}(h1:obC 8 [x] st (.tup [v14a,(i64 n14b)]) s1)(h2:Bt 3 .neq n14b 0 FF)(h3:LI s1 v 2 n23)(h4:Bt 3 .gtr n23 0 FF)(h5:LI s1 v 2 n43)(h6:Bt 3 .eql n43 0 TT)(h7:LI s1 v 1 n49)(h8:obC 6 [(i64 n49)] s1 (.tup [(str w50a),(i64 n50b)]) s2)(h9:Bt 3 .neq n50b 0 TT):obC 17 [(pt v),x] st (.tup [(i64 0),(i64 7)]) s2:=ACalls.run hE noOv_ok (f17_FFTT_e st s1 s2 v x v14a n14b n23 n43 n49 n50b w50a) (kk h1 (kk h2 (kk ⟨h3,rfl⟩ (kk h4 (kk ⟨h5,rfl⟩ (kk h6 (kk ⟨h7,rfl⟩ (kk h8 (kk h9 Ob.ok_nil)))))))))
theorem f17_FFTFT_e(st s1 s2 s3:St)(v p58:Nat)(x v14a:AV)(n14b n23 n43 n49 n50b n60:Int)(w50a:ByteArray):evC sL27 17 [(pt v),x] st [.eff (.tup [v14a,(i64 n14b)]) (fun _=>s1),.av FF,.eff (i64 n23) id,.av FF,.eff (i64 n43) id,.av TT,.eff (i64 n49) id,.eff (.tup [(str w50a),(i64 n50b)]) (fun _=>s2),.av FF,.eff (pt p58) id,.eff (i64 n60) (fun _=>s3),.av TT]=some ((.tup [(i64 0),(i64 n60)]),s3,[],[obC 8 [x] st (.tup [v14a,(i64 n14b)]) s1,Bt 3 .neq n14b 0 FF,LI s1 v 2 n23∧s1=s1,Bt 3 .gtr n23 0 FF,LI s1 v 2 n43∧s1=s1,Bt 3 .eql n43 0 TT,LI s1 v 1 n49∧s1=s1,obC 6 [(i64 n49)] s1 (.tup [(str w50a),(i64 n50b)]) s2,Bt 3 .neq n50b 0 FF,loadA E0 s2 39 (pt v)=some (pt p58)∧s2=s2,obC 31 [(pt p58),(str w50a)] s2 (i64 n60) s3,Bt 3 .neq n60 0 TT]):=by kernel_rfl
theorem f17_FFTFT{st s1 s2 s3:St}{v p58:Nat}{x v14a:AV}{n14b n23 n43 n49 n50b n60:Int}{w50a:ByteArray}(h1:obC 8 [x] st (.tup [v14a,(i64 n14b)]) s1)(h2:Bt 3 .neq n14b 0 FF)(h3:LI s1 v 2 n23)(h4:Bt 3 .gtr n23 0 FF)(h5:LI s1 v 2 n43)(h6:Bt 3 .eql n43 0 TT)(h7:LI s1 v 1 n49)(h8:obC 6 [(i64 n49)] s1 (.tup [(str w50a),(i64 n50b)]) s2)(h9:Bt 3 .neq n50b 0 FF)(h10:loadA E0 s2 39 (pt v)=some (pt p58))(h11:obC 31 [(pt p58),(str w50a)] s2 (i64 n60) s3)(h12:Bt 3 .neq n60 0 TT):obC 17 [(pt v),x] st (.tup [(i64 0),(i64 n60)]) s3:=ACalls.run hE noOv_ok (f17_FFTFT_e st s1 s2 s3 v p58 x v14a n14b n23 n43 n49 n50b n60 w50a) (kk h1 (kk h2 (kk ⟨h3,rfl⟩ (kk h4 (kk ⟨h5,rfl⟩ (kk h6 (kk ⟨h7,rfl⟩ (kk h8 (kk h9 (kk ⟨h10,rfl⟩ (kk h11 (kk h12 Ob.ok_nil))))))))))))
theorem f17_FFTFFT_e(st s1 s2 s3 s4 s5 s6 s7 s8:St)(v p58 p92:Nat)(x v14a:AV)(n14b n23 n43 n49 n50b n60 n68 n77 n78 n85 n86b n95:Int)(w50a w86a:ByteArray):evC sL27 17 [(pt v),x] st [.eff (.tup [v14a,(i64 n14b)]) (fun _=>s1),.av FF,.eff (i64 n23) id,.av FF,.eff (i64 n43) id,.av TT,.eff (i64 n49) id,.eff (.tup [(str w50a),(i64 n50b)]) (fun _=>s2),.av FF,.eff (pt p58) id,.eff (i64 n60) (fun _=>s3),.av FF,.eff (i64 n68) id,.eff .undef (fun _=>s4),.eff .undef (fun _=>s5),.eff (i64 n77) id,.av (i64 n78),.eff .undef (fun _=>s6),.eff (i64 n85) id,.eff (.tup [(str w86a),(i64 n86b)]) (fun _=>s7),.eff (pt p92) id,.eff (i64 n95) (fun _=>s8),.av TT]=some ((.tup [(i64 0),(i64 n95)]),s8,[],[obC 8 [x] st (.tup [v14a,(i64 n14b)]) s1,Bt 3 .neq n14b 0 FF,LI s1 v 2 n23∧s1=s1,Bt 3 .gtr n23 0 FF,LI s1 v 2 n43∧s1=s1,Bt 3 .eql n43 0 TT,LI s1 v 1 n49∧s1=s1,obC 6 [(i64 n49)] s1 (.tup [(str w50a),(i64 n50b)]) s2,Bt 3 .neq n50b 0 FF,loadA E0 s2 39 (pt v)=some (pt p58)∧s2=s2,obC 31 [(pt p58),(str w50a)] s2 (i64 n60) s3,Bt 3 .neq n60 0 FF,LI s3 v 1 n68∧s3=s3,storeA E0 s3 3 (.ptr v 2) (i64 n68)=some s4,storeA E0 s4 3 (.ptr v 3) (i64 0)=some s5,LI s5 v 1 n77∧s5=s5,Bt 3 .add n77 1 (i64 n78),storeA E0 s5 3 (.ptr v 1) (i64 n78)=some s6,LI s6 v 2 n85∧s6=s6,obC 6 [(i64 n85)] s6 (.tup [(str w86a),(i64 n86b)]) s7,loadA E0 s7 39 (pt v)=some (pt p92)∧s7=s7,obC 33 [(pt p92),(str w86a),v14a] s7 (i64 n95) s8,Bt 3 .neq n95 0 TT]):=by kernel_rfl
theorem f17_FFTFFT{st s1 s2 s3 s4 s5 s6 s7 s8:St}{v p58 p92:Nat}{x v14a:AV}{n14b n23 n43 n49 n50b n60 n68 n77 n78 n85 n86b n95:Int}{w50a w86a:ByteArray}(h1:obC 8 [x] st (.tup [v14a,(i64 n14b)]) s1)(h2:Bt 3 .neq n14b 0 FF)(h3:LI s1 v 2 n23)(h4:Bt 3 .gtr n23 0 FF)(h5:LI s1 v 2 n43)(h6:Bt 3 .eql n43 0 TT)(h7:LI s1 v 1 n49)(h8:obC 6 [(i64 n49)] s1 (.tup [(str w50a),(i64 n50b)]) s2)(h9:Bt 3 .neq n50b 0 FF)(h10:loadA E0 s2 39 (pt v)=some (pt p58))(h11:obC 31 [(pt p58),(str w50a)] s2 (i64 n60) s3)(h12:Bt 3 .neq n60 0 FF)(h13:LI s3 v 1 n68)(h14:storeA E0 s3 3 (.ptr v 2) (i64 n68)=some s4)(h15:storeA E0 s4 3 (.ptr v 3) (i64 0)=some s5)(h16:LI s5 v 1 n77)(h17:Bt 3 .add n77 1 (i64 n78))(h18:storeA E0 s5 3 (.ptr v 1) (i64 n78)=some s6)(h19:LI s6 v 2 n85)(h20:obC 6 [(i64 n85)] s6 (.tup [(str w86a),(i64 n86b)]) s7)(h21:loadA E0 s7 39 (pt v)=some (pt p92))(h22:obC 33 [(pt p92),(str w86a),v14a] s7 (i64 n95) s8)(h23:Bt 3 .neq n95 0 TT):obC 17 [(pt v),x] st (.tup [(i64 0),(i64 n95)]) s8:=ACalls.run hE noOv_ok (f17_FFTFFT_e st s1 s2 s3 s4 s5 s6 s7 s8 v p58 p92 x v14a n14b n23 n43 n49 n50b n60 n68 n77 n78 n85 n86b n95 w50a w86a) (kk h1 (kk h2 (kk ⟨h3,rfl⟩ (kk h4 (kk ⟨h5,rfl⟩ (kk h6 (kk ⟨h7,rfl⟩ (kk h8 (kk h9 (kk ⟨h10,rfl⟩ (kk h11 (kk h12 (kk ⟨h13,rfl⟩ (kk h14 (kk h15 (kk ⟨h16,rfl⟩ (kk h17 (kk h18 (kk ⟨h19,rfl⟩ (kk h20 (kk ⟨h21,rfl⟩ (kk h22 (kk h23 Ob.ok_nil)))))))))))))))))))))))
theorem f17_FFTFFF_e(st s1 s2 s3 s4 s5 s6 s7 s8 s9:St)(v p58 p92:Nat)(x v14a:AV)(n14b n23 n43 n49 n50b n60 n68 n77 n78 n85 n86b n95 n102 n103 n109:Int)(w50a w86a:ByteArray):evC sL27 17 [(pt v),x] st [.eff (.tup [v14a,(i64 n14b)]) (fun _=>s1),.av FF,.eff (i64 n23) id,.av FF,.eff (i64 n43) id,.av TT,.eff (i64 n49) id,.eff (.tup [(str w50a),(i64 n50b)]) (fun _=>s2),.av FF,.eff (pt p58) id,.eff (i64 n60) (fun _=>s3),.av FF,.eff (i64 n68) id,.eff .undef (fun _=>s4),.eff .undef (fun _=>s5),.eff (i64 n77) id,.av (i64 n78),.eff .undef (fun _=>s6),.eff (i64 n85) id,.eff (.tup [(str w86a),(i64 n86b)]) (fun _=>s7),.eff (pt p92) id,.eff (i64 n95) (fun _=>s8),.av FF,.eff (i64 n102) id,.av (i64 n103),.eff .undef (fun _=>s9),.eff (i64 n109) id]=some ((.tup [(i64 n109),(i64 0)]),s9,[],[obC 8 [x] st (.tup [v14a,(i64 n14b)]) s1,Bt 3 .neq n14b 0 FF,LI s1 v 2 n23∧s1=s1,Bt 3 .gtr n23 0 FF,LI s1 v 2 n43∧s1=s1,Bt 3 .eql n43 0 TT,LI s1 v 1 n49∧s1=s1,obC 6 [(i64 n49)] s1 (.tup [(str w50a),(i64 n50b)]) s2,Bt 3 .neq n50b 0 FF,loadA E0 s2 39 (pt v)=some (pt p58)∧s2=s2,obC 31 [(pt p58),(str w50a)] s2 (i64 n60) s3,Bt 3 .neq n60 0 FF,LI s3 v 1 n68∧s3=s3,storeA E0 s3 3 (.ptr v 2) (i64 n68)=some s4,storeA E0 s4 3 (.ptr v 3) (i64 0)=some s5,LI s5 v 1 n77∧s5=s5,Bt 3 .add n77 1 (i64 n78),storeA E0 s5 3 (.ptr v 1) (i64 n78)=some s6,LI s6 v 2 n85∧s6=s6,obC 6 [(i64 n85)] s6 (.tup [(str w86a),(i64 n86b)]) s7,loadA E0 s7 39 (pt v)=some (pt p92)∧s7=s7,obC 33 [(pt p92),(str w86a),v14a] s7 (i64 n95) s8,Bt 3 .neq n95 0 FF,LI s8 v 3 n102∧s8=s8,Bt 3 .add n102 1 (i64 n103),storeA E0 s8 3 (.ptr v 3) (i64 n103)=some s9,LI s9 v 2 n109∧s9=s9]):=by kernel_rfl
theorem f17_FFTFFF{st s1 s2 s3 s4 s5 s6 s7 s8 s9:St}{v p58 p92:Nat}{x v14a:AV}{n14b n23 n43 n49 n50b n60 n68 n77 n78 n85 n86b n95 n102 n103 n109:Int}{w50a w86a:ByteArray}(h1:obC 8 [x] st (.tup [v14a,(i64 n14b)]) s1)(h2:Bt 3 .neq n14b 0 FF)(h3:LI s1 v 2 n23)(h4:Bt 3 .gtr n23 0 FF)(h5:LI s1 v 2 n43)(h6:Bt 3 .eql n43 0 TT)(h7:LI s1 v 1 n49)(h8:obC 6 [(i64 n49)] s1 (.tup [(str w50a),(i64 n50b)]) s2)(h9:Bt 3 .neq n50b 0 FF)(h10:loadA E0 s2 39 (pt v)=some (pt p58))(h11:obC 31 [(pt p58),(str w50a)] s2 (i64 n60) s3)(h12:Bt 3 .neq n60 0 FF)(h13:LI s3 v 1 n68)(h14:storeA E0 s3 3 (.ptr v 2) (i64 n68)=some s4)(h15:storeA E0 s4 3 (.ptr v 3) (i64 0)=some s5)(h16:LI s5 v 1 n77)(h17:Bt 3 .add n77 1 (i64 n78))(h18:storeA E0 s5 3 (.ptr v 1) (i64 n78)=some s6)(h19:LI s6 v 2 n85)(h20:obC 6 [(i64 n85)] s6 (.tup [(str w86a),(i64 n86b)]) s7)(h21:loadA E0 s7 39 (pt v)=some (pt p92))(h22:obC 33 [(pt p92),(str w86a),v14a] s7 (i64 n95) s8)(h23:Bt 3 .neq n95 0 FF)(h24:LI s8 v 3 n102)(h25:Bt 3 .add n102 1 (i64 n103))(h26:storeA E0 s8 3 (.ptr v 3) (i64 n103)=some s9)(h27:LI s9 v 2 n109):obC 17 [(pt v),x] st (.tup [(i64 n109),(i64 0)]) s9:=ACalls.run hE noOv_ok (f17_FFTFFF_e st s1 s2 s3 s4 s5 s6 s7 s8 s9 v p58 p92 x v14a n14b n23 n43 n49 n50b n60 n68 n77 n78 n85 n86b n95 n102 n103 n109 w50a w86a) (kk h1 (kk h2 (kk ⟨h3,rfl⟩ (kk h4 (kk ⟨h5,rfl⟩ (kk h6 (kk ⟨h7,rfl⟩ (kk h8 (kk h9 (kk ⟨h10,rfl⟩ (kk h11 (kk h12 (kk ⟨h13,rfl⟩ (kk h14 (kk h15 (kk ⟨h16,rfl⟩ (kk h17 (kk h18 (kk ⟨h19,rfl⟩ (kk h20 (kk ⟨h21,rfl⟩ (kk h22 (kk h23 (kk ⟨h24,rfl⟩ (kk h25 (kk h26 (kk ⟨h27,rfl⟩ Ob.ok_nil)))))))))))))))))))))))))))
noncomputable def f37P(i:Nat):Code:=match Tryz.f37.body with
 |some (.seq x0 (.seq x1 (.seq (.seq x2 (.block 0 (.loop x3))) x4)))=> [x0,x1,x2,x3,x4].getD i .skip
 |_=> .skip
theorem f37body:Tryz.f37.body=some (.seq (f37P 0) (.seq (f37P 1) (.seq (.seq (f37P 2) (.block 0 (.loop (f37P 3)))) (f37P 4)))):=by kernel_rfl
def f37L0(T:Tm)(a0:AV):Prop:=T.n=37∧T.get 0=a0
theorem f37_0_e(v:Nat)(st:St):evR gA0 [] (f37P 0) ⟨37,[(0,(pt v))],[]⟩ st []=some (.normal,37,[(pt v)],st,[]):=by kernel_rfl
theorem f37_0{v:Nat}{st:St}{T:Tm}(hT:f37L0 T (pt v)):AW Tryz.prog (f37P 0) (fun ex T' st'=>ex= .normal∧f37L0 T' (pt v)∧st'=st) T st:=by
 obtain ⟨hn,g0⟩:=hT
 exact genR (f37_0_e v st) Ob.ok_nil hn (one g0) fun T' q2 q3=>by simp only [gA0,List.cons.injEq,and_true] at q3;exact ⟨rfl,⟨q2,q3⟩,rfl⟩
def f37L1(T:Tm)(a0 a3:AV):Prop:=T.n=37∧T.get 0=a0∧T.get 3=a3
theorem f37_1_e(v:Nat)(st:St):evR gA1 [] (f37P 1) ⟨37,[(0,(pt v))],[]⟩ st []=some (.normal,37,[(pt v),.nils],st,[]):=by kernel_rfl
theorem f37_1{v:Nat}{st:St}{T:Tm}(hT:f37L0 T (pt v)):AW Tryz.prog (f37P 1) (fun ex T' st'=>ex= .normal∧f37L1 T' (pt v) .nils∧st'=st) T st:=by
 obtain ⟨hn,g0⟩:=hT
 exact genR (f37_1_e v st) Ob.ok_nil hn (one g0) fun T' q2 q3=>by simp only [gA1,List.cons.injEq,and_true] at q3;exact ⟨rfl,⟨q2,q3⟩,rfl⟩
def f37L2(T:Tm)(a0 a3 a4:AV):Prop:=T.n=37∧T.get 0=a0∧T.get 3=a3∧T.get 4=a4
theorem f37_2_e(v:Nat)(v3:AV)(st:St):evR gA29 [] (f37P 2) ⟨37,[(0,(pt v)),(3,v3)],[]⟩ st []=some (.normal,37,[(pt v),v3,(i64 0)],st,[]):=by kernel_rfl
theorem f37_2{v:Nat}{v3:AV}{st:St}{T:Tm}(hT:f37L1 T (pt v) v3):AW Tryz.prog (f37P 2) (fun ex T' st'=>ex= .normal∧f37L2 T' (pt v) v3 (i64 0)∧st'=st) T st:=by
 obtain ⟨hn,g0,g3⟩:=hT
 exact genR (f37_2_e v v3 st) Ob.ok_nil hn (conz g0 (one g3)) fun T' q2 q3=>by simp only [gA29,List.cons.injEq,and_true] at q3;exact ⟨rfl,⟨q2,q3⟩,rfl⟩
abbrev sL28:List Nat:= [2010,2013,2021,2024,2028,2034,2035,6072,7014,7015,7017,7026,7027,7031]
theorem f37_3_TT_e(v p10 p21:Nat)(v3 v13 v24 q26 q27 v34 v35:AV)(n4 n14 n29 n17:Int)(st s1 s2 s3:St)(w28:ByteArray):evR gA29 sL28 (f37P 3) ⟨37,[(0,(pt v)),(3,v3),(4,(i64 n4))],[]⟩ st [.eff (pt p10) id,.eff v13 id,.av (i64 n14),.av TT,.eff (pt p21) id,.eff v24 id,.av q26,.av q27,.eff (str w28) id,.eff (i64 n29) (fun _=>s1),.av TT,.eff v34 (fun _=>s2),.eff v35 (fun _=>s3),.av (i64 n17)]=some (.normal,37,[(pt v),v35,(i64 n17)],s3,[loadA E0 st 39 (pt v)=some (pt p10)∧st=st,loadA E0 st 96 (pt p10)=some v13∧st=st,lenA E0 96 v13=some (i64 n14),Bt 3 .lss n4 n14 TT,loadA E0 st 39 (pt v)=some (pt p21)∧st=st,loadA E0 st 96 (pt p21)=some v24∧st=st,indexAddrA E0 96 v24 (i64 n4)=some q26,fieldAddrA E0 110 q26 0=some q27,loadA E0 st 9 q27=some (str w28)∧st=st,obC 72 [(str w28)] st (i64 n29) s1,Bt 3 .gtr n29 0 TT,buildSliceA E0 s1 73 1 [(0,(i64 n29))]=some (v34,s2),appendA E0 s2 73 73 v3 v34=some (v35,s3),Bt 3 .add n4 1 (i64 n17)]):=by kernel_rfl
theorem f37_3_TT{v p10 p21:Nat}{v3 v13 v24 q26 q27 v34 v35:AV}{n4 n14 n29 n17:Int}{st s1 s2 s3:St}{w28:ByteArray}(h1:loadA E0 st 39 (pt v)=some (pt p10))(h2:loadA E0 st 96 (pt p10)=some v13)(h3:lenA E0 96 v13=some (i64 n14))(h4:Bt 3 .lss n4 n14 TT)(h5:loadA E0 st 39 (pt v)=some (pt p21))(h6:loadA E0 st 96 (pt p21)=some v24)(h7:indexAddrA E0 96 v24 (i64 n4)=some q26)(h8:fieldAddrA E0 110 q26 0=some q27)(h9:loadA E0 st 9 q27=some (str w28))(h10:obC 72 [(str w28)] st (i64 n29) s1)(h11:Bt 3 .gtr n29 0 TT)(h12:buildSliceA E0 s1 73 1 [(0,(i64 n29))]=some (v34,s2))(h13:appendA E0 s2 73 73 v3 v34=some (v35,s3))(h14:Bt 3 .add n4 1 (i64 n17)){T:Tm}(hT:f37L2 T (pt v) v3 (i64 n4)):AW Tryz.prog (f37P 3) (fun ex T' st'=>ex= .normal∧f37L2 T' (pt v) v35 (i64 n17)∧st'=s3) T st:=by
 obtain ⟨hn,g0,g3,g4⟩:=hT
 exact genR (f37_3_TT_e v p10 p21 v3 v13 v24 q26 q27 v34 v35 n4 n14 n29 n17 st s1 s2 s3 w28) (kk ⟨h1,rfl⟩ (kk ⟨h2,rfl⟩ (kk h3 (kk h4 (kk ⟨h5,rfl⟩ (kk ⟨h6,rfl⟩ (kk h7 (kk h8 (kk ⟨h9,rfl⟩ (kk h10 (kk h11 (kk h12 (kk h13 (kk h14 Ob.ok_nil)))))))))))))) hn (conz g0 (conz g3 (one g4))) fun T' q2 q3=>by simp only [gA29,List.cons.injEq,and_true] at q3;exact ⟨rfl,⟨q2,q3⟩,rfl⟩
theorem f37_3_TF_e(v p10 p21:Nat)(v3 v13 v24 q26 q27:AV)(n4 n14 n29 n17:Int)(st s1:St)(w28:ByteArray):evR gA29 sL28 (f37P 3) ⟨37,[(0,(pt v)),(3,v3),(4,(i64 n4))],[]⟩ st [.eff (pt p10) id,.eff v13 id,.av (i64 n14),.av TT,.eff (pt p21) id,.eff v24 id,.av q26,.av q27,.eff (str w28) id,.eff (i64 n29) (fun _=>s1),.av FF,.av (i64 n17)]=some (.normal,37,[(pt v),v3,(i64 n17)],s1,[loadA E0 st 39 (pt v)=some (pt p10)∧st=st,loadA E0 st 96 (pt p10)=some v13∧st=st,lenA E0 96 v13=some (i64 n14),Bt 3 .lss n4 n14 TT,loadA E0 st 39 (pt v)=some (pt p21)∧st=st,loadA E0 st 96 (pt p21)=some v24∧st=st,indexAddrA E0 96 v24 (i64 n4)=some q26,fieldAddrA E0 110 q26 0=some q27,loadA E0 st 9 q27=some (str w28)∧st=st,obC 72 [(str w28)] st (i64 n29) s1,Bt 3 .gtr n29 0 FF,Bt 3 .add n4 1 (i64 n17)]):=by kernel_rfl
theorem f37_3_TF{v p10 p21:Nat}{v3 v13 v24 q26 q27:AV}{n4 n14 n29 n17:Int}{st s1:St}{w28:ByteArray}(h1:loadA E0 st 39 (pt v)=some (pt p10))(h2:loadA E0 st 96 (pt p10)=some v13)(h3:lenA E0 96 v13=some (i64 n14))(h4:Bt 3 .lss n4 n14 TT)(h5:loadA E0 st 39 (pt v)=some (pt p21))(h6:loadA E0 st 96 (pt p21)=some v24)(h7:indexAddrA E0 96 v24 (i64 n4)=some q26)(h8:fieldAddrA E0 110 q26 0=some q27)(h9:loadA E0 st 9 q27=some (str w28))(h10:obC 72 [(str w28)] st (i64 n29) s1)(h11:Bt 3 .gtr n29 0 FF)(h12:Bt 3 .add n4 1 (i64 n17)){T:Tm}(hT:f37L2 T (pt v) v3 (i64 n4)):AW Tryz.prog (f37P 3) (fun ex T' st'=>ex= .normal∧f37L2 T' (pt v) v3 (i64 n17)∧st'=s1) T st:=by
 obtain ⟨hn,g0,g3,g4⟩:=hT
 exact genR (f37_3_TF_e v p10 p21 v3 v13 v24 q26 q27 n4 n14 n29 n17 st s1 w28) (kk ⟨h1,rfl⟩ (kk ⟨h2,rfl⟩ (kk h3 (kk h4 (kk ⟨h5,rfl⟩ (kk ⟨h6,rfl⟩ (kk h7 (kk h8 (kk ⟨h9,rfl⟩ (kk h10 (kk h11 (kk h12 Ob.ok_nil)))))))))))) hn (conz g0 (conz g3 (one g4))) fun T' q2 q3=>by simp only [gA29,List.cons.injEq,and_true] at q3;exact ⟨rfl,⟨q2,q3⟩,rfl⟩
def f37L3(T:Tm)(a3:AV):Prop:=T.n=37∧T.get 3=a3
theorem f37_3_F_e(v p10:Nat)(v3 v13:AV)(n4 n14:Int)(st:St):evR gA3 sL28 (f37P 3) ⟨37,[(0,(pt v)),(3,v3),(4,(i64 n4))],[]⟩ st [.eff (pt p10) id,.eff v13 id,.av (i64 n14),.av FF]=some ((.exit 0),37,[v3],st,[loadA E0 st 39 (pt v)=some (pt p10)∧st=st,loadA E0 st 96 (pt p10)=some v13∧st=st,lenA E0 96 v13=some (i64 n14),Bt 3 .lss n4 n14 FF]):=by kernel_rfl
theorem f37_3_F{v p10:Nat}{v3 v13:AV}{n4 n14:Int}{st:St}(h1:loadA E0 st 39 (pt v)=some (pt p10))(h2:loadA E0 st 96 (pt p10)=some v13)(h3:lenA E0 96 v13=some (i64 n14))(h4:Bt 3 .lss n4 n14 FF){T:Tm}(hT:f37L2 T (pt v) v3 (i64 n4)):AW Tryz.prog (f37P 3) (fun ex T' st'=>ex=(.exit 0)∧f37L3 T' v3∧st'=st) T st:=by
 obtain ⟨hn,g0,g3,g4⟩:=hT
 exact genR (f37_3_F_e v p10 v3 v13 n4 n14 st) (kk ⟨h1,rfl⟩ (kk ⟨h2,rfl⟩ (kk h3 (kk h4 Ob.ok_nil)))) hn (conz g0 (conz g3 (one g4))) fun T' q2 q3=>by simp only [gA3,List.cons.injEq,and_true] at q3;exact ⟨rfl,⟨q2,q3⟩,rfl⟩
def f37L4(T:Tm)(a2:AV):Prop:=T.n=37∧T.get 2=a2
theorem f37_4_e(v3:AV)(st:St):evR gA4 [] (f37P 4) ⟨37,[(3,v3)],[]⟩ st []=some (.ret,37,[v3],st,[]):=by kernel_rfl
theorem f37_4{v3:AV}{st:St}{T:Tm}(hT:f37L3 T v3):AW Tryz.prog (f37P 4) (fun ex T' st'=>ex= .ret∧f37L4 T' v3∧st'=st) T st:=by
 obtain ⟨hn,g3⟩:=hT
 exact genR (f37_4_e v3 st) Ob.ok_nil hn (one g3) fun T' q2 q3=>by simp only [gA4,List.cons.injEq,and_true] at q3;exact ⟨rfl,⟨q2,q3⟩,rfl⟩
noncomputable def f21P(i:Nat):Code:=match Tryz.f21.body with
 |some (.seq x0 (.seq x1 (.seq (.seq x2 (.block 0 (.loop x3))) x4)))=> [x0,x1,x2,x3,x4].getD i .skip
 |_=> .skip
theorem f21body:Tryz.f21.body=some (.seq (f21P 0) (.seq (f21P 1) (.seq (.seq (f21P 2) (.block 0 (.loop (f21P 3)))) (f21P 4)))):=by kernel_rfl
def f21L0(T:Tm)(a0 a1:AV):Prop:=T.n=52∧T.get 0=a0∧T.get 1=a1
theorem f21_0_e(v:Nat)(n1:Int)(st:St):evR gA5 [] (f21P 0) ⟨52,[(0,(pt v)),(1,(i64 n1))],[]⟩ st []=some (.normal,52,[(pt v),(i64 n1)],st,[]):=by kernel_rfl
theorem f21_0{v:Nat}{n1:Int}{st:St}{T:Tm}(hT:f21L0 T (pt v) (i64 n1)):AW Tryz.prog (f21P 0) (fun ex T' st'=>ex= .normal∧f21L0 T' (pt v) (i64 n1)∧st'=st) T st:=by
 obtain ⟨hn,g0,g1⟩:=hT
 exact genR (f21_0_e v n1 st) Ob.ok_nil hn (conz g0 (one g1)) fun T' q2 q3=>by simp only [gA5,List.cons.injEq,and_true] at q3;exact ⟨rfl,⟨q2,q3⟩,rfl⟩
def f21L1(T:Tm)(a0 a1 a5:AV):Prop:=T.n=52∧T.get 0=a0∧T.get 1=a1∧T.get 5=a5
abbrev gA38(T:Tm):List AV:= [T.get 0,T.get 1,T.get 5]
theorem f21_1_e(v:Nat)(n1:Int)(st s1:St)(v11:AV):evR gA38 [6037] (f21P 1) ⟨52,[(0,(pt v)),(1,(i64 n1))],[]⟩ st [.eff v11 (fun _=>s1)]=some (.normal,52,[(pt v),(i64 n1),v11],s1,[obC 37 [(pt v)] st v11 s1]):=by kernel_rfl
theorem f21_1{v:Nat}{n1:Int}{st s1:St}{v11:AV}(h1:obC 37 [(pt v)] st v11 s1){T:Tm}(hT:f21L0 T (pt v) (i64 n1)):AW Tryz.prog (f21P 1) (fun ex T' st'=>ex= .normal∧f21L1 T' (pt v) (i64 n1) v11∧st'=s1) T st:=by
 obtain ⟨hn,g0,g1⟩:=hT
 exact genR (f21_1_e v n1 st s1 v11) (kk h1 Ob.ok_nil) hn (conz g0 (one g1)) fun T' q2 q3=>by simp only [gA38,List.cons.injEq,and_true] at q3;exact ⟨rfl,⟨q2,q3⟩,rfl⟩
def f21L2(T:Tm)(a0 a1 a5 a6:AV):Prop:=T.n=52∧T.get 0=a0∧T.get 1=a1∧T.get 5=a5∧T.get 6=a6
abbrev gA39(T:Tm):List AV:= [T.get 0,T.get 1,T.get 5,T.get 6]
theorem f21_2_e(v:Nat)(n1:Int)(v5:AV)(st:St):evR gA39 [] (f21P 2) ⟨52,[(0,(pt v)),(1,(i64 n1)),(5,v5)],[]⟩ st []=some (.normal,52,[(pt v),(i64 n1),v5,(i64 0)],st,[]):=by kernel_rfl
theorem f21_2{v:Nat}{n1:Int}{v5:AV}{st:St}{T:Tm}(hT:f21L1 T (pt v) (i64 n1) v5):AW Tryz.prog (f21P 2) (fun ex T' st'=>ex= .normal∧f21L2 T' (pt v) (i64 n1) v5 (i64 0)∧st'=st) T st:=by
 obtain ⟨hn,g0,g1,g5⟩:=hT
 exact genR (f21_2_e v n1 v5 st) Ob.ok_nil hn (conz g0 (conz g1 (one g5))) fun T' q2 q3=>by simp only [gA39,List.cons.injEq,and_true] at q3;exact ⟨rfl,⟨q2,q3⟩,rfl⟩
def f21L3(T:Tm)(a4:AV):Prop:=T.n=52∧T.get 4=a4
abbrev sL29:List Nat:= [2039,2046,6006,6055,7014,7015,7017,7020,7023,7027,7033,7038,7050,8000]
theorem f21_3_TTTT_e(v p20 o20 p27 o27 p46:Nat)(n1 n6 n14 n21 n28 n32 n39 n40b n48:Int)(v5 q38:AV)(st s1 s2:St)(w40a:ByteArray):evR gA7 sL29 (f21P 3) ⟨52,[(0,(pt v)),(1,(i64 n1)),(5,v5),(6,(i64 n6))],[]⟩ st [.av (i64 n14),.av TT,.eff (.ptr p20 o20) id,.eff (i64 n21) id,.eff TT id,.eff (.ptr p27 o27) id,.eff (i64 n28) id,.eff (i64 n32) id,.eff TT id,.av q38,.eff (i64 n39) id,.eff (.tup [(str w40a),(i64 n40b)]) (fun _=>s1),.eff (pt p46) id,.eff (i64 n48) (fun _=>s2),.av TT]=some (.ret,52,[(i64 n48)],s2,[lenA E0 73 v5=some (i64 n14),Bt 3 .lss n6 n14 TT,∀k∈ [p20,p27,v],k<st.next,indexAddrA E0 73 v5 (i64 n6)=some (.ptr p20 o20),[p20,p27,v].contains p20=true∧LI st p20 o20 n21,Bt 3 .lss n21 n1 TT,indexAddrA E0 73 v5 (i64 n6)=some (.ptr p27 o27),[p20,p27,v].contains p27=true∧LI st p27 o27 n28,[p20,p27,v].contains v=true∧LI st v 2 n32,Bt 3 .neq n28 n32 TT,indexAddrA E0 73 v5 (i64 n6)=some q38,loadA E0 st 3 q38=some (i64 n39)∧st=st,obC 6 [(i64 n39)] st (.tup [(str w40a),(i64 n40b)]) s1,loadA E0 s1 39 (pt v)=some (pt p46)∧s1=s1,obC 55 [(pt p46),(str w40a)] s1 (i64 n48) s2,Bt 3 .neq n48 0 TT]):=by kernel_rfl
theorem f21_3_TTTT{v p20 o20 p27 o27 p46:Nat}{n1 n6 n14 n21 n28 n32 n39 n40b n48:Int}{v5 q38:AV}{st s1 s2:St}{w40a:ByteArray}(h1:lenA E0 73 v5=some (i64 n14))(h2:Bt 3 .lss n6 n14 TT)(h3:∀k∈ [p20,p27,v],k<st.next)(h4:indexAddrA E0 73 v5 (i64 n6)=some (.ptr p20 o20))(h5:LI st p20 o20 n21)(h6:Bt 3 .lss n21 n1 TT)(h7:indexAddrA E0 73 v5 (i64 n6)=some (.ptr p27 o27))(h8:LI st p27 o27 n28)(h9:LI st v 2 n32)(h10:Bt 3 .neq n28 n32 TT)(h11:indexAddrA E0 73 v5 (i64 n6)=some q38)(h12:loadA E0 st 3 q38=some (i64 n39))(h13:obC 6 [(i64 n39)] st (.tup [(str w40a),(i64 n40b)]) s1)(h14:loadA E0 s1 39 (pt v)=some (pt p46))(h15:obC 55 [(pt p46),(str w40a)] s1 (i64 n48) s2)(h16:Bt 3 .neq n48 0 TT){T:Tm}(hT:f21L2 T (pt v) (i64 n1) v5 (i64 n6)):AW Tryz.prog (f21P 3) (fun ex T' st'=>ex= .ret∧f21L3 T' (i64 n48)∧st'=s2) T st:=by
 obtain ⟨hn,g0,g1,g5,g6⟩:=hT
 exact genR (f21_3_TTTT_e v p20 o20 p27 o27 p46 n1 n6 n14 n21 n28 n32 n39 n40b n48 v5 q38 st s1 s2 w40a) (kk h1 (kk h2 (kk h3 (kk h4 (kk ⟨by simp,h5⟩ (kk h6 (kk h7 (kk ⟨by simp,h8⟩ (kk ⟨by simp,h9⟩ (kk h10 (kk h11 (kk ⟨h12,rfl⟩ (kk h13 (kk ⟨h14,rfl⟩ (kk h15 (kk h16 Ob.ok_nil)))))))))))))))) hn (conz g0 (conz g1 (conz g5 (one g6)))) fun T' q2 q3=>by simp only [gA7,List.cons.injEq,and_true] at q3;exact ⟨rfl,⟨q2,q3⟩,rfl⟩
theorem f21_3_TTTF_e(v p20 o20 p27 o27 p46:Nat)(n1 n6 n14 n21 n28 n32 n39 n40b n48 n17:Int)(v5 q38:AV)(st s1 s2:St)(w40a:ByteArray):evR gA39 sL29 (f21P 3) ⟨52,[(0,(pt v)),(1,(i64 n1)),(5,v5),(6,(i64 n6))],[]⟩ st [.av (i64 n14),.av TT,.eff (.ptr p20 o20) id,.eff (i64 n21) id,.eff TT id,.eff (.ptr p27 o27) id,.eff (i64 n28) id,.eff (i64 n32) id,.eff TT id,.av q38,.eff (i64 n39) id,.eff (.tup [(str w40a),(i64 n40b)]) (fun _=>s1),.eff (pt p46) id,.eff (i64 n48) (fun _=>s2),.av FF,.av (i64 n17)]=some (.normal,52,[(pt v),(i64 n1),v5,(i64 n17)],s2,[lenA E0 73 v5=some (i64 n14),Bt 3 .lss n6 n14 TT,∀k∈ [p20,p27,v],k<st.next,indexAddrA E0 73 v5 (i64 n6)=some (.ptr p20 o20),[p20,p27,v].contains p20=true∧LI st p20 o20 n21,Bt 3 .lss n21 n1 TT,indexAddrA E0 73 v5 (i64 n6)=some (.ptr p27 o27),[p20,p27,v].contains p27=true∧LI st p27 o27 n28,[p20,p27,v].contains v=true∧LI st v 2 n32,Bt 3 .neq n28 n32 TT,indexAddrA E0 73 v5 (i64 n6)=some q38,loadA E0 st 3 q38=some (i64 n39)∧st=st,obC 6 [(i64 n39)] st (.tup [(str w40a),(i64 n40b)]) s1,loadA E0 s1 39 (pt v)=some (pt p46)∧s1=s1,obC 55 [(pt p46),(str w40a)] s1 (i64 n48) s2,Bt 3 .neq n48 0 FF,Bt 3 .add n6 1 (i64 n17)]):=by kernel_rfl
theorem f21_3_TTTF{v p20 o20 p27 o27 p46:Nat}{n1 n6 n14 n21 n28 n32 n39 n40b n48 n17:Int}{v5 q38:AV}{st s1 s2:St}{w40a:ByteArray}(h1:lenA E0 73 v5=some (i64 n14))(h2:Bt 3 .lss n6 n14 TT)(h3:∀k∈ [p20,p27,v],k<st.next)(h4:indexAddrA E0 73 v5 (i64 n6)=some (.ptr p20 o20))(h5:LI st p20 o20 n21)(h6:Bt 3 .lss n21 n1 TT)(h7:indexAddrA E0 73 v5 (i64 n6)=some (.ptr p27 o27))(h8:LI st p27 o27 n28)(h9:LI st v 2 n32)(h10:Bt 3 .neq n28 n32 TT)(h11:indexAddrA E0 73 v5 (i64 n6)=some q38)(h12:loadA E0 st 3 q38=some (i64 n39))(h13:obC 6 [(i64 n39)] st (.tup [(str w40a),(i64 n40b)]) s1)(h14:loadA E0 s1 39 (pt v)=some (pt p46))(h15:obC 55 [(pt p46),(str w40a)] s1 (i64 n48) s2)(h16:Bt 3 .neq n48 0 FF)(h17:Bt 3 .add n6 1 (i64 n17)){T:Tm}(hT:f21L2 T (pt v) (i64 n1) v5 (i64 n6)):AW Tryz.prog (f21P 3) (fun ex T' st'=>ex= .normal∧f21L2 T' (pt v) (i64 n1) v5 (i64 n17)∧st'=s2) T st:=by
 obtain ⟨hn,g0,g1,g5,g6⟩:=hT
 exact genR (f21_3_TTTF_e v p20 o20 p27 o27 p46 n1 n6 n14 n21 n28 n32 n39 n40b n48 n17 v5 q38 st s1 s2 w40a) (kk h1 (kk h2 (kk h3 (kk h4 (kk ⟨by simp,h5⟩ (kk h6 (kk h7 (kk ⟨by simp,h8⟩ (kk ⟨by simp,h9⟩ (kk h10 (kk h11 (kk ⟨h12,rfl⟩ (kk h13 (kk ⟨h14,rfl⟩ (kk h15 (kk h16 (kk h17 Ob.ok_nil))))))))))))))))) hn (conz g0 (conz g1 (conz g5 (one g6)))) fun T' q2 q3=>by simp only [gA39,List.cons.injEq,and_true] at q3;exact ⟨rfl,⟨q2,q3⟩,rfl⟩
theorem f21_3_TTF_e(v p20 o20 p27 o27:Nat)(n1 n6 n14 n21 n28 n32 n17:Int)(v5:AV)(st:St):evR gA39 sL29 (f21P 3) ⟨52,[(0,(pt v)),(1,(i64 n1)),(5,v5),(6,(i64 n6))],[]⟩ st [.av (i64 n14),.av TT,.eff (.ptr p20 o20) id,.eff (i64 n21) id,.eff TT id,.eff (.ptr p27 o27) id,.eff (i64 n28) id,.eff (i64 n32) id,.eff FF id,.av (i64 n17)]=some (.normal,52,[(pt v),(i64 n1),v5,(i64 n17)],st,[lenA E0 73 v5=some (i64 n14),Bt 3 .lss n6 n14 TT,∀k∈ [p20,p27,v],k<st.next,indexAddrA E0 73 v5 (i64 n6)=some (.ptr p20 o20),[p20,p27,v].contains p20=true∧LI st p20 o20 n21,Bt 3 .lss n21 n1 TT,indexAddrA E0 73 v5 (i64 n6)=some (.ptr p27 o27),[p20,p27,v].contains p27=true∧LI st p27 o27 n28,[p20,p27,v].contains v=true∧LI st v 2 n32,Bt 3 .neq n28 n32 FF,Bt 3 .add n6 1 (i64 n17)]):=by kernel_rfl
theorem f21_3_TTF{v p20 o20 p27 o27:Nat}{n1 n6 n14 n21 n28 n32 n17:Int}{v5:AV}{st:St}(h1:lenA E0 73 v5=some (i64 n14))(h2:Bt 3 .lss n6 n14 TT)(h3:∀k∈ [p20,p27,v],k<st.next)(h4:indexAddrA E0 73 v5 (i64 n6)=some (.ptr p20 o20))(h5:LI st p20 o20 n21)(h6:Bt 3 .lss n21 n1 TT)(h7:indexAddrA E0 73 v5 (i64 n6)=some (.ptr p27 o27))(h8:LI st p27 o27 n28)(h9:LI st v 2 n32)(h10:Bt 3 .neq n28 n32 FF)(h11:Bt 3 .add n6 1 (i64 n17)){T:Tm}(hT:f21L2 T (pt v) (i64 n1) v5 (i64 n6)):AW Tryz.prog (f21P 3) (fun ex T' st'=>ex= .normal∧f21L2 T' (pt v) (i64 n1) v5 (i64 n17)∧st'=st) T st:=by
 obtain ⟨hn,g0,g1,g5,g6⟩:=hT
 exact genR (f21_3_TTF_e v p20 o20 p27 o27 n1 n6 n14 n21 n28 n32 n17 v5 st) (kk h1 (kk h2 (kk h3 (kk h4 (kk ⟨by simp,h5⟩ (kk h6 (kk h7 (kk ⟨by simp,h8⟩ (kk ⟨by simp,h9⟩ (kk h10 (kk h11 Ob.ok_nil))))))))))) hn (conz g0 (conz g1 (conz g5 (one g6)))) fun T' q2 q3=>by simp only [gA39,List.cons.injEq,and_true] at q3;exact ⟨rfl,⟨q2,q3⟩,rfl⟩
theorem f21_3_TF_e(v p20 o20:Nat)(n1 n6 n14 n21 n17:Int)(v5:AV)(st:St):evR gA39 sL29 (f21P 3) ⟨52,[(0,(pt v)),(1,(i64 n1)),(5,v5),(6,(i64 n6))],[]⟩ st [.av (i64 n14),.av TT,.eff (.ptr p20 o20) id,.eff (i64 n21) id,.eff FF id,.av (i64 n17)]=some (.normal,52,[(pt v),(i64 n1),v5,(i64 n17)],st,[lenA E0 73 v5=some (i64 n14),Bt 3 .lss n6 n14 TT,∀k∈ [p20],k<st.next,indexAddrA E0 73 v5 (i64 n6)=some (.ptr p20 o20),[p20].contains p20=true∧LI st p20 o20 n21,Bt 3 .lss n21 n1 FF,Bt 3 .add n6 1 (i64 n17)]):=by kernel_rfl
theorem f21_3_TF{v p20 o20:Nat}{n1 n6 n14 n21 n17:Int}{v5:AV}{st:St}(h1:lenA E0 73 v5=some (i64 n14))(h2:Bt 3 .lss n6 n14 TT)(h3:∀k∈ [p20],k<st.next)(h4:indexAddrA E0 73 v5 (i64 n6)=some (.ptr p20 o20))(h5:LI st p20 o20 n21)(h6:Bt 3 .lss n21 n1 FF)(h7:Bt 3 .add n6 1 (i64 n17)){T:Tm}(hT:f21L2 T (pt v) (i64 n1) v5 (i64 n6)):AW Tryz.prog (f21P 3) (fun ex T' st'=>ex= .normal∧f21L2 T' (pt v) (i64 n1) v5 (i64 n17)∧st'=st) T st:=by
 obtain ⟨hn,g0,g1,g5,g6⟩:=hT
 exact genR (f21_3_TF_e v p20 o20 n1 n6 n14 n21 n17 v5 st) (kk h1 (kk h2 (kk h3 (kk h4 (kk ⟨by simp,h5⟩ (kk h6 (kk h7 Ob.ok_nil))))))) hn (conz g0 (conz g1 (conz g5 (one g6)))) fun T' q2 q3=>by simp only [gA39,List.cons.injEq,and_true] at q3;exact ⟨rfl,⟨q2,q3⟩,rfl⟩
def f21L4(T:Tm):Prop:=T.n=52
theorem f21_3_F_e(v:Nat)(n1 n6 n14:Int)(v5:AV)(st:St):evR gA8 sL29 (f21P 3) ⟨52,[(0,(pt v)),(1,(i64 n1)),(5,v5),(6,(i64 n6))],[]⟩ st [.av (i64 n14),.av FF]=some ((.exit 0),52,[],st,[lenA E0 73 v5=some (i64 n14),Bt 3 .lss n6 n14 FF]):=by kernel_rfl
theorem f21_3_F{v:Nat}{n1 n6 n14:Int}{v5:AV}{st:St}(h1:lenA E0 73 v5=some (i64 n14))(h2:Bt 3 .lss n6 n14 FF){T:Tm}(hT:f21L2 T (pt v) (i64 n1) v5 (i64 n6)):AW Tryz.prog (f21P 3) (fun ex T' st'=>ex=(.exit 0)∧f21L4 T'∧st'=st) T st:=by
 obtain ⟨hn,g0,g1,g5,g6⟩:=hT
 exact (gen_run (G:=fun T=>([]:List AV)) hE (f21_3_F_e v n1 n6 n14 v5 st) (kk h1 (kk h2 Ob.ok_nil)) hn (conz g0 (conz g1 (conz g5 (one g6))))).mono fun ex T' st' ⟨q1,q2,q3,q4⟩=>by exact ⟨q1,q2,q4⟩
theorem f21_4_e(st:St):evR gA7 [] (f21P 4) ⟨52,[],[]⟩ st []=some (.ret,52,[(i64 0)],st,[]):=by kernel_rfl
theorem f21_4{st:St}{T:Tm}(hT:f21L4 T):AW Tryz.prog (f21P 4) (fun ex T' st'=>ex= .ret∧f21L3 T' (i64 0)∧st'=st) T st:=by
 have hn:T.n=52:=hT
 exact genR (f21_4_e st) Ob.ok_nil hn (fun q hq=>by cases hq) fun T' q2 q3=>by simp only [gA7,List.cons.injEq,and_true] at q3;exact ⟨rfl,⟨q2,q3⟩,rfl⟩
noncomputable def f15P(i:Nat):Code:=match Tryz.f15.body with
 |some (.seq x0 (.seq x1 (.seq x2 (.seq x3 (.seq x4 (.seq (.seq x5 (.block 0 (.loop (.seq x6 (.seq (.block 1 (.seq x7 (.seq x8 (.seq x9 (.seq (.seq x10 (.block 2 (.loop x11))) x12))))) x13))))) x14))))))=> [x0,x1,x2,x3,x4,x5,x6,x7,x8,x9,x10,x11,x12,x13,x14].getD i .skip
 |_=> .skip
theorem f15body:Tryz.f15.body=some (.seq (f15P 0) (.seq (f15P 1) (.seq (f15P 2) (.seq (f15P 3) (.seq (f15P 4) (.seq (.seq (f15P 5) (.block 0 (.loop (.seq (f15P 6) (.seq (.block 1 (.seq (f15P 7) (.seq (f15P 8) (.seq (f15P 9) (.seq (.seq (f15P 10) (.block 2 (.loop (f15P 11)))) (f15P 12)))))) (f15P 13)))))) (f15P 14))))))):=by kernel_rfl
def f15L0(T:Tm)(a0:AV):Prop:=T.n=74∧T.get 0=a0
theorem f15_0_e(e:Nat)(st:St):evR gA0 [] (f15P 0) ⟨74,[(0,(pt e))],[]⟩ st []=some (.normal,74,[(pt e)],st,[]):=by kernel_rfl
theorem f15_0{e:Nat}{st:St}{T:Tm}(hT:f15L0 T (pt e)):AW Tryz.prog (f15P 0) (fun ex T' st'=>ex= .normal∧f15L0 T' (pt e)∧st'=st) T st:=by
 obtain ⟨hn,g0⟩:=hT
 exact genR (f15_0_e e st) Ob.ok_nil hn (one g0) fun T' q2 q3=>by simp only [gA0,List.cons.injEq,and_true] at q3;exact ⟨rfl,⟨q2,q3⟩,rfl⟩
def f15L1(T:Tm)(a2 a3 a4:AV):Prop:=T.n=74∧T.get 2=a2∧T.get 3=a3∧T.get 4=a4
theorem f15_1_T_e(e:Nat)(st:St):evR gA9 [2018] (f15P 1) ⟨74,[(0,(pt e))],[]⟩ st [.eff TT id]=some (.ret,74,[.nilp,.nils,(i64 8)],st,[loadA E0 st 4 (.ptr e 3)=some TT∧st=st]):=by kernel_rfl
theorem f15_1_T{e:Nat}{st:St}(h1:loadA E0 st 4 (.ptr e 3)=some TT){T:Tm}(hT:f15L0 T (pt e)):AW Tryz.prog (f15P 1) (fun ex T' st'=>ex= .ret∧f15L1 T' .nilp .nils (i64 8)∧st'=st) T st:=by
 obtain ⟨hn,g0⟩:=hT
 exact genR (f15_1_T_e e st) (kk ⟨h1,rfl⟩ Ob.ok_nil) hn (one g0) fun T' q2 q3=>by simp only [gA9,List.cons.injEq,and_true] at q3;exact ⟨rfl,⟨q2,q3⟩,rfl⟩
theorem f15_1_F_e(e:Nat)(st:St):evR gA0 [2018] (f15P 1) ⟨74,[(0,(pt e))],[]⟩ st [.eff FF id]=some (.normal,74,[(pt e)],st,[loadA E0 st 4 (.ptr e 3)=some FF∧st=st]):=by kernel_rfl
theorem f15_1_F{e:Nat}{st:St}(h1:loadA E0 st 4 (.ptr e 3)=some FF){T:Tm}(hT:f15L0 T (pt e)):AW Tryz.prog (f15P 1) (fun ex T' st'=>ex= .normal∧f15L0 T' (pt e)∧st'=st) T st:=by
 obtain ⟨hn,g0⟩:=hT
 exact genR (f15_1_F_e e st) (kk ⟨h1,rfl⟩ Ob.ok_nil) hn (one g0) fun T' q2 q3=>by simp only [gA0,List.cons.injEq,and_true] at q3;exact ⟨rfl,⟨q2,q3⟩,rfl⟩
def f15L2(T:Tm)(a0 a5:AV):Prop:=T.n=74∧T.get 0=a0∧T.get 5=a5
theorem f15_2_e(e a21:Nat)(st s1:St)(v20:AV):evR gA10 [2021,7020] (f15P 2) ⟨74,[(0,(pt e))],[]⟩ st [.av v20,.eff (pt a21) (fun _=>s1)]=some (.normal,74,[(pt e),(pt a21)],s1,[buildA E0 71 [(0,(pt e)),(1,(i64 1))]=some v20,boxA st 71 v20=some ((pt a21),s1)]):=by kernel_rfl
theorem f15_2{e a21:Nat}{st s1:St}{v20:AV}(h1:buildA E0 71 [(0,(pt e)),(1,(i64 1))]=some v20)(h2:boxA st 71 v20=some ((pt a21),s1)){T:Tm}(hT:f15L0 T (pt e)):AW Tryz.prog (f15P 2) (fun ex T' st'=>ex= .normal∧f15L2 T' (pt e) (pt a21)∧st'=s1) T st:=by
 obtain ⟨hn,g0⟩:=hT
 exact genR (f15_2_e e a21 st s1 v20) (kk h1 (kk h2 Ob.ok_nil)) hn (one g0) fun T' q2 q3=>by simp only [gA10,List.cons.injEq,and_true] at q3;exact ⟨rfl,⟨q2,q3⟩,rfl⟩
def f15L3(T:Tm)(a0 a5 a6:AV):Prop:=T.n=74∧T.get 0=a0∧T.get 5=a5∧T.get 6=a6
theorem f15_3_e(e v:Nat)(st:St):evR gA11 [] (f15P 3) ⟨74,[(0,(pt e)),(5,(pt v))],[]⟩ st []=some (.normal,74,[(pt e),(pt v),.nils],st,[]):=by kernel_rfl
theorem f15_3{e v:Nat}{st:St}{T:Tm}(hT:f15L2 T (pt e) (pt v)):AW Tryz.prog (f15P 3) (fun ex T' st'=>ex= .normal∧f15L3 T' (pt e) (pt v) .nils∧st'=st) T st:=by
 obtain ⟨hn,g0,g5⟩:=hT
 exact genR (f15_3_e e v st) Ob.ok_nil hn (conz g0 (one g5)) fun T' q2 q3=>by simp only [gA11,List.cons.injEq,and_true] at q3;exact ⟨rfl,⟨q2,q3⟩,rfl⟩
def f15L4(T:Tm)(a0 a5 a6 a7:AV):Prop:=T.n=74∧T.get 0=a0∧T.get 5=a5∧T.get 6=a6∧T.get 7=a7
abbrev gA40(T:Tm):List AV:= [T.get 0,T.get 5,T.get 6,T.get 7]
theorem f15_4_e(e v:Nat)(v6 v23:AV)(st s1:St):evR gA40 [6037] (f15P 4) ⟨74,[(0,(pt e)),(5,(pt v)),(6,v6)],[]⟩ st [.eff v23 (fun _=>s1)]=some (.normal,74,[(pt e),(pt v),v6,v23],s1,[obC 37 [(pt v)] st v23 s1]):=by kernel_rfl
theorem f15_4{e v:Nat}{v6 v23:AV}{st s1:St}(h1:obC 37 [(pt v)] st v23 s1){T:Tm}(hT:f15L3 T (pt e) (pt v) v6):AW Tryz.prog (f15P 4) (fun ex T' st'=>ex= .normal∧f15L4 T' (pt e) (pt v) v6 v23∧st'=s1) T st:=by
 obtain ⟨hn,g0,g5,g6⟩:=hT
 exact genR (f15_4_e e v v6 v23 st s1) (kk h1 Ob.ok_nil) hn (conz g0 (conz g5 (one g6))) fun T' q2 q3=>by simp only [gA40,List.cons.injEq,and_true] at q3;exact ⟨rfl,⟨q2,q3⟩,rfl⟩
def f15L5(T:Tm)(a0 a5 a6 a7 a8:AV):Prop:=T.n=74∧T.get 0=a0∧T.get 5=a5∧T.get 6=a6∧T.get 7=a7∧T.get 8=a8
abbrev gA41(T:Tm):List AV:= [T.get 0,T.get 5,T.get 6,T.get 7,T.get 8]
theorem f15_5_e(e v:Nat)(v6 v7:AV)(st:St):evR gA41 [] (f15P 5) ⟨74,[(0,(pt e)),(5,(pt v)),(6,v6),(7,v7)],[]⟩ st []=some (.normal,74,[(pt e),(pt v),v6,v7,(i64 0)],st,[]):=by kernel_rfl
theorem f15_5{e v:Nat}{v6 v7:AV}{st:St}{T:Tm}(hT:f15L4 T (pt e) (pt v) v6 v7):AW Tryz.prog (f15P 5) (fun ex T' st'=>ex= .normal∧f15L5 T' (pt e) (pt v) v6 v7 (i64 0)∧st'=st) T st:=by
 obtain ⟨hn,g0,g5,g6,g7⟩:=hT
 exact genR (f15_5_e e v v6 v7 st) Ob.ok_nil hn (conz g0 (conz g5 (conz g6 (one g7)))) fun T' q2 q3=>by simp only [gA41,List.cons.injEq,and_true] at q3;exact ⟨rfl,⟨q2,q3⟩,rfl⟩
theorem f15_6_T_e(e v:Nat)(v6 v7:AV)(n8 n26:Int)(st:St):evR gA41 [7026,7027] (f15P 6) ⟨74,[(0,(pt e)),(5,(pt v)),(6,v6),(7,v7),(8,(i64 n8))],[]⟩ st [.av (i64 n26),.av TT]=some (.normal,74,[(pt e),(pt v),v6,v7,(i64 n8)],st,[lenA E0 73 v7=some (i64 n26),Bt 3 .lss n8 n26 TT]):=by kernel_rfl
theorem f15_6_T{e v:Nat}{v6 v7:AV}{n8 n26:Int}{st:St}(h1:lenA E0 73 v7=some (i64 n26))(h2:Bt 3 .lss n8 n26 TT){T:Tm}(hT:f15L5 T (pt e) (pt v) v6 v7 (i64 n8)):AW Tryz.prog (f15P 6) (fun ex T' st'=>ex= .normal∧f15L5 T' (pt e) (pt v) v6 v7 (i64 n8)∧st'=st) T st:=by
 obtain ⟨hn,g0,g5,g6,g7,g8⟩:=hT
 exact genR (f15_6_T_e e v v6 v7 n8 n26 st) (kk h1 (kk h2 Ob.ok_nil)) hn (conz g0 (conz g5 (conz g6 (conz g7 (one g8))))) fun T' q2 q3=>by simp only [gA41,List.cons.injEq,and_true] at q3;exact ⟨rfl,⟨q2,q3⟩,rfl⟩
def f15L6(T:Tm)(a5 a6:AV):Prop:=T.n=74∧T.get 5=a5∧T.get 6=a6
theorem f15_6_F_e(e v:Nat)(v6 v7:AV)(n8 n26:Int)(st:St):evR gA14 [7026,7027] (f15P 6) ⟨74,[(0,(pt e)),(5,(pt v)),(6,v6),(7,v7),(8,(i64 n8))],[]⟩ st [.av (i64 n26),.av FF]=some ((.exit 0),74,[(pt v),v6],st,[lenA E0 73 v7=some (i64 n26),Bt 3 .lss n8 n26 FF]):=by kernel_rfl
theorem f15_6_F{e v:Nat}{v6 v7:AV}{n8 n26:Int}{st:St}(h1:lenA E0 73 v7=some (i64 n26))(h2:Bt 3 .lss n8 n26 FF){T:Tm}(hT:f15L5 T (pt e) (pt v) v6 v7 (i64 n8)):AW Tryz.prog (f15P 6) (fun ex T' st'=>ex=(.exit 0)∧f15L6 T' (pt v) v6∧st'=st) T st:=by
 obtain ⟨hn,g0,g5,g6,g7,g8⟩:=hT
 exact genR (f15_6_F_e e v v6 v7 n8 n26 st) (kk h1 (kk h2 Ob.ok_nil)) hn (conz g0 (conz g5 (conz g6 (conz g7 (one g8))))) fun T' q2 q3=>by simp only [gA14,List.cons.injEq,and_true] at q3;exact ⟨rfl,⟨q2,q3⟩,rfl⟩
def f15L7(T:Tm)(a0 a5 a6 a7 a8 a9:AV):Prop:=T.n=74∧T.get 0=a0∧T.get 5=a5∧T.get 6=a6∧T.get 7=a7∧T.get 8=a8∧T.get 9=a9
abbrev gA42(T:Tm):List AV:= [T.get 0,T.get 5,T.get 6,T.get 7,T.get 8,T.get 9]
abbrev sL30:List Nat:= [2034,6006,7033]
theorem f15_7_e(e v:Nat)(v6 v7 q33:AV)(n8 n34 n35b:Int)(st s1:St)(w35a:ByteArray):evR gA42 sL30 (f15P 7) ⟨74,[(0,(pt e)),(5,(pt v)),(6,v6),(7,v7),(8,(i64 n8))],[]⟩ st [.av q33,.eff (i64 n34) id,.eff (.tup [(str w35a),(i64 n35b)]) (fun _=>s1)]=some (.normal,74,[(pt e),(pt v),v6,v7,(i64 n8),(str w35a)],s1,[indexAddrA E0 73 v7 (i64 n8)=some q33,loadA E0 st 3 q33=some (i64 n34)∧st=st,obC 6 [(i64 n34)] st (.tup [(str w35a),(i64 n35b)]) s1]):=by kernel_rfl
theorem f15_7{e v:Nat}{v6 v7 q33:AV}{n8 n34 n35b:Int}{st s1:St}{w35a:ByteArray}(h1:indexAddrA E0 73 v7 (i64 n8)=some q33)(h2:loadA E0 st 3 q33=some (i64 n34))(h3:obC 6 [(i64 n34)] st (.tup [(str w35a),(i64 n35b)]) s1){T:Tm}(hT:f15L5 T (pt e) (pt v) v6 v7 (i64 n8)):AW Tryz.prog (f15P 7) (fun ex T' st'=>ex= .normal∧f15L7 T' (pt e) (pt v) v6 v7 (i64 n8) (str w35a)∧st'=s1) T st:=by
 obtain ⟨hn,g0,g5,g6,g7,g8⟩:=hT
 exact genR (f15_7_e e v v6 v7 q33 n8 n34 n35b st s1 w35a) (kk h1 (kk ⟨h2,rfl⟩ (kk h3 Ob.ok_nil))) hn (conz g0 (conz g5 (conz g6 (conz g7 (one g8))))) fun T' q2 q3=>by simp only [gA42,List.cons.injEq,and_true] at q3;exact ⟨rfl,⟨q2,q3⟩,rfl⟩
def f15L8(T:Tm)(a0 a5 a6 a7 a8 a11:AV):Prop:=T.n=74∧T.get 0=a0∧T.get 5=a5∧T.get 6=a6∧T.get 7=a7∧T.get 8=a8∧T.get 11=a11
abbrev gA43(T:Tm):List AV:= [T.get 0,T.get 5,T.get 6,T.get 7,T.get 8,T.get 11]
theorem f15_8_e(e v:Nat)(v6 v7 v41a:AV)(n8 n41b:Int)(w9:ByteArray)(st s1:St):evR gA43 [6050] (f15P 8) ⟨74,[(0,(pt e)),(5,(pt v)),(6,v6),(7,v7),(8,(i64 n8)),(9,(str w9))],[]⟩ st [.eff (.tup [v41a,(i64 n41b)]) (fun _=>s1)]=some (.normal,74,[(pt e),(pt v),v6,v7,(i64 n8),v41a],s1,[obC 50 [(pt e),(str w9)] st (.tup [v41a,(i64 n41b)]) s1]):=by kernel_rfl
theorem f15_8{e v:Nat}{v6 v7 v41a:AV}{n8 n41b:Int}{w9:ByteArray}{st s1:St}(h1:obC 50 [(pt e),(str w9)] st (.tup [v41a,(i64 n41b)]) s1){T:Tm}(hT:f15L7 T (pt e) (pt v) v6 v7 (i64 n8) (str w9)):AW Tryz.prog (f15P 8) (fun ex T' st'=>ex= .normal∧f15L8 T' (pt e) (pt v) v6 v7 (i64 n8) v41a∧st'=s1) T st:=by
 obtain ⟨hn,g0,g5,g6,g7,g8,g9⟩:=hT
 exact genR (f15_8_e e v v6 v7 v41a n8 n41b w9 st s1) (kk h1 Ob.ok_nil) hn (conz g0 (conz g5 (conz g6 (conz g7 (conz g8 (one g9)))))) fun T' q2 q3=>by simp only [gA43,List.cons.injEq,and_true] at q3;exact ⟨rfl,⟨q2,q3⟩,rfl⟩
def f15L9(T:Tm)(a0 a5 a6 a7 a8 a13:AV):Prop:=T.n=74∧T.get 0=a0∧T.get 5=a5∧T.get 6=a6∧T.get 7=a7∧T.get 8=a8∧T.get 13=a13
abbrev gA44(T:Tm):List AV:= [T.get 0,T.get 5,T.get 6,T.get 7,T.get 8,T.get 13]
theorem f15_9_e(e v:Nat)(v6 v7 v11 v45:AV)(n8:Int)(st s1:St):evR gA44 [6010] (f15P 9) ⟨74,[(0,(pt e)),(5,(pt v)),(6,v6),(7,v7),(8,(i64 n8)),(11,v11)],[]⟩ st [.eff v45 (fun _=>s1)]=some (.normal,74,[(pt e),(pt v),v6,v7,(i64 n8),v45],s1,[obC 10 [v11] st v45 s1]):=by kernel_rfl
theorem f15_9{e v:Nat}{v6 v7 v11 v45:AV}{n8:Int}{st s1:St}(h1:obC 10 [v11] st v45 s1){T:Tm}(hT:f15L8 T (pt e) (pt v) v6 v7 (i64 n8) v11):AW Tryz.prog (f15P 9) (fun ex T' st'=>ex= .normal∧f15L9 T' (pt e) (pt v) v6 v7 (i64 n8) v45∧st'=s1) T st:=by
 obtain ⟨hn,g0,g5,g6,g7,g8,g11⟩:=hT
 exact genR (f15_9_e e v v6 v7 v11 v45 n8 st s1) (kk h1 Ob.ok_nil) hn (conz g0 (conz g5 (conz g6 (conz g7 (conz g8 (one g11)))))) fun T' q2 q3=>by simp only [gA44,List.cons.injEq,and_true] at q3;exact ⟨rfl,⟨q2,q3⟩,rfl⟩
def f15L10(T:Tm)(a0 a5 a6 a7 a8 a13 a14:AV):Prop:=T.n=74∧T.get 0=a0∧T.get 5=a5∧T.get 6=a6∧T.get 7=a7∧T.get 8=a8∧T.get 13=a13∧T.get 14=a14
abbrev gA45(T:Tm):List AV:= [T.get 0,T.get 5,T.get 6,T.get 7,T.get 8,T.get 13,T.get 14]
theorem f15_10_e(e v:Nat)(v6 v7 v13:AV)(n8:Int)(st:St):evR gA45 [] (f15P 10) ⟨74,[(0,(pt e)),(5,(pt v)),(6,v6),(7,v7),(8,(i64 n8)),(13,v13)],[]⟩ st []=some (.normal,74,[(pt e),(pt v),v6,v7,(i64 n8),v13,(i64 0)],st,[]):=by kernel_rfl
theorem f15_10{e v:Nat}{v6 v7 v13:AV}{n8:Int}{st:St}{T:Tm}(hT:f15L9 T (pt e) (pt v) v6 v7 (i64 n8) v13):AW Tryz.prog (f15P 10) (fun ex T' st'=>ex= .normal∧f15L10 T' (pt e) (pt v) v6 v7 (i64 n8) v13 (i64 0)∧st'=st) T st:=by
 obtain ⟨hn,g0,g5,g6,g7,g8,g13⟩:=hT
 exact genR (f15_10_e e v v6 v7 v13 n8 st) Ob.ok_nil hn (conz g0 (conz g5 (conz g6 (conz g7 (conz g8 (one g13)))))) fun T' q2 q3=>by simp only [gA45,List.cons.injEq,and_true] at q3;exact ⟨rfl,⟨q2,q3⟩,rfl⟩
abbrev sL31:List Nat:= [2062,2063,7048,7049,7051,7055,7059,7061,8000]
theorem f15_11_T_e(e v p55 o55 p59 o59:Nat)(v6 v7 v13 v60 v61 v62 v63:AV)(n8 n14 n48 n56 n51:Int)(st s1 s2:St):evR gA45 sL31 (f15P 11) ⟨74,[(0,(pt e)),(5,(pt v)),(6,v6),(7,v7),(8,(i64 n8)),(13,v13),(14,(i64 n14))],[]⟩ st [.av (i64 n48),.av TT,.eff (.ptr p55 o55) id,.eff (i64 n56) id,.eff (.ptr p59 o59) id,.eff v60 id,.eff v61 id,.eff v62 (fun _=>s1),.eff v63 (fun _=>s2),.av (i64 n51)]=some (.normal,74,[(pt e),(pt v),v63,v7,(i64 n8),v13,(i64 n51)],s2.show (s1.show st [p55,p59]) [p55,p59],[lenA E0 32 v13=some (i64 n48),Bt 3 .lss n14 n48 TT,∀k∈ [p55,p59],k<st.next,indexAddrA E0 73 v7 (i64 n8)=some (.ptr p55 o55),[p55,p59].contains p55=true∧LI st p55 o55 n56,indexAddrA E0 32 v13 (i64 n14)=some (.ptr p59 o59),[p55,p59].contains p59=true∧loadA E0 st 22 (.ptr p59 o59)=some v60,buildA E0 100 [(0,(i64 n56)),(1,v60)]=some v61,(true=true→ [p55,p59].all (fun k=>(st.get k).isSome)=true),buildSliceA E0 (st.hide [p55,p59]) 47 1 [(0,v61)]=some (v62,s1),(true=true→ [p55,p59].all (fun k=>((s1.show st [p55,p59]).get k).isSome)=true),appendA E0 ((s1.show st [p55,p59]).hide [p55,p59]) 47 47 v6 v62=some (v63,s2),Bt 3 .add n14 1 (i64 n51)]):=by kernel_rfl
theorem f15_11_T{e v p55 o55 p59 o59:Nat}{v6 v7 v13 v60 v61 v62 v63:AV}{n8 n14 n48 n56 n51:Int}{st s1 s2:St}(h1:lenA E0 32 v13=some (i64 n48))(h2:Bt 3 .lss n14 n48 TT)(h3:∀k∈ [p55,p59],k<st.next)(h4:indexAddrA E0 73 v7 (i64 n8)=some (.ptr p55 o55))(h5:LI st p55 o55 n56)(h6:indexAddrA E0 32 v13 (i64 n14)=some (.ptr p59 o59))(h7:loadA E0 st 22 (.ptr p59 o59)=some v60)(h8:buildA E0 100 [(0,(i64 n56)),(1,v60)]=some v61)(h9: [p55,p59].all (fun k=>(st.get k).isSome)=true)(h10:buildSliceA E0 (st.hide [p55,p59]) 47 1 [(0,v61)]=some (v62,s1))(h11: [p55,p59].all (fun k=>((s1.show st [p55,p59]).get k).isSome)=true)(h12:appendA E0 ((s1.show st [p55,p59]).hide [p55,p59]) 47 47 v6 v62=some (v63,s2))(h13:Bt 3 .add n14 1 (i64 n51)){T:Tm}(hT:f15L10 T (pt e) (pt v) v6 v7 (i64 n8) v13 (i64 n14)):AW Tryz.prog (f15P 11) (fun ex T' st'=>ex= .normal∧f15L10 T' (pt e) (pt v) v63 v7 (i64 n8) v13 (i64 n51)∧st'=(s2.show (s1.show st [p55,p59]) [p55,p59])) T st:=by
 obtain ⟨hn,g0,g5,g6,g7,g8,g13,g14⟩:=hT
 exact genR (f15_11_T_e e v p55 o55 p59 o59 v6 v7 v13 v60 v61 v62 v63 n8 n14 n48 n56 n51 st s1 s2) (kk h1 (kk h2 (kk h3 (kk h4 (kk ⟨by simp,h5⟩ (kk h6 (kk ⟨by simp,h7⟩ (kk h8 (kk (fun _=>h9) (kk h10 (kk (fun _=>h11) (kk h12 (kk h13 Ob.ok_nil))))))))))))) hn (conz g0 (conz g5 (conz g6 (conz g7 (conz g8 (conz g13 (one g14))))))) fun T' q2 q3=>by simp only [gA45,List.cons.injEq,and_true] at q3;exact ⟨rfl,⟨q2,q3⟩,rfl⟩
theorem f15_11_F_e(e v:Nat)(v6 v7 v13:AV)(n8 n14 n48:Int)(st:St):evR gA41 sL31 (f15P 11) ⟨74,[(0,(pt e)),(5,(pt v)),(6,v6),(7,v7),(8,(i64 n8)),(13,v13),(14,(i64 n14))],[]⟩ st [.av (i64 n48),.av FF]=some ((.exit 2),74,[(pt e),(pt v),v6,v7,(i64 n8)],st,[lenA E0 32 v13=some (i64 n48),Bt 3 .lss n14 n48 FF]):=by kernel_rfl
theorem f15_11_F{e v:Nat}{v6 v7 v13:AV}{n8 n14 n48:Int}{st:St}(h1:lenA E0 32 v13=some (i64 n48))(h2:Bt 3 .lss n14 n48 FF){T:Tm}(hT:f15L10 T (pt e) (pt v) v6 v7 (i64 n8) v13 (i64 n14)):AW Tryz.prog (f15P 11) (fun ex T' st'=>ex=(.exit 2)∧f15L5 T' (pt e) (pt v) v6 v7 (i64 n8)∧st'=st) T st:=by
 obtain ⟨hn,g0,g5,g6,g7,g8,g13,g14⟩:=hT
 exact genR (f15_11_F_e e v v6 v7 v13 n8 n14 n48 st) (kk h1 (kk h2 Ob.ok_nil)) hn (conz g0 (conz g5 (conz g6 (conz g7 (conz g8 (conz g13 (one g14))))))) fun T' q2 q3=>by simp only [gA41,List.cons.injEq,and_true] at q3;exact ⟨rfl,⟨q2,q3⟩,rfl⟩
abbrev sL32:List Nat:= [2068,5000,7067,7069]
theorem f15_12_e(e v:Nat)(v6 v7 q67:AV)(n8 n68 n69:Int)(st s1:St):evR gA41 sL32 (f15P 12) ⟨74,[(0,(pt e)),(5,(pt v)),(6,v6),(7,v7),(8,(i64 n8))],[]⟩ st [.av q67,.eff (i64 n68) id,.av (i64 n69),.eff .undef (fun _=>s1)]=some (.normal,74,[(pt e),(pt v),v6,v7,(i64 n8)],s1,[indexAddrA E0 73 v7 (i64 n8)=some q67,loadA E0 st 3 q67=some (i64 n68)∧st=st,Bt 3 .add n68 1 (i64 n69),storeA E0 st 3 (.ptr v 1) (i64 n69)=some s1]):=by kernel_rfl
theorem f15_12{e v:Nat}{v6 v7 q67:AV}{n8 n68 n69:Int}{st s1:St}(h1:indexAddrA E0 73 v7 (i64 n8)=some q67)(h2:loadA E0 st 3 q67=some (i64 n68))(h3:Bt 3 .add n68 1 (i64 n69))(h4:storeA E0 st 3 (.ptr v 1) (i64 n69)=some s1){T:Tm}(hT:f15L5 T (pt e) (pt v) v6 v7 (i64 n8)):AW Tryz.prog (f15P 12) (fun ex T' st'=>ex= .normal∧f15L5 T' (pt e) (pt v) v6 v7 (i64 n8)∧st'=s1) T st:=by
 obtain ⟨hn,g0,g5,g6,g7,g8⟩:=hT
 exact genR (f15_12_e e v v6 v7 q67 n8 n68 n69 st s1) (kk h1 (kk ⟨h2,rfl⟩ (kk h3 (kk h4 Ob.ok_nil)))) hn (conz g0 (conz g5 (conz g6 (conz g7 (one g8))))) fun T' q2 q3=>by simp only [gA41,List.cons.injEq,and_true] at q3;exact ⟨rfl,⟨q2,q3⟩,rfl⟩
theorem f15_13_e(e v:Nat)(v6 v7:AV)(n8 n29:Int)(st:St):evR gA41 [7029] (f15P 13) ⟨74,[(0,(pt e)),(5,(pt v)),(6,v6),(7,v7),(8,(i64 n8))],[]⟩ st [.av (i64 n29)]=some (.normal,74,[(pt e),(pt v),v6,v7,(i64 n29)],st,[Bt 3 .add n8 1 (i64 n29)]):=by kernel_rfl
theorem f15_13{e v:Nat}{v6 v7:AV}{n8 n29:Int}{st:St}(h1:Bt 3 .add n8 1 (i64 n29)){T:Tm}(hT:f15L5 T (pt e) (pt v) v6 v7 (i64 n8)):AW Tryz.prog (f15P 13) (fun ex T' st'=>ex= .normal∧f15L5 T' (pt e) (pt v) v6 v7 (i64 n29)∧st'=st) T st:=by
 obtain ⟨hn,g0,g5,g6,g7,g8⟩:=hT
 exact genR (f15_13_e e v v6 v7 n8 n29 st) (kk h1 Ob.ok_nil) hn (conz g0 (conz g5 (conz g6 (conz g7 (one g8))))) fun T' q2 q3=>by simp only [gA41,List.cons.injEq,and_true] at q3;exact ⟨rfl,⟨q2,q3⟩,rfl⟩
theorem f15_14_e(v:Nat)(v6:AV)(st:St):evR gA9 [] (f15P 14) ⟨74,[(5,(pt v)),(6,v6)],[]⟩ st []=some (.ret,74,[(pt v),v6,(i64 0)],st,[]):=by kernel_rfl
theorem f15_14{v:Nat}{v6:AV}{st:St}{T:Tm}(hT:f15L6 T (pt v) v6):AW Tryz.prog (f15P 14) (fun ex T' st'=>ex= .ret∧f15L1 T' (pt v) v6 (i64 0)∧st'=st) T st:=by
 obtain ⟨hn,g5,g6⟩:=hT
 exact genR (f15_14_e v v6 st) Ob.ok_nil hn (conz g5 (one g6)) fun T' q2 q3=>by simp only [gA9,List.cons.injEq,and_true] at q3;exact ⟨rfl,⟨q2,q3⟩,rfl⟩
noncomputable def f24P(i:Nat):Code:=match Tryz.f24.body with
 |some (.seq x0 (.seq x1 (.seq (.seq x2 (.block 0 (.loop x3))) x4)))=> [x0,x1,x2,x3,x4].getD i .skip
 |_=> .skip
theorem f24body:Tryz.f24.body=some (.seq (f24P 0) (.seq (f24P 1) (.seq (.seq (f24P 2) (.block 0 (.loop (f24P 3)))) (f24P 4)))):=by kernel_rfl
def f24L0(T:Tm)(a0 a1:AV):Prop:=T.n=42∧T.get 0=a0∧T.get 1=a1
theorem f24_0_e(v0 v1:AV)(st:St):evR gA5 [] (f24P 0) ⟨42,[(0,v0),(1,v1)],[]⟩ st []=some (.normal,42,[v0,v1],st,[]):=by kernel_rfl
theorem f24_0{v0 v1:AV}{st:St}{T:Tm}(hT:f24L0 T v0 v1):AW Tryz.prog (f24P 0) (fun ex T' st'=>ex= .normal∧f24L0 T' v0 v1∧st'=st) T st:=by
 obtain ⟨hn,g0,g1⟩:=hT
 exact genR (f24_0_e v0 v1 st) Ob.ok_nil hn (conz g0 (one g1)) fun T' q2 q3=>by simp only [gA5,List.cons.injEq,and_true] at q3;exact ⟨rfl,⟨q2,q3⟩,rfl⟩
def f24L1(T:Tm)(a4:AV):Prop:=T.n=42∧T.get 4=a4
abbrev sL33:List Nat:= [7007,7009,7010]
theorem f24_1_F_e(v0 v1:AV)(st:St)(n7 n9:Int):evR gA5 sL33 (f24P 1) ⟨42,[(0,v0),(1,v1)],[]⟩ st [.av (i64 n7),.av (i64 n9),.av FF]=some (.normal,42,[v0,v1],st,[lenA E0 43 v0=some (i64 n7),lenA E0 47 v1=some (i64 n9),Bt 3 .neq n7 n9 FF]):=by kernel_rfl
theorem f24_1_F{v0 v1:AV}{st:St}{n7 n9:Int}(h1:lenA E0 43 v0=some (i64 n7))(h2:lenA E0 47 v1=some (i64 n9))(h3:Bt 3 .neq n7 n9 FF){T:Tm}(hT:f24L0 T v0 v1):AW Tryz.prog (f24P 1) (fun ex T' st'=>ex= .normal∧f24L0 T' v0 v1∧st'=st) T st:=by
 obtain ⟨hn,g0,g1⟩:=hT
 exact genR (f24_1_F_e v0 v1 st n7 n9) (kk h1 (kk h2 (kk h3 Ob.ok_nil))) hn (conz g0 (one g1)) fun T' q2 q3=>by simp only [gA5,List.cons.injEq,and_true] at q3;exact ⟨rfl,⟨q2,q3⟩,rfl⟩
def f24L2(T:Tm)(a0 a1 a12 a13:AV):Prop:=T.n=42∧T.get 0=a0∧T.get 1=a1∧T.get 12=a12∧T.get 13=a13
abbrev gA46(T:Tm):List AV:= [T.get 0,T.get 1,T.get 12,T.get 13]
theorem f24_2_e(v0 v1:AV)(st:St)(n12:Int):evR gA46 [7012] (f24P 2) ⟨42,[(0,v0),(1,v1)],[]⟩ st [.av (i64 n12)]=some (.normal,42,[v0,v1,(i64 n12),(i64 0)],st,[lenA E0 43 v0=some (i64 n12)]):=by kernel_rfl
theorem f24_2{v0 v1:AV}{st:St}{n12:Int}(h1:lenA E0 43 v0=some (i64 n12)){T:Tm}(hT:f24L0 T v0 v1):AW Tryz.prog (f24P 2) (fun ex T' st'=>ex= .normal∧f24L2 T' v0 v1 (i64 n12) (i64 0)∧st'=st) T st:=by
 obtain ⟨hn,g0,g1⟩:=hT
 exact genR (f24_2_e v0 v1 st n12) (kk h1 Ob.ok_nil) hn (conz g0 (one g1)) fun T' q2 q3=>by simp only [gA46,List.cons.injEq,and_true] at q3;exact ⟨rfl,⟨q2,q3⟩,rfl⟩
abbrev sL34:List Nat:= [6011,7014,7018,7023,7026,7030,7035,7041,8000]
theorem f24_3_TFT_e(v0 v1 v32 v37:AV)(n12 n13 n20 n25 n41:Int)(st s1:St)(p18 o18 p23 o23 p30 o30 p35 o35:Nat):evR gA46 sL34 (f24P 3) ⟨42,[(0,v0),(1,v1),(12,(i64 n12)),(13,(i64 n13))],[]⟩ st [.av TT,.eff (.ptr p18 o18) id,.eff (i64 n20) id,.eff (.ptr p23 o23) id,.eff (i64 n25) id,.eff FF id,.eff (.ptr p30 o30) id,.eff v32 id,.eff (.ptr p35 o35) id,.eff v37 id,.eff TT (fun _=>s1),.av (i64 n41)]=some (.normal,42,[v0,v1,(i64 n12),(i64 n41)],s1.show st [p18,p23,p30,p35],[Bt 3 .lss n13 n12 TT,∀k∈ [p18,p23,p30,p35],k<st.next,indexAddrA E0 43 v0 (i64 n13)=some (.ptr p18 o18),[p18,p23,p30,p35].contains p18=true∧LI st p18 o18 n20,indexAddrA E0 47 v1 (i64 n13)=some (.ptr p23 o23),[p18,p23,p30,p35].contains p23=true∧LI st p23 o23 n25,Bt 3 .neq n20 n25 FF,indexAddrA E0 43 v0 (i64 n13)=some (.ptr p30 o30),[p18,p23,p30,p35].contains p30=true∧loadA E0 st 22 (.ptr p30 (o30+1))=some v32,indexAddrA E0 47 v1 (i64 n13)=some (.ptr p35 o35),[p18,p23,p30,p35].contains p35=true∧loadA E0 st 22 (.ptr p35 (o35+1))=some v37,(true=true→ [p18,p23,p30,p35].all (fun k=>(st.get k).isSome)=true),obC 11 [v32,v37] (st.hide [p18,p23,p30,p35]) TT s1,Bt 3 .add n13 1 (i64 n41)]):=by kernel_rfl
theorem f24_3_TFT{v0 v1 v32 v37:AV}{n12 n13 n20 n25 n41:Int}{st s1:St}{p18 o18 p23 o23 p30 o30 p35 o35:Nat}(h1:Bt 3 .lss n13 n12 TT)(h2:∀k∈ [p18,p23,p30,p35],k<st.next)(h3:indexAddrA E0 43 v0 (i64 n13)=some (.ptr p18 o18))(h4:LI st p18 o18 n20)(h5:indexAddrA E0 47 v1 (i64 n13)=some (.ptr p23 o23))(h6:LI st p23 o23 n25)(h7:Bt 3 .neq n20 n25 FF)(h8:indexAddrA E0 43 v0 (i64 n13)=some (.ptr p30 o30))(h9:loadA E0 st 22 (.ptr p30 (o30+1))=some v32)(h10:indexAddrA E0 47 v1 (i64 n13)=some (.ptr p35 o35))(h11:loadA E0 st 22 (.ptr p35 (o35+1))=some v37)(h12: [p18,p23,p30,p35].all (fun k=>(st.get k).isSome)=true)(h13:obC 11 [v32,v37] (st.hide [p18,p23,p30,p35]) TT s1)(h14:Bt 3 .add n13 1 (i64 n41)){T:Tm}(hT:f24L2 T v0 v1 (i64 n12) (i64 n13)):AW Tryz.prog (f24P 3) (fun ex T' st'=>ex= .normal∧f24L2 T' v0 v1 (i64 n12) (i64 n41)∧st'=(s1.show st [p18,p23,p30,p35])) T st:=by
 obtain ⟨hn,g0,g1,g12,g13⟩:=hT
 exact genR (f24_3_TFT_e v0 v1 v32 v37 n12 n13 n20 n25 n41 st s1 p18 o18 p23 o23 p30 o30 p35 o35) (kk h1 (kk h2 (kk h3 (kk ⟨by simp,h4⟩ (kk h5 (kk ⟨by simp,h6⟩ (kk h7 (kk h8 (kk ⟨by simp,h9⟩ (kk h10 (kk ⟨by simp,h11⟩ (kk (fun _=>h12) (kk h13 (kk h14 Ob.ok_nil)))))))))))))) hn (conz g0 (conz g1 (conz g12 (one g13)))) fun T' q2 q3=>by simp only [gA46,List.cons.injEq,and_true] at q3;exact ⟨rfl,⟨q2,q3⟩,rfl⟩
def f24L3(T:Tm):Prop:=T.n=42
theorem f24_3_F_e(v0 v1:AV)(n12 n13:Int)(st:St):evR gA8 sL34 (f24P 3) ⟨42,[(0,v0),(1,v1),(12,(i64 n12)),(13,(i64 n13))],[]⟩ st [.av FF]=some ((.exit 0),42,[],st,[Bt 3 .lss n13 n12 FF]):=by kernel_rfl
theorem f24_3_F{v0 v1:AV}{n12 n13:Int}{st:St}(h1:Bt 3 .lss n13 n12 FF){T:Tm}(hT:f24L2 T v0 v1 (i64 n12) (i64 n13)):AW Tryz.prog (f24P 3) (fun ex T' st'=>ex=(.exit 0)∧f24L3 T'∧st'=st) T st:=by
 obtain ⟨hn,g0,g1,g12,g13⟩:=hT
 exact (gen_run (G:=fun T=>([]:List AV)) hE (f24_3_F_e v0 v1 n12 n13 st) (kk h1 Ob.ok_nil) hn (conz g0 (conz g1 (conz g12 (one g13))))).mono fun ex T' st' ⟨q1,q2,q3,q4⟩=>by exact ⟨q1,q2,q4⟩
theorem f24_4_e(st:St):evR gA7 [] (f24P 4) ⟨42,[],[]⟩ st []=some (.ret,42,[TT],st,[]):=by kernel_rfl
theorem f24_4{st:St}{T:Tm}(hT:f24L3 T):AW Tryz.prog (f24P 4) (fun ex T' st'=>ex= .ret∧f24L1 T' TT∧st'=st) T st:=by
 have hn:T.n=42:=hT
 exact genR (f24_4_e st) Ob.ok_nil hn (fun q hq=>by cases hq) fun T' q2 q3=>by simp only [gA7,List.cons.injEq,and_true] at q3;exact ⟨rfl,⟨q2,q3⟩,rfl⟩
end
end Go.Proofs.YtalchcdenhfmiaaGreatDoor.E
