/- Part 2 of the proof, over the abstract machine: contracts of the functions that the statement reaches, joined out of several texts. Condition: none beyond those that the lemmas name. -/
import Derived.Test.YtnknfheabnogaaaGreatDoorP1
namespace Go.Proofs.YtnknfheabnogaaaGreatDoor.E
open Go Go.Proofs
section
set_option maxRecDepth 8000
/-! ### cells -/
theorem ld1{t a:Nat}{v:AV}{st:St}{t':Nat}(ht:(E0.ty t).map (fun i=>isAggD i.desc)=some false)(h:st.get a=some (.row [v] t')):loadA E0 st t (.ptr a 0)=some v:=by
  simp only [loadA,h];exact plainT ht rfl
theorem sto1{t a:Nat}{v w:AV}{st:St}{t':Nat}(hsz:tySize E0 t=some 1)(h:st.get a=some (.row [v] t'))(hl:a∉st.lock)(hw:avCells w=some [w]):storeA E0 st t (.ptr a 0) w=some (st.set a (.row [w] t')):=by
  unfold storeA
  simp only [hw,St.wget_of h hl]
  rw [if_pos ⟨hsz,by simp⟩]
  rfl
theorem k9:(E0.ty 9).map (fun i=>isAggD i.desc)=some false:=by kernel_rfl
theorem k40:(E0.ty 22).map (fun i=>isAggD i.desc)=some false:=by kernel_rfl
theorem k3:(E0.ty 3).map (fun i=>isAggD i.desc)=some false:=by kernel_rfl
theorem k33:(E0.ty 23).map (fun i=>isAggD i.desc)=some false:=by kernel_rfl
theorem k52:(E0.ty 60).map (fun i=>isAggD i.desc)=some false:=by kernel_rfl
theorem z9:tySize E0 9=some 1:=by kernel_rfl
theorem z40:tySize E0 22=some 1:=by kernel_rfl
theorem z3:tySize E0 3=some 1:=by kernel_rfl
theorem z33:tySize E0 23=some 1:=by kernel_rfl
theorem z38:tySize E0 54=some 5:=by kernel_rfl
theorem g38:∃i,E0.ty 54=some i∧isAggD i.desc=true∧i.size=5:=by
  have h:(E0.ty 54).map (fun i=>(isAggD i.desc,i.size))=some (true,5):=by kernel_rfl
  obtain ⟨i,h1,h2⟩:=Option.map_eq_some_iff.1 h
  simp only [Prod.mk.injEq] at h2
  exact ⟨i,h1,h2.1,h2.2⟩
theorem el40:ElT 22 54 5:=⟨elT_of (by kernel_rfl),by kernel_rfl,fun st x=>by
  have:(E0.ty 22).map (·.desc)=some (.slice 54):=by kernel_rfl
  obtain ⟨i,h1,h2⟩:=Option.map_eq_some_iff.1 this
  simp only [srcA,h1,h2],fun a b c n f=>by
  have:(E0.ty 22).map (·.desc)=some (.slice 54):=by kernel_rfl
  obtain ⟨i,h1,h2⟩:=Option.map_eq_some_iff.1 this
  simp only [lenA,h1,h2],by kernel_rfl⟩
theorem al38(st:St):allocA E0 st 54=some (.ptr st.next 0,st.push (.row [i64 0,i64 0,i64 0,.nils,.nils] 54)):=by kernel_rfl
theorem bs40(st:St)(a b c d e:AV):buildSliceA E0 st 22 1 [(0,.agg [a,b,c,d,e])]=some (.sl st.next 5 0 1 true,st.push (.row [a,b,c,d,e] 54)):=by kernel_rfl
theorem ld38{st:St}{a:Nat}{cs:List AV}(h:st.get a=some (.row cs 54))(hc:cs.length=5):loadA E0 st 54 (.ptr a 0)=some (.agg cs):=by
  obtain ⟨i,h1,h2,h3⟩:=g38
  simp only [loadA,h,partA,h1,h2,if_true,h3]
  rw [if_pos (by omega),List.drop_zero,List.take_of_length_le (by omega)]
theorem st38{st:St}{a:Nat}{vs cs:List AV}(h:st.get a=some (.row vs 54))(hv:vs.length=5)(hc:cs.length=5)(hl:a∉st.lock):storeA E0 st 54 (.ptr a 0) (.agg cs)=some (st.set a (.row cs 54)):=by
  unfold storeA
  simp only [avCells,St.wget_of h hl]
  rw [if_pos ⟨by rw [z38,hc],by omega⟩]
  rw [List.take_zero,List.nil_append,Nat.zero_add,List.drop_eq_nil_of_le (by omega),List.append_nil]
theorem cutsuf_ok(st:St)(s:List UInt8)(h0:s≠ [])(hb:s.length≤9000000000000000000):obC 45 [sb s,str ⟨#[10]⟩] st (if s.drop (s.length- 1)= [10] then .tup [sb (s.take (s.length- 1)),TT] else .tup [sb s,FF]) st:=by
  have hpos:0<s.length:=List.length_pos_iff.2 h0
  have hl10:lenA E0 9 (str ⟨#[10]⟩)=some (i64 1):=len_sb [10]
  have hsub:binA E0 .sub 3 (i64 s.length) (i64 1)=some (i64 ((s.length- 1:Nat):Int)):=sub3 (a:=s.length) (b:=1) (by omega) hb
  have hge:binA E0 .geq 3 (i64 s.length) (i64 1)=some TT:=geqT (by omega)
  by_cases h:s.drop (s.length- 1)= [10]
  · rw [if_pos h]
    have h57:obC 81 [sb s,str ⟨#[10]⟩] st TT st:=f81_TT (len_sb s) hl10 hge (len_sb s) hl10 hsub (slice_lo st (by omega)) (eq_sbT h)
    have h47:=f68_T h57 (len_sb s) hl10 hsub (slice_hi st (l:=s) (k:=s.length- 1) (by omega))
    exact f45 (b8b:=true) h47
  · rw [if_neg h]
    have h57:obC 81 [sb s,str ⟨#[10]⟩] st FF st:=f81_TF (len_sb s) hl10 hge (len_sb s) hl10 hsub (slice_lo st (by omega)) (eq_sbF h)
    exact f45 (b8b:=false) (f68_F h57)
theorem line_cut(st:St){s:List UInt8}(h0:s≠ [])(hb:s.length≤2000000000):obC 45 [sb (lineB s),str ⟨#[10]⟩] st (.tup [sb (lineOf s).1,bo (lineOf s).2.1]) st:=by
  by_cases h10:10∈s
  · have e1:lineB s=s.takeWhile (· ≠10)++ [10]:=by unfold lineB;rw [if_pos h10]
    have e2:lineOf s=(s.takeWhile (· ≠10),true,(s.dropWhile (· ≠10)).drop 1):=by unfold lineOf;rw [if_pos h10]
    have hle:(s.takeWhile (· ≠10)).length≤s.length:=(List.takeWhile_prefix _).length_le
    have:=cutsuf_ok st (s.takeWhile (· ≠10)++ [10]) (by simp) (by simp only [List.length_append,List.length_singleton];omega)
    rw [if_pos (by simp)] at this
    have e3:(s.takeWhile (· ≠10)++ [10]).take ((s.takeWhile (· ≠10)++ [10]).length- 1)=s.takeWhile (· ≠10):=by simp
    rw [e3] at this
    rw [e1,e2]
    exact this
  · have e1:lineB s=s:=by unfold lineB;rw [if_neg h10]
    have e2:lineOf s=(s,false,[]):=by unfold lineOf;rw [if_neg h10]
    have:=cutsuf_ok st s h0 (by omega)
    rw [if_neg (fun e=>h10 (List.mem_of_mem_drop (by rw [e];simp)))] at this
    rw [e1,e2]
    exact this
/-! ### one round -/
structure Ce where
  p3:Nat
  p4:Nat
  p5:Nat
  p6:Nat
  p7:Nat
structure PJ (st0 st:St) (c:Ce) (p:Nat) (s:List UInt8) (L:AV) (n:Nat) (cells:List AV):Prop where
  rest:Rest st0 st []
  r3:st.get c.p3=some (.row [.fn (.func 24) [] []] 60)
  r4:∃v,st.get c.p4=some (.row [v] 22)
  r5:∃v,st.get c.p5=some (.row [v] 3)
  r6:∃v,st.get c.p6=some (.row [v] 23)
  r7:st.get c.p7=some (.row [L] 22)
  rp:st.get p=some (.row [sb s] 9)
  ls:Ls st 54 5 L n cells
  n4:st0.next≤c.p4
  n5:st0.next≤c.p5
  n6:st0.next≤c.p6
  n7:st0.next≤c.p7
  np:st0.next≤p
  fr:∀j∈fid L,st0.next≤j
  ne:c.p4≠c.p7
/-- rows of bytes and of small numbers stay -/
def Keep5(s s':St):Prop:=∀i vs ty,(ty=5∨ty=66)→s.get i=some (.row vs ty)→s'.get i=some (.row vs ty)
theorem Keep5.rest{s s':St}(h:Rest s s' []):Keep5 s s':=fun i vs ty _ hg=>h.keep i _ (by simp) hg
theorem Keep5.trans{a b c:St}(h:Keep5 a b)(k:Keep5 b c):Keep5 a c:=fun i vs ty ht hg=>k i vs ty ht (h i vs ty ht hg)
theorem Keep5.set{s:St}{a:Nat}{vs:List AV}{ty:Nat}(h:s.get a=some (.row vs ty))(ht:ty≠5∧ty≠66)(o:AObj):Keep5 s (s.set a o):=fun i vs' ty' ht' hg=>by
  rw [St.get_set,if_neg]
  · exact hg
  · rintro rfl
    rw [h] at hg
    simp only [Option.some.injEq,AObj.row.injEq] at hg
    rcases ht' with e|e
    · exact ht.1 (hg.2.trans e)
    · exact ht.2 (hg.2.trans e)
theorem Keep5.restS{s s':St}{S:List Nat}(h:Rest s s' S)(hS:∀i∈S,∃vs ty,s.get i=some (.row vs ty)∧ty≠5∧ty≠66):Keep5 s s':=fun i vs ty ht hg=>h.keep i _ (fun hi=>by
  obtain ⟨vs',ty',h1,h2⟩:=hS i hi
  rw [hg] at h1
  simp only [Option.some.injEq,AObj.row.injEq] at h1
  rcases ht with e|e
  · exact h2.1 (h1.2.symm.trans e)
  · exact h2.2 (h1.2.symm.trans e)) hg
theorem row_ne{st:St}{a b:Nat}{v w:List AV}{t u:Nat}(h1:st.get a=some (.row v t))(h2:st.get b=some (.row w u))(h:t≠u):a≠b:=fun e=>by
  rw [e,h2] at h1
  simp only [Option.some.injEq,AObj.row.injEq] at h1
  exact h h1.2.symm
theorem Ls.ne{st:St}{e sz n:Nat}{l:AV}{cells:List AV}(h:Ls st e sz l n cells){a:Nat}{v:List AV}{t:Nat}(ha:st.get a=some (.row v t))(ht:t≠e):a∉fid l:=fun hm=>by
  rcases h with ⟨_,_,rfl⟩|⟨_,id,f,rfl,hg⟩
  · cases hm
  · simp only [fid,List.mem_singleton] at hm
    subst hm
    exact row_ne ha hg ht rfl
theorem PJ.keep{st0 st st':St}{c:Ce}{p:Nat}{s:List UInt8}{L:AV}{n:Nat}{cells:List AV}(h:PJ st0 st c p s L n cells)(hr:Rest st st' [])(hw0:st0.wf):PJ st0 st' c p s L n cells:=by
  have k:∀{i o},st.get i=some o→st'.get i=some o:=fun {i o} hg=>hr.keep i o (by simp) hg
  obtain ⟨v4,h4⟩:=h.r4
  obtain ⟨v5,h5⟩:=h.r5
  obtain ⟨v6,h6⟩:=h.r6
  exact ⟨h.rest.trans hr,k h.r3,⟨v4,k h4⟩,⟨v5,k h5⟩,⟨v6,k h6⟩,k h.r7,k h.rp,h.ls.rest hr (fun i _=>by simp),h.n4,h.n5,h.n6,h.n7,h.np,h.fr,h.ne⟩
/-- what an event's reading comes to -/
def EvC(st0:St)(V:List UInt8→List AV→St→Prop)(ev:List UInt8→Bool)(b:List UInt8):Prop:=
  ∀σ,Rest st0 σ []→∃x1 x2 x3 x4 x5 s',obC 24 [sb b] σ (.tup [.agg [x1,x2,x3,x4,x5],bo (ev b)]) s'∧Rest σ s' []∧(ev b=true→V b [x1,x2,x3,x4,x5] s')
theorem round_ok{st0 σ:St}{c:Ce}{p:Nat}{s0 s:List UInt8}{L:AV}{n:Nat}{cells:List AV}{V:List UInt8→List AV→St→Prop}{ev:List UInt8→Bool}(hw0:st0.wf)(hl0:st0.lock= [])(hJ:PJ st0 σ c p s L n cells)(h0:s0≠ [])(hb:s0.length≤2000000000)(hn:n≤2000000000)(hev:EvC st0 V ev (lineOf s0).1):
    ∃bb z,(∀(T0:Tm) (yf:AV),f23L4 T0 (.ptr c.p3 0) (.ptr c.p4 0) (.ptr c.p5 0) (.ptr c.p6 0) (.ptr c.p7 0) yf→RoundA Tryz.prog 18 (f23P 4) (f23P 5) T0 (sb (lineB s0)) σ (fun b st2=>b=bb∧st2=z))∧
      ((bb=none∧(lineOf s0).2.1=true∧ev (lineOf s0).1=true∧∃L' cs,PJ st0 z c p s L' (n+1) (cells++cs)∧cs.length=5∧(∀V':St→Prop,(∀a b,V' a→Keep5 a b→V' b)→V' σ→V' z)∧∃s',V (lineOf s0).1 cs s'∧Keep5 s' z)∨
       (bb=some .ret∧¬((lineOf s0).2.1=true∧ev (lineOf s0).1=true)∧Rest st0 z []∧z.get c.p4=some (.row [.nils] 22)∧z.get c.p5=some (.row [i64 ((n+1:Nat):Int)] 3)∧z.get c.p6=some (.row [i64 5] 23))):=by
  have hlk:σ.lock= []:=hJ.rest.lock.trans hl0
  have hcut:=line_cut σ h0 hb
  obtain ⟨x1,x2,x3,x4,x5,s2,e1,e2,e3⟩:=hev σ hJ.rest
  have hJ2:=hJ.keep e2 hw0
  have hw2:=e2.wf
  have hl2:s2.lock= []:=e2.lock.trans hlk
  have hr3:=Rest.push hw2 (.row [i64 0,i64 0,i64 0,.nils,.nils] 54) []
  have hr4:=Rest.set (st:=s2.push (.row [i64 0,i64 0,i64 0,.nils,.nils] 54)) hr3.wf (id:=s2.next) (by simp) (.row [x1,x2,x3,x4,x5] 54) (S:= [s2.next]) (by simp)
  have hr24:Rest s2 ((s2.push (.row [i64 0,i64 0,i64 0,.nils,.nils] 54)).set s2.next (.row [x1,x2,x3,x4,x5] 54)) []:=hr3.fresh hr4 hw2 (by simp)
  have hst4:storeA E0 (s2.push (.row [i64 0,i64 0,i64 0,.nils,.nils] 54)) 54 (.ptr s2.next 0) (.agg [x1,x2,x3,x4,x5])=some ((s2.push (.row [i64 0,i64 0,i64 0,.nils,.nils] 54)).set s2.next (.row [x1,x2,x3,x4,x5] 54)):=
    st38 (vs:= [i64 0,i64 0,i64 0,.nils,.nils]) (by rw [St.get_push,if_pos rfl]) rfl rfl (by rw [St.lock_push,hl2];simp)
  have hg4:((s2.push (.row [i64 0,i64 0,i64 0,.nils,.nils] 54)).set s2.next (.row [x1,x2,x3,x4,x5] 54)).get s2.next=some (.row [x1,x2,x3,x4,x5] 54):=by rw [St.get_set,if_pos rfl]
  generalize hs4:(s2.push (.row [i64 0,i64 0,i64 0,.nils,.nils] 54)).set s2.next (.row [x1,x2,x3,x4,x5] 54)=s4 at hr4 hr24 hst4 hg4
  have hJ4:=hJ2.keep hr24 hw0
  have hw4:=hr24.wf
  have hl4:s4.lock= []:=hr24.lock.trans hl2
  have hn4:s4.next=s2.next+1:=by rw [←hs4];rfl
  have hlen:lenA E0 22 L=some (i64 n):=hJ4.ls.len el40
  have hT5:∀(T0:Tm) (yf:AV),f23L4 T0 (.ptr c.p3 0) (.ptr c.p4 0) (.ptr c.p5 0) (.ptr c.p6 0) (.ptr c.p7 0) yf→∀(x:ByteArray),f23L5 (T0.put (some 18) (str x)) (.ptr c.p3 0) (.ptr c.p4 0) (.ptr c.p5 0) (.ptr c.p6 0) (.ptr c.p7 0) (str x):=fun T0 yf hT0 x=>by
    obtain ⟨q0,q3,q4,q5,q6,q7,_⟩:=hT0
    exact ⟨q0,q3,q4,q5,q6,q7,rfl⟩
  have hfit:∀(T0:Tm) (yf:AV),f23L4 T0 (.ptr c.p3 0) (.ptr c.p4 0) (.ptr c.p5 0) (.ptr c.p6 0) (.ptr c.p7 0) yf→T0.fits (some 18)=true:=fun T0 yf hT0=>by
    have:=hT0.1
    simp [Tm.fits,this]
  by_cases hok:(lineOf s0).2.1=true∧ev (lineOf s0).1=true
  · obtain ⟨k1,k2⟩:=hok
    rw [k1] at hcut
    rw [k2] at e1
    have hr5:=Rest.push hw4 (.row [x1,x2,x3,x4,x5] 54) []
    have hls5:=hJ4.ls.rest hr5 (fun i _=>by simp)
    have hx:sliceCells (s4.push (.row [x1,x2,x3,x4,x5] 54)) (.sl s4.next 5 0 1 true)=some (1,[x1,x2,x3,x4,x5]):=by
      simp only [sliceCells,St.get_push,if_true]
      rfl
    obtain ⟨s6,a1,a2,a3,a4⟩:=app_gen el40 hls5 hr5.wf (fun i _=>by rw [hr5.lock,hl4];simp) (by omega) rfl (by decide) hx
    have hJ5:=hJ4.keep hr5 hw0
    have hne7:c.p7∉fid L:=hJ5.ls.ne hJ5.r7 (by decide)
    have h67:s6.get c.p7=some (.row [L] 22):=a3.keep _ _ hne7 hJ5.r7
    have hl6:s6.lock= []:=a3.lock.trans (by rw [St.lock_push,hl4])
    have hst7:=sto1 (w:= .sl (s4.push (.row [x1,x2,x3,x4,x5] 54)).next 5 0 (n+1) false) z40 h67 (by rw [hl6];simp) rfl
    have hlt7:c.p7<s6.next:=a3.wf _ _ h67
    have hr7:=Rest.set a3.wf hlt7 (.row [.sl (s4.push (.row [x1,x2,x3,x4,x5] 54)).next 5 0 (n+1) false] 22) (S:= [c.p7]) (by simp)
    generalize hL':AV.sl (s4.push (.row [x1,x2,x3,x4,x5] 54)).next 5 0 (n+1) false=L' at a1 a2 hst7 hr7
    have hfL':∀j∈fid L',j=s4.next+1:=fun j hj=>by rw [←hL'] at hj;simpa [fid] using hj
    have hrest6:Rest st0 s6 []:=hJ5.rest.fresh a3 hw0 hJ.fr
    have hrest7:Rest st0 (s6.set c.p7 (.row [L'] 22)) []:=hrest6.fresh hr7 hw0 (by simpa using hJ.n7)
    have kp:∀{i:Nat} {v:List AV} {t:Nat},(s4.push (.row [x1,x2,x3,x4,x5] 54)).get i=some (.row v t)→t≠54→i≠c.p7→(s6.set c.p7 (.row [L'] 22)).get i=some (.row v t):=fun {i v t} hg ht hi=>hr7.keep _ _ (by simpa using hi) (a3.keep _ _ (hJ5.ls.ne hg ht) hg)
    obtain ⟨v4,q4⟩:=hJ5.r4
    obtain ⟨v5,q5⟩:=hJ5.r5
    obtain ⟨v6,q6⟩:=hJ5.r6
    have keep46:Keep5 (s4.push (.row [x1,x2,x3,x4,x5] 54)) s6:= .restS a3 fun i hi=>by
      rcases hJ5.ls with ⟨_,_,rfl⟩|⟨_,id,f,rfl,hg⟩
      · cases hi
      · simp only [fid,List.mem_singleton] at hi;subst hi;exact ⟨_,_,hg,by decide,by decide⟩
    have keepz:Keep5 s2 (s6.set c.p7 (.row [L'] 22)):=(Keep5.rest hr24).trans ((Keep5.rest hr5).trans (keep46.trans (.set h67 (by decide) _)))
    refine ⟨none,s6.set c.p7 (.row [L'] 22),fun T0 yf hT0=>⟨hfit T0 yf hT0,fun l=>(f23_4 (hT5 T0 yf hT0 _)).mono fun e T1 z1 ⟨w1,w2,w3⟩=>⟨w1,?_⟩⟩,.inl ⟨rfl,k1,k2,L',[x1,x2,x3,x4,x5],⟨hrest7,kp hJ5.r3 (by decide) (row_ne hJ5.r3 hJ5.r7 (by decide)),⟨v4,kp q4 (by decide) hJ.ne⟩,⟨v5,kp q5 (by decide) (row_ne q5 hJ5.r7 (by decide))⟩,⟨v6,kp q6 (by decide) (row_ne q6 hJ5.r7 (by decide))⟩,by rw [St.get_set,if_pos rfl],kp hJ5.rp (by decide) (row_ne hJ5.rp hJ5.r7 (by decide)),?_,hJ.n4,hJ.n5,hJ.n6,hJ.n7,hJ.np,fun j hj=> ?_,hJ.ne⟩,rfl,fun V' hV hv=>hV _ _ hv ((Keep5.rest e2).trans keepz),s2,e3 k2,keepz⟩⟩
    · subst w3
      refine (f23_5_TT hcut (ld1 k52 hJ.r3) e1 (al38 s2) hst4 (ld1 k40 hJ4.r7) (ld38 hg4 rfl) (bs40 s4 x1 x2 x3 x4 x5) a1 hst7 w2).mono fun e2' T2 z2 ⟨y1,y2,y3⟩=> ?_
      subst y1
      exact ⟨rfl,y3⟩
    · exact a2.rest hr7 fun i hi hi7=>by
        have e1:=hfL' i hi
        simp only [List.mem_singleton] at hi7
        subst hi7
        have:=hw4 _ _ hJ4.r7
        omega
    · have e1:=hfL' j hj
      have:=hJ4.rest.next
      omega
  · -- the row of stores at an error
    have hlt7:c.p7<s4.next:=hw4 _ _ hJ4.r7
    obtain ⟨v4,q4⟩:=hJ4.r4
    obtain ⟨v5,q5⟩:=hJ4.r5
    obtain ⟨v6,q6⟩:=hJ4.r6
    have hs5:storeA E0 (s4.hide [c.p7]) 22 (.ptr c.p4 0) .nils=some ((s4.hide [c.p7]).set c.p4 (.row [.nils] 22)):=sto1 (v:=v4) z40 q4 (by
      show c.p4∉ [c.p7]++s4.lock
      rw [hl4];simpa using hJ.ne) rfl
    have g5:∀i,(((s4.hide [c.p7]).set c.p4 (.row [.nils] 22)).show s4 [c.p7]).get i=if i=c.p4 then some (.row [.nils] 22) else s4.get i:=fun i=>by
      rw [St.show_get,St.get_set,St.hide_get]
      by_cases hi:i=c.p7
      · subst hi
        rw [if_pos ⟨by simp,by rw [hJ4.r7];rfl⟩,if_neg (Ne.symm hJ.ne)]
      · rw [if_neg (fun q=>hi (by simpa using q.1))]
    have n5:(((s4.hide [c.p7]).set c.p4 (.row [.nils] 22)).show s4 [c.p7]).next=s4.next:=by rw [St.show_next];rfl
    have l5:(((s4.hide [c.p7]).set c.p4 (.row [.nils] 22)).show s4 [c.p7]).lock= []:=hl4
    have gl5:(((s4.hide [c.p7]).set c.p4 (.row [.nils] 22)).show s4 [c.p7]).gl=s4.gl:=by rw [St.show_gl];rfl
    generalize hS:((s4.hide [c.p7]).set c.p4 (.row [.nils] 22)).show s4 [c.p7]=S at g5 n5 l5 gl5
    have wS:S.wf:=fun i o hg=>by
      rw [g5] at hg
      rw [n5]
      split at hg
      · rename_i e;subst e;exact hw4 _ _ q4
      · exact hw4 _ _ hg
    have hrS:Rest s4 S [c.p4]:=⟨fun i o hi ho=>by rw [g5,if_neg (by simpa using hi)];exact ho,by omega,l5.trans hl4.symm,gl5,wS⟩
    have p45:c.p5≠c.p4:=row_ne q5 q4 (by decide)
    have p46:c.p6≠c.p4:=row_ne q6 q4 (by decide)
    have p65:c.p6≠c.p5:=row_ne q6 q5 (by decide)
    have t5:S.get c.p5=some (.row [v5] 3):=by rw [g5,if_neg p45];exact q5
    have h6:=sto1 (w:=i64 ((n+1:Nat):Int)) z3 t5 (by rw [l5];simp) rfl
    have r6:=Rest.set wS (wS _ _ t5) (.row [i64 ((n+1:Nat):Int)] 3) (S:= [c.p5]) (by simp)
    have t6:(S.set c.p5 (.row [i64 ((n+1:Nat):Int)] 3)).get c.p6=some (.row [v6] 23):=by rw [St.get_set,if_neg p65,g5,if_neg p46];exact q6
    have h7:=sto1 (w:=i64 5) z33 t6 (by rw [St.lock_set,l5];simp) rfl
    have r7:=Rest.set r6.wf (r6.wf _ _ t6) (.row [i64 5] 23) (S:= [c.p6]) (by simp)
    have hadd:binA E0 .add 3 (i64 n) (i64 1)=some (i64 ((n+1:Nat):Int)):=add3 (a:=n) (b:=1) (by omega)
    refine ⟨some .ret,(S.set c.p5 (.row [i64 ((n+1:Nat):Int)] 3)).set c.p6 (.row [i64 5] 23),fun T0 yf hT0=>⟨hfit T0 yf hT0,fun l=>(f23_4 (hT5 T0 yf hT0 _)).mono fun e T1 z1 ⟨w1,w2,w3⟩=>⟨w1,?_⟩⟩,.inr ⟨rfl,hok,?_,?_,?_,by rw [St.get_set,if_pos rfl]⟩⟩
    · subst w3
      have h6':storeA E0 (((s4.hide [c.p7]).set c.p4 (.row [.nils] 22)).show s4 [c.p7]) 3 (.ptr c.p5 0) (i64 ((n+1:Nat):Int))=some (S.set c.p5 (.row [i64 ((n+1:Nat):Int)] 3)):=by rw [hS];exact h6
      have hall: [c.p7].all (fun k=>(s4.get k).isSome)=true:=by simp [hJ4.r7]
      cases hen:(lineOf s0).2.1 with
      |true=>
        have hev':ev (lineOf s0).1=false:=by
          cases he:ev (lineOf s0).1 with
          |false=>rfl
          |true=>exact absurd ⟨hen,he⟩ hok
        rw [hen] at hcut
        rw [hev'] at e1
        refine (f23_5_TF hcut (ld1 k52 hJ.r3) e1 (al38 s2) hst4 (fun k hk=>by simp only [List.mem_singleton] at hk;omega) (ld1 k40 hJ4.r7) hlen hadd hall hs5 h6' h7 w2).mono fun e2' T2 z2 ⟨y1,y2,y3⟩=> ?_
        subst y1
        exact ⟨rfl,y3⟩
      |false=>
        rw [hen] at hcut
        refine (f23_5_F hcut (ld1 k52 hJ.r3) e1 (al38 s2) hst4 (fun k hk=>by simp only [List.mem_singleton] at hk;omega) (ld1 k40 hJ4.r7) hlen hadd hall hs5 h6' h7 w2).mono fun e2' T2 z2 ⟨y1,y2,y3⟩=> ?_
        subst y1
        exact ⟨rfl,y3⟩
    · exact ((hJ4.rest.fresh hrS hw0 (by simpa using hJ.n4)).fresh r6 hw0 (by simpa using hJ.n5)).fresh r7 hw0 (by simpa using hJ.n6)
    · rw [St.get_set,if_neg (Ne.symm p46),St.get_set,if_neg (Ne.symm p45),g5,if_pos rfl]
    · rw [St.get_set,if_neg (Ne.symm p65),St.get_set,if_pos rfl]
end
section
set_option maxRecDepth 8000
/-! ### the lines, and what is made of them -/
def linesL:Nat→List UInt8→List (List UInt8)
  |0,_=> []
  |_+1,[]=> []
  |n+1,s@(_::_)=>(lineOf s).1::linesL n (lineOf s).2.2
def parseF(ev:List UInt8→Bool):Nat→List UInt8→List (List UInt8)→(List (List UInt8))⊕Nat
  |0,_,A=> .inl A
  |_+1,[],A=> .inl A
  |n+1,s@(_::_),A=>if (lineOf s).2.1=true∧ev (lineOf s).1=true then parseF ev n (lineOf s).2.2 (A++ [(lineOf s).1]) else .inr (A.length+1)
theorem lineOf_lt{s:List UInt8}(h:s≠ []):(lineOf s).2.2.length<s.length:=by
  have hpos:0<s.length:=List.length_pos_iff.2 h
  unfold lineOf
  by_cases h10:10∈s
  · rw [if_pos h10]
    have:=split_ten h10
    have h2:=congrArg List.length this
    simp only [List.length_append,List.length_cons] at h2
    show ((s.dropWhile (· ≠10)).drop 1).length<_
    omega
  · rw [if_neg h10];exact hpos
/-- the things' cells -/
def VL(V:List UInt8→List AV→St→Prop)(z:St)(bs:List (List UInt8))(css:List (List AV)):Prop:=css.length=bs.length∧∀(i:Nat) b cs,bs[i]? =some b→css[i]? =some cs→cs.length=5∧∃s',V b cs s'∧Keep5 s' z
theorem VL.keep{V:List UInt8→List AV→St→Prop}{z z':St}{bs:List (List UInt8)}{css:List (List AV)}(h:VL V z bs css)(hk:Keep5 z z'):VL V z' bs css:=
  ⟨h.1,fun i b cs h1 h2=>⟨(h.2 i b cs h1 h2).1,by obtain ⟨s',h3,h4⟩:=(h.2 i b cs h1 h2).2;exact ⟨s',h3,h4.trans hk⟩⟩⟩
theorem VL.app{V:List UInt8→List AV→St→Prop}{z:St}{bs:List (List UInt8)}{css:List (List AV)}(h:VL V z bs css){b:List UInt8}{cs:List AV}(hc:cs.length=5)(hv:∃s',V b cs s'∧Keep5 s' z):VL V z (bs++ [b]) (css++ [cs]):=by
  refine ⟨by simp [h.1],fun i b' cs' h1 h2=> ?_⟩
  by_cases hi:i<bs.length
  · rw [List.getElem?_append_left hi] at h1
    rw [List.getElem?_append_left (by rw [h.1];exact hi)] at h2
    exact h.2 i _ _ h1 h2
  · have e1:i=bs.length:=by
      have:=(List.getElem?_eq_some_iff.1 h1).1
      simp at this;omega
    subst e1
    rw [List.getElem?_append_right (Nat.le_refl _),Nat.sub_self] at h1
    rw [←h.1,List.getElem?_append_right (Nat.le_refl _),Nat.sub_self] at h2
    simp only [List.getElem?_cons_zero,Option.some.injEq] at h1 h2
    subst h1;subst h2
    exact ⟨hc,hv⟩
def OutP(st0:St)(c:Ce)(p:Nat)(V:List UInt8→List AV→St→Prop)(R:(List (List UInt8))⊕Nat)(bb:Option Code)(z:St):Prop:=match R with
  | .inl bs=>bb=none∧∃L css,PJ st0 z c p [] L bs.length css.flatten∧VL V z bs css
  | .inr k=>bb=some .ret∧Rest st0 z []∧z.get c.p4=some (.row [.nils] 22)∧z.get c.p5=some (.row [i64 (k:Nat)] 3)∧z.get c.p6=some (.row [i64 5] 23)
noncomputable def bodyL:Code:= .seq (f67P 0) (.block 1 (.seq (f67P 1) (.seq (f67P 2) (.seq (f67P 3) (f67P 4)))))
theorem AWY.go{y:YK}{P:Program}{b:Option Code}{a c:Code}{Q:Option Code→Exit→Tm→St→Prop}{L:Tm→Prop}{T:Tm}{st s:St}(h:AW P a (fun ex T' st'=>ex= .normal∧L T'∧st'=s) T st)(k:∀T',L T'→AWY y P b c Q T' s):AWY y P b (.seq a c) Q T st:=
  .seq (.of (h.mono fun ex T' st' ⟨h1,h2,h3⟩=>by subst h1;subst h3;exact k T' h2))
theorem parsed_loop{st0:St}{c:Ce}{p:Nat}{V:List UInt8→List AV→St→Prop}{ev:List UInt8→Bool}(hw0:st0.wf)(hl0:st0.lock= []):∀(n:Nat) (s:List UInt8) (σ:St) (L:AV) (A:List (List UInt8)) (css:List (List AV)),s.length<n→s.length≤2000000000→A.length+s.length≤2000000000→PJ st0 σ c p s L A.length css.flatten→VL V σ A css→(∀b∈linesL n s,EvC st0 V ev b)→
    ∃bb z,OutP st0 c p V (parseF ev n s A) bb z∧∀(T0:Tm) (yf:AV),f23L4 T0 (.ptr c.p3 0) (.ptr c.p4 0) (.ptr c.p5 0) (.ptr c.p6 0) (.ptr c.p7 0) yf→∀(y:YK) (T:Tm),y.p=18→y.assign=f23P 4→y.body=f23P 5→TR y.gE T0 ⟨y.tmps,[]⟩→f67L0 T (.fn (.yield y.l) [] []) (.ptr p 0)→
      LoopY y Tryz.prog bodyL (fun b e _ st'=>(e= .exit 0∨e= .ret)∧b=bb∧st'=z) n none T σ:=by
  intro n
  induction n with
  |zero=>intro s σ L A css hs;omega
  |succ n ih=>
    intro s σ L A css hs hb hAs hJ hV hE0
    have hlk:σ.lock= []:=hJ.rest.lock.trans hl0
    have t9:(E0.ty 9).map (fun i=>isAggD i.desc)=some false:=k9
    have ld:=ld1 k9 hJ.rp
    cases s with
    |nil=>
      refine ⟨none,σ,⟨rfl,L,css,hJ,hV⟩,fun T0 yf hT0 y T _ _ _ _ hT=> ?_⟩
      refine AWY.seq (AWY.of ((f67_0_F ld (len_sb []) (gtrF (by decide)) hT).mono fun ex T' st' ⟨h1,h2,h3⟩=> ?_))
      subst h1;subst h3
      exact ⟨.inl rfl,rfl,rfl⟩
    |cons c0 s'=>
      generalize hs0:c0::s'=s at*
      have h0:s≠ []:=by rw [←hs0];simp
      have hlt:=lineOf_lt h0
      have hcut:=fun (yv:AV) (T:Tm) (hT:f67L0 T yv (.ptr p 0))=>lines_cut hJ.rp hJ.rest.wf (by rw [hlk];simp) h0 hb hT
      have hps:p<σ.next:=hJ.rest.wf _ _ hJ.rp
      have hrc:=Rest.set hJ.rest.wf hps (.row [sb (lineOf s).2.2] 9) (S:= [p]) (by simp)
      have hk5:Keep5 σ (σ.set p (.row [sb (lineOf s).2.2] 9)):= .set hJ.rp (by decide) _
      have kp:∀{i:Nat} {v:List AV} {t:Nat},σ.get i=some (.row v t)→t≠9→(σ.set p (.row [sb (lineOf s).2.2] 9)).get i=some (.row v t):=fun {i v t} hg ht=>hrc.keep _ _ (by simpa using row_ne hg hJ.rp ht) hg
      obtain ⟨v4,q4⟩:=hJ.r4
      obtain ⟨v5,q5⟩:=hJ.r5
      obtain ⟨v6,q6⟩:=hJ.r6
      have hJ1:PJ st0 (σ.set p (.row [sb (lineOf s).2.2] 9)) c p (lineOf s).2.2 L A.length css.flatten:=
        ⟨hJ.rest.fresh hrc hw0 (by simpa using hJ.np),kp hJ.r3 (by decide),⟨v4,kp q4 (by decide)⟩,⟨v5,kp q5 (by decide)⟩,⟨v6,kp q6 (by decide)⟩,kp hJ.r7 (by decide),by rw [St.get_set,if_pos rfl],hJ.ls.rest hrc (fun i hi=>by
          simp only [List.mem_singleton]
          rintro rfl
          exact hJ.ls.ne hJ.rp (by decide) hi),hJ.n4,hJ.n5,hJ.n6,hJ.n7,hJ.np,hJ.fr,hJ.ne⟩
      have hev:EvC st0 V ev (lineOf s).1:=hE0 _ (by rw [←hs0];simp [linesL])
      obtain ⟨bb1,z1,hR,hcase⟩:=round_ok hw0 hl0 hJ1 h0 hb (by omega) hev
      have turn:∀(T0:Tm) (yf:AV),f23L4 T0 (.ptr c.p3 0) (.ptr c.p4 0) (.ptr c.p5 0) (.ptr c.p6 0) (.ptr c.p7 0) yf→∀(y:YK) (T:Tm),y.p=18→y.assign=f23P 4→y.body=f23P 5→TR y.gE T0 ⟨y.tmps,[]⟩→f67L0 T (.fn (.yield y.l) [] []) (.ptr p 0)→∀(Q:Option Code→Exit→Tm→St→Prop),(∀T',bb1.isSome=false→f67L0 T' (.fn (.yield y.l) [] []) (.ptr p 0)→Q bb1 .normal T' z1)→(∀T',bb1.isSome=true→Q bb1 .ret T' z1)→AWY y Tryz.prog none bodyL Q T σ:=by
        intro T0 yf hT0 y T y1 y2 y3 hTR hT Q hQ1 hQ2
        refine AWY.go (f67_0_T ld (len_sb s) (gtrT (by have:=List.length_pos_iff.2 h0;omega)) hT) fun T1 p1=> ?_
        refine AWY.block (AWY.go (f67_1 p1) fun T2 p2=>AWY.go (hcut _ _ p2) fun T3 p3=> ?_)
        refine AWY.seq ((yield6 (K:=fun b st2=>b=bb1∧st2=z1) p3 hTR (by rw [y1,y2,y3];exact hR T0 yf hT0)).mono fun b e T4 z ⟨w1,w2,w3⟩=> ?_)
        subst w1
        obtain ⟨w3,w4⟩:=w3
        subst w3;subst w4
        cases hbs:b.isSome with
        |false=>
          rw [hbs] at w2
          exact AWY.of ((f67_4_F w2).mono fun ex T' st' ⟨h1,h2,h3⟩=>by
            subst h1;subst h3
            exact hQ1 T' hbs h2)
        |true=>
          rw [hbs] at w2
          exact AWY.of ((f67_4_T w2).mono fun ex T' st' ⟨h1,h2,h3⟩=>by
            subst h1;subst h3
            exact hQ2 T' hbs)
      have e0:parseF ev (n+1) s A=if (lineOf s).2.1=true∧ev (lineOf s).1=true then parseF ev n (lineOf s).2.2 (A++ [(lineOf s).1]) else .inr (A.length+1):=by rw [←hs0];rfl
      rcases hcase with ⟨rfl,k1,k2,L',cs,hJ2,hc5,hk,s2,hv2,hk2⟩|⟨rfl,k1,k2,k3,k4,k5⟩
      · have hk1:Keep5 (σ.set p (.row [sb (lineOf s).2.2] 9)) z1:=hk (fun t=>Keep5 _ t) (fun a b h k=>h.trans k) (fun i vs ty _ hg=>hg)
        obtain ⟨bb,z,h1,h2⟩:=ih (lineOf s).2.2 z1 L' (A++ [(lineOf s).1]) (css++ [cs]) (by omega) (by omega) (by simp only [List.length_append,List.length_singleton];omega) (by
          simp only [List.length_append,List.length_singleton,List.flatten_append,List.flatten_cons,List.flatten_nil,List.append_nil]
          exact hJ2) ((hV.keep (hk5.trans hk1)).app hc5 ⟨s2,hv2,hk2⟩) (fun b hb'=>hE0 b (by rw [←hs0];simp only [linesL];rw [hs0];exact List.mem_cons_of_mem _ hb'))
        refine ⟨bb,z,by rw [e0,if_pos ⟨k1,k2⟩];exact h1,fun T0 yf hT0 y T y1 y2 y3 hTR hT=> ?_⟩
        exact turn T0 yf hT0 y T y1 y2 y3 hTR hT _ (fun T' _ hT'=>h2 T0 yf hT0 y T' y1 y2 y3 hTR hT') (fun T' h=>by cases h)
      · refine ⟨some .ret,z1,by rw [e0,if_neg k1];exact ⟨rfl,k2,k3,k4,k5⟩,fun T0 yf hT0 y T y1 y2 y3 hTR hT=> ?_⟩
        exact turn T0 yf hT0 y T y1 y2 y3 hTR hT _ (fun T' h=>by cases h) (fun T' _=>⟨.inr rfl,rfl,rfl⟩)
/-! ### the function -/
theorem AWZ.andThen{P:Program}{fn:Func}{R:AV→St→Prop}{E:Env}(hE:EOK' P E){a b:Code}{L:Tm→Prop}{T:Tm}{st s:St}(h:AW P a (fun ex T' st'=>ex= .normal∧L T'∧st'=s) T st)(k:∀T',L T'→AWZ P fn R b T' s):AWZ P fn R (.seq a b) T st:=
  .seq hE (h.mono fun ex T' st' ⟨h1,h2,h3⟩=>by subst h1;subst h3;exact k T' h2)
end
section
set_option maxRecDepth 8000
/-! ### parsed -/
theorem bx52(st:St)(f:Nat):boxA st 60 (.fn (.func f) [] [])=some (.ptr st.next 0,st.push (.row [.fn (.func f) [] []] 60)):=by kernel_rfl
theorem bx9(st:St)(s:ByteArray):boxA st 9 (str s)=some (.ptr st.next 0,st.push (.row [str s] 9)):=by kernel_rfl
theorem al40(st:St):allocA E0 st 22=some (.ptr st.next 0,st.push (.row [.nils] 22)):=by kernel_rfl
theorem al3(st:St):allocA E0 st 3=some (.ptr st.next 0,st.push (.row [i64 0] 3)):=by kernel_rfl
theorem al33(st:St):allocA E0 st 23=some (.ptr st.next 0,st.push (.row [i64 0] 23)):=by kernel_rfl
theorem res22{T:Tm}{z:St}{p4 p5 p6:Nat}{a b c:AV}(hT:f23L2 T (.ptr p4 0) (.ptr p5 0) (.ptr p6 0))(h4:z.get p4=some (.row [a] 22))(h5:z.get p5=some (.row [b] 3))(h6:z.get p6=some (.row [c] 23)):resA E0 T z Tryz.f23.results.toList=some [a,b,c]:=by
  obtain ⟨_,q4,q5,q6⟩:=hT
  have e:Tryz.f23.results.toList= [.cell 4 22,.cell 5 3,.cell 6 23]:=by kernel_rfl
  rw [e]
  simp only [resA,q4,q5,q6,ld1 k40 h4,ld1 k3 h5,ld1 k33 h6]
  rfl
def st4(st:St)(f:Nat):St:=(((st.push (.row [.fn (.func f) [] []] 60)).push (.row [.nils] 22)).push (.row [i64 0] 3)).push (.row [i64 0] 23)
theorem get_new(st:St)(o:AObj){i:Nat}(h:i=st.next):(st.push o).get i=some o:=by rw [St.get_push,if_pos h]
theorem st4_ok{st:St}(hw:st.wf)(f:Nat):Rest st (st4 st f) []∧(st4 st f).next=st.next+4∧(st4 st f).get st.next=some (.row [.fn (.func f) [] []] 60)∧(st4 st f).get (st.next+1)=some (.row [.nils] 22)∧(st4 st f).get (st.next+2)=some (.row [i64 0] 3)∧(st4 st f).get (st.next+3)=some (.row [i64 0] 23):=by
  have r1:=Rest.push hw (.row [.fn (.func f) [] []] 60) []
  have r2:=Rest.push r1.wf (.row [.nils] 22) []
  have r3:=Rest.push r2.wf (.row [i64 0] 3) []
  have r4:=Rest.push r3.wf (.row [i64 0] 23) []
  refine ⟨((r1.trans r2).trans r3).trans r4,rfl,((r2.trans r3).trans r4).keep _ _ (by simp) (get_new _ _ rfl),(r3.trans r4).keep _ _ (by simp) (get_new _ _ rfl),r4.keep _ _ (by simp) (get_new _ _ rfl),get_new _ _ rfl⟩
theorem pre22{st:St}{f:Nat}{T:Tm}{s:ByteArray}(hT:f23L0 T (str s) (.fn (.func 24) [] []))(hf:f=24):AW Tryz.prog (f23P 0) (fun ex T' st'=>ex= .normal∧f23L1 T' (str s) (.ptr st.next 0) (.ptr (st.next+1) 0) (.ptr (st.next+2) 0) (.ptr (st.next+3) 0)∧st'=st4 st 24) T st:=by
  exact f23_0 (bx52 st 24) (al40 _) (al3 _) (al33 _) hT
theorem parsed_long{st:St}{s:List UInt8}(hw:st.wf)(hl:st.lock= [])(hs:65536<s.length)(hb:s.length≤9000000000000000000):∃z,obC 23 [sb s,.fn (.func 24) [] []] st (.tup [.nils,i64 0,i64 3]) z∧Rest st z []:=by
  obtain ⟨r0,n0,g3,g4,g5,g6⟩:=st4_ok hw 24
  have l0:(st4 st 24).lock= []:=r0.lock.trans hl
  have h1:=sto1 (w:= .nils) z40 g4 (by rw [l0];simp) rfl
  have r1:=Rest.set r0.wf (r0.wf _ _ g4) (.row [.nils] 22) (S:= [st.next+1]) (by simp)
  have g5':((st4 st 24).set (st.next+1) (.row [.nils] 22)).get (st.next+2)=some (.row [i64 0] 3):=by rw [St.get_set,if_neg (by omega)];exact g5
  have h2:=sto1 (w:=i64 0) z3 g5' (by rw [St.lock_set,l0];simp) rfl
  have r2:=Rest.set r1.wf (r1.wf _ _ g5') (.row [i64 0] 3) (S:= [st.next+2]) (by simp)
  have g6':(((st4 st 24).set (st.next+1) (.row [.nils] 22)).set (st.next+2) (.row [i64 0] 3)).get (st.next+3)=some (.row [i64 0] 23):=by rw [St.get_set,if_neg (by omega),St.get_set,if_neg (by omega)];exact g6
  have h3:=sto1 (w:=i64 3) z33 g6' (by rw [St.lock_set,St.lock_set,l0];simp) rfl
  have r3:=Rest.set r2.wf (r2.wf _ _ g6') (.row [i64 3] 23) (S:= [st.next+3]) (by simp)
  refine ⟨_,?_,((r0.fresh r1 hw (by simp)).fresh r2 hw (by simp)).fresh r3 hw (by simp)⟩
  refine ACalls.body (E:=E0) hE Tryz.func23 f23body ?_
  refine AW.andThen (pre22 (f:=24) (s:=⟨s.toArray⟩) ⟨rfl,rfl,rfl⟩ rfl) fun T1 q1=> ?_
  refine AW.retThen (f23_1_T (len_sb s) (gtrT (by omega)) h1 h2 h3 q1) fun T2 q2=> ?_
  exact ⟨_,res22 q2 (by rw [St.get_set,if_neg (by omega),St.get_set,if_neg (by omega),St.get_set,if_pos rfl]) (by rw [St.get_set,if_neg (by omega),St.get_set,if_pos rfl]) (by rw [St.get_set,if_pos rfl]),rfl,rfl⟩
theorem parsed_ok{st:St}{s:List UInt8}{V:List UInt8→List AV→St→Prop}{ev:List UInt8→Bool}(hw:st.wf)(hl:st.lock= [])(hs:s.length≤65536)(hev:∀b∈linesL (s.length+1) s,EvC st V ev b):
    ∃r z,obC 23 [sb s,.fn (.func 24) [] []] st r z∧Rest st z []∧match parseF ev (s.length+1) s [] with
      | .inl bs=>∃L css,r= .tup [L,i64 0,i64 0]∧Ls z 54 5 L bs.length css.flatten∧VL V z bs css∧∀j∈fid L,st.next≤j
      | .inr k=>r= .tup [.nils,i64 (k:Nat),i64 5]:=by
  obtain ⟨r0,n0,g3,g4,g5,g6⟩:=st4_ok hw 24
  have r1:=Rest.push r0.wf (.row [.nils] 22) []
  have r2:=Rest.push r1.wf (.row [sb s] 9) []
  generalize hS1:(st4 st 24).push (.row [.nils] 22)=S1 at r1 r2
  generalize hS2:S1.push (.row [sb s] 9)=S2 at r2
  have hn1:S1.next=st.next+5:=by rw [←hS1,St.next_push,n0]
  have hr2:Rest st S2 []:=(r0.trans r1).trans r2
  have k2:∀{i o},(st4 st 24).get i=some o→S2.get i=some o:=fun {i o} hg=>(r1.trans r2).keep i o (by simp) hg
  have gp7:S2.get (st.next+4)=some (.row [.nils] 22):=r2.keep _ _ (by simp) (by rw [←hS1,St.get_push,if_pos n0.symm])
  have gp:S2.get (st.next+5)=some (.row [sb s] 9):=by rw [←hS2,St.get_push,if_pos hn1.symm]
  let c:Ce:=⟨st.next,st.next+1,st.next+2,st.next+3,st.next+4⟩
  have hJ:PJ st S2 c (st.next+5) s .nils 0 []:=⟨hr2,k2 g3,⟨_,k2 g4⟩,⟨_,k2 g5⟩,⟨_,k2 g6⟩,gp7,gp,.inl ⟨rfl,rfl,rfl⟩,by show st.next≤st.next+1;omega,by show st.next≤st.next+2;omega,by show st.next≤st.next+3;omega,by show st.next≤st.next+4;omega,by omega,(fun j hj=>by cases hj),by show st.next+1≠st.next+4;omega⟩
  obtain ⟨bb,z,hout,hLoop⟩:=parsed_loop (V:=V) (ev:=ev) hw hl (s.length+1) s S2 .nils [] [] (by omega) (by omega) (by simp;omega) hJ ⟨rfl,fun i b cs h=>by simp at h⟩ hev
  have main:∀(r:AV) (zz:St),(∀T0:Tm,f23L4 T0 (.ptr c.p3 0) (.ptr c.p4 0) (.ptr c.p5 0) (.ptr c.p6 0) (.ptr c.p7 0) (.fn (.func 67) [] [.ptr (st.next+5) 0])→AfterA Tryz.prog E0 Tryz.f23 (fun r' s'=>r'=r∧s'=zz) 0 (f23P 6) T0 bb z)→obC 23 [sb s,.fn (.func 24) [] []] st r zz:=by
    intro r zz hfin
    refine AWZ.body Tryz.func23 f23body ?_
    refine AWZ.andThen hE (pre22 (f:=24) (s:=⟨s.toArray⟩) ⟨rfl,rfl,rfl⟩ rfl) fun T1 q1=> ?_
    refine AWZ.andThen hE (f23_1_F (len_sb s) (gtrF (by omega)) q1) fun T2 q2=> ?_
    refine AWZ.andThen hE (f23_2 (al40 _) q2) fun T3 q3=> ?_
    rw [hS1] at*
    rw [n0] at q3
    have h31:obC 44 [sb s] S1 (.fn (.func 67) [] [.ptr (st.next+5) 0]) S2:=by
      have:=f44 (bx9 S1 ⟨s.toArray⟩)
      rw [hn1,hS2] at this
      exact this
    refine AWZ.rangeA (f23_3 h31 q3) fun T4 q4=> ?_
    have hT4:T4.eval (.tmp 17)= .fn (.func 67) [] [.ptr (st.next+5) 0]:=q4.2.2.2.2.2.2
    refine rangeB hE hT4 (fnY:=Tryz.f67) (cY:= .block 0 (.loop bodyL)) (by kernel_rfl) f67body rfl fun y y1 y2 y3 hTR=> ?_
    refine AWY.block ((AWY.loopY (hLoop T4 _ q4 y _ y1 y2 y3 hTR ⟨rfl,rfl,rfl⟩)).mono fun b e T5 z5 ⟨w1,w2,w3⟩=> ?_)
    subst w2;subst w3
    rcases w1 with rfl|rfl
    · simp only [blockA,if_true]
      refine ⟨?_,hfin T4 q4⟩
      first|exact .inl rfl|exact .inl trivial
    · exact ⟨.inr rfl,hfin T4 q4⟩
  cases hp:parseF ev (s.length+1) s [] with
  |inl bs=>
    rw [hp] at hout
    obtain ⟨rfl,L,css,hJz,hV⟩:=hout
    have lz:z.lock= []:=hJz.rest.lock.trans hl
    obtain ⟨v4,q4⟩:=hJz.r4
    obtain ⟨v5,q5⟩:=hJz.r5
    obtain ⟨v6,q6⟩:=hJz.r6
    have hcL:avCells L=some [L]:=by
      rcases hJz.ls with ⟨_,_,rfl⟩|⟨_,id,f,rfl,_⟩<;>rfl
    have h1:=sto1 (w:=L) z40 q4 (by rw [lz];simp) hcL
    have a1:=Rest.set hJz.rest.wf (hJz.rest.wf _ _ q4) (.row [L] 22) (S:= [c.p4]) (by simp)
    have p54:c.p5≠c.p4:=row_ne q5 q4 (by decide)
    have p64:c.p6≠c.p4:=row_ne q6 q4 (by decide)
    have p65:c.p6≠c.p5:=row_ne q6 q5 (by decide)
    have q5':(z.set c.p4 (.row [L] 22)).get c.p5=some (.row [v5] 3):=by rw [St.get_set,if_neg p54];exact q5
    have h2:=sto1 (w:=i64 0) z3 q5' (by rw [St.lock_set,lz];simp) rfl
    have a2:=Rest.set a1.wf (a1.wf _ _ q5') (.row [i64 0] 3) (S:= [c.p5]) (by simp)
    have q6':((z.set c.p4 (.row [L] 22)).set c.p5 (.row [i64 0] 3)).get c.p6=some (.row [v6] 23):=by rw [St.get_set,if_neg p65,St.get_set,if_neg p64];exact q6
    have h3:=sto1 (w:=i64 0) z33 q6' (by rw [St.lock_set,St.lock_set,lz];simp) rfl
    have a3:=Rest.set a2.wf (a2.wf _ _ q6') (.row [i64 0] 23) (S:= [c.p6]) (by simp)
    have n4:c.p4∉fid L:=hJz.ls.ne q4 (by decide)
    have n5:c.p5∉fid L:=hJz.ls.ne q5 (by decide)
    have n6:c.p6∉fid L:=hJz.ls.ne q6 (by decide)
    refine ⟨_,_,main (.tup [L,i64 0,i64 0]) (((z.set c.p4 (.row [L] 22)).set c.p5 (.row [i64 0] 3)).set c.p6 (.row [i64 0] 23)) fun T0 hT0=> ?_,((hJz.rest.fresh a1 hw (by simpa using hJz.n4)).fresh a2 hw (by simpa using hJz.n5)).fresh a3 hw (by simpa using hJz.n6),L,css,rfl,?_,?_,hJz.fr⟩
    · obtain ⟨t0,t3,t4,t5,t6,t7,t17⟩:=hT0
      refine (f23_6 (ld1 k40 hJz.r7) h1 h2 h3 ⟨t0,t4,t5,t6,t7⟩).mono fun ex T' s' ⟨w1,w2,w3⟩=> ?_
      subst w1;subst w3
      exact ⟨_,res22 w2 (by rw [St.get_set,if_neg (Ne.symm p64),St.get_set,if_neg (Ne.symm p54),St.get_set,if_pos rfl]) (by rw [St.get_set,if_neg (Ne.symm p65),St.get_set,if_pos rfl]) (by rw [St.get_set,if_pos rfl]),rfl,rfl⟩
    · exact ((hJz.ls.rest a1 (fun i hi e=>n4 (by simp only [List.mem_singleton] at e;rw [←e];exact hi))).rest a2 (fun i hi e=>n5 (by simp only [List.mem_singleton] at e;rw [←e];exact hi))).rest a3 (fun i hi e=>n6 (by simp only [List.mem_singleton] at e;rw [←e];exact hi))
    · exact ((hV.keep (.set q4 (by decide) _)).keep (.set q5' (by decide) _)).keep (.set q6' (by decide) _)
  |inr k=>
    rw [hp] at hout
    obtain ⟨rfl,h1,h2,h3,h4⟩:=hout
    refine ⟨_,_,main (.tup [.nils,i64 (k:Nat),i64 5]) z fun T0 hT0=> ?_,h1,rfl⟩
    obtain ⟨t0,t3,t4,t5,t6,t7,t17⟩:=hT0
    exact ⟨_,res22 ⟨t0,t4,t5,t6⟩ h2 h3 h4,rfl,rfl⟩
end
section
set_option maxRecDepth 8000
/-! ### a new object is marked: its block is its own -/
def St.wg(s:St)(i:Nat):St:={s with gl:=(i,[])::s.gl}
def St.ug(s:St)(st:St):St:={s with gl:=st.gl}
theorem OK.wg{g:G}{st:St}{w:World}{i:Nat}(h:OK g st w)(hi:i<g.n)(hb:g.base i=0)(hs:g.siz i=2):OK g (st.wg i) w:=
  ⟨h.imm,h.obj,h.inj,h.sep,h.n,fun p hp=>by
    rcases List.mem_cons.1 hp with rfl|hp
    · exact ⟨VR.iptr [] [] ⟨i,0,none⟩ rfl (fun _ h=>by simp at h) (fun _ h=>by simp at h) ⟨rfl,List.nil_prefix⟩,fun e=>absurd rfl e,fun _=>⟨hi,hb,hs⟩⟩
    · exact h.glob p hp⟩
theorem Step.ug{g g':G}{st st':St}{w w':World}{i:Nat}(h:Step g (st.wg i) w g' st' w'):Step g st w g' (st'.ug st) w':=
  ⟨h.le,⟨h.ok.imm,h.ok.obj,h.ok.inj,h.ok.sep,h.ok.n,fun p hp=>h.ok.glob p (by rw [h.gl];exact List.mem_cons_of_mem _ hp)⟩,h.os,h.tape,h.output,h.size,h.frame,h.from_,h.froz,h.lock,rfl⟩
theorem alloc_at{P:Program}{E:Env}(hE:EOK P E){st:St}{t:Nat}{z:List AV}(hz:zeroA E t=some z)(hz2:z.length=2){g:G}{w:World}(hok:OK g st w):
    ∃u w' g',(Instr.alloc t true (.tuple #[])).run P w= .ok u w'∧Step g st w g' (st.push (.row z t)) w'∧VR g' (.ptr st.next 0) u∧st.next<g'.n∧g'.base st.next=0∧g'.siz st.next=2:=by
  obtain ⟨f,zv,hf,hfz,hzv,hz1⟩:=zeroA_ok hE hz g
  have hsz:zv.cells.size=2:=by have:=hzv.1;simpa [hz2] using this
  refine ⟨.pointer (some ⟨w.heap.size,0,none⟩),{w with heap:=w.heap.push (.cells zv.cells t)},g.add w.heap.size 0 zv.cells.size,?_,
    step_row hok (fr:=(0,0)) rfl rfl rfl rfl hzv hz1 (List.prefix_refl _) (by simp),?_,?_,?_,?_⟩
  · unfold Instr.alloc
    rw [Sem.run_bind,run_zero hf hfz,Result.andThen_ok]
    rfl
  · rw [←hok.n]
    have:=VR.ptr (g:=g.add w.heap.size 0 zv.cells.size) g.n 0 (Nat.lt_succ_self _)
    simpa using this
  · rw [←hok.n];exact Nat.lt_succ_self _
  · rw [←hok.n];simp [G.add]
  · rw [←hok.n];simp [G.add,hsz]
theorem AW.mark{P:Program}{E:Env}(hE:EOK' P E){id d t:Nat}{o:Oper}{ops:Array Oper}{z:List AV}{c:Code}{Q:Exit→Tm→St→Prop}{T:Tm}{st:St}(hops:ops.toList= [o])(hop:o.op= .alloc t)(hg:o.guard=none)(hod:o.dst=some d)(hd:T.fits (some d)=true)(hz:zeroA E t=some z)(hz2:z.length=2)
    (h:AW P c (fun e T' st'=>Q e T' (st'.ug st)) (T.put (some d) (.ptr st.next 0)) ((st.push (.row z t)).wg st.next)):AW P (.seq (.region id ops false) c) Q T st:=by
  intro g w a hok hT
  refine wp_seq (wp_region_list ?_)
  rw [hops]
  unfold wpList
  have hwt:Region.wanted o (yielded ops a.tmps)=true:=by simp [Region.wanted,hg]
  rw [if_pos hwt]
  refine .inl ?_
  unfold Oper.wp
  obtain ⟨u,w',g',h1,h2,h3,h4,h5,h6⟩:=alloc_at hE.toEOK hz hz2 hok
  have hrun:(execOp a.eval o).run P w= .ok (.value u) w':=by
    unfold execOp
    simp only [hop]
    exact run_v h1
  rw [hrun,Oper.upon_value]
  refine wpList_nil ?_
  show Exit.then _ _ .normal _ _
  rw [hod]
  have hTT:=(hT.mono h2.le).put (d:=some d) hd h3
  refine wp_mono (h g' w' _ (h2.ok.wg h4 h5 h6) hTT) fun e a2 w2 k=> ?_
  obtain ⟨g2,T2,st2,k1,k2,k3⟩:=k
  exact ⟨g2,T2,st2.ug st,h2.trans (k1.ug (st:=st.push (.row z t))),k2,k3⟩
/-! ### append of what any source gives -/
theorem app_src{t u e sz:Nat}(hT:ElT t e sz){σ:St}{l x:AV}{n m:Nat}{cells c:List AV}(h:Ls σ e sz l n cells)(hw:σ.wf)(hlk:∀i∈fid l,i∉σ.lock)(hb:n+m≤100000000000)(hc:c.length=m*sz)(h0:0<m)(hx:srcA E0 σ u x=some (m,c))(hs:isStrTy E0 u=true→sz=1):
    ∃st5,appendA E0 σ t u l x=some (.sl σ.next sz 0 (n+m) false,st5)∧Ls st5 e sz (.sl σ.next sz 0 (n+m) false) (n+m) (cells++c)∧Rest σ st5 (fid l)∧st5.next=σ.next+1:=by
  obtain ⟨ti,z,h1,h2,h3⟩:=hT.el
  have hbb:(n+m)*ti.bytes≤140737488355328:=Nat.le_trans (Nat.mul_le_mul hb h3) (by decide)
  have hb1:m*ti.bytes≤140737488355328:=Nat.le_trans (Nat.mul_le_mul (by omega:m≤100000000000) h3) (by decide)
  rcases h with ⟨rfl,rfl,rfl⟩|⟨hlen,id,f,rfl,hg⟩
  · refine ⟨σ.push (.row c e),?_,.inr ⟨by rw [List.nil_append,hc,Nat.zero_add],_,_,rfl,by rw [St.get_push,if_pos rfl,List.nil_append]⟩,Rest.push hw _ _,rfl⟩
    simp only [appendA,h1,hx,h2]
    rw [if_pos ⟨hc,hs⟩,if_neg (by omega),if_pos ⟨hb1,by omega⟩,Nat.zero_add]
  · have hid:=hw _ _ hg
    have hnl:id∉σ.lock:=hlk id (by simp [fid])
    have hcl:(cells++c).length=(n+m)*sz:=by rw [List.length_append,hlen,hc,Nat.add_mul]
    have htk:((cells.drop 0).take (n*sz)++c)=cells++c:=by rw [List.drop_zero,List.take_of_length_le (by omega)]
    cases f with
    |true=>
      refine ⟨σ.push (.row (cells++c) e),?_,.inr ⟨hcl,_,_,rfl,by rw [St.get_push,if_pos rfl]⟩,Rest.push hw _ _,rfl⟩
      simp only [appendA,h1,hx,h2,hg]
      rw [if_pos ⟨hc,hs⟩,if_neg (fun h=>h rfl),if_neg (by omega),if_pos ⟨hbb,by omega⟩,if_pos ⟨trivial,by omega⟩,htk]
      rfl
    |false=>
      refine ⟨(σ.del id).push (.row (cells++c) e),?_,.inr ⟨hcl,_,_,rfl,by rw [St.get_push,if_pos (by simp)]⟩,⟨fun i o hi ho=> ?_,?_,rfl,rfl,push_wf (del_wf hw _) _⟩,rfl⟩
      · simp only [appendA,h1,hx,h2,hg]
        rw [if_pos ⟨hc,hs⟩,if_neg (fun h=>h rfl),if_neg (by omega),if_pos ⟨hbb,by omega⟩,if_pos ⟨trivial,by omega⟩]
        simp only [Bool.false_eq_true,if_false]
        rw [if_pos ⟨by omega,hnl⟩,List.drop_zero]
      · have:=hw _ _ ho
        rw [St.get_push,if_neg (by rw [St.next_del];omega),St.get_del,if_neg (fun e=>hi (by simp [fid,e]))];exact ho
      · show σ.next≤σ.next+1;omega
/-- a string's bytes, appended -/
theorem app_str{σ:St}{l:AV}{b s:List UInt8}(h:OwnB σ l b)(hw:σ.wf)(hlk:σ.lock= [])(hb:b.length+s.length≤100000000000):
    ∃l' st5,appendA E0 σ 51 9 l (sb s)=some (l',st5)∧OwnB st5 l' (b++s)∧Rest σ st5 (fid l)∧(∀j∈fid l',j∈fid l∨σ.next≤j)∧(s= []→l'=l):=by
  have hx:srcA E0 σ 9 (sb s)=some (s.length,bytesAV s):=by simp only [srcA,ty9];rfl
  have hlt:=Ls.lt h hw
  cases s with
  |nil=>
    obtain ⟨ti,z,h1,h2,h3⟩:=el22.el
    have hl:=Ls.lt h hw
    refine ⟨l,σ,?_,by rw [List.append_nil];exact h,.refl hw _,fun j hj=> .inl hj,fun _=>rfl⟩
    rcases h with ⟨h4,h5,rfl⟩|⟨h4,id,f,rfl,hg⟩
    · simp only [appendA,h1,hx,h2]
      rw [if_pos ⟨rfl,fun _=>by trivial⟩];rfl
    · simp only [appendA,h1,hx,h2]
      rw [if_pos ⟨rfl,fun _=>by trivial⟩,if_neg (fun h=>h rfl)];rfl
  |cons c r=>
    obtain ⟨st5,a1,a2,a3,a4⟩:=app_src (u:=9) el22 h hw (fun i _=>by rw [hlk];simp) hb (by rw [bytesAV_len,Nat.mul_one]) (by simp) hx (fun _=>rfl)
    refine ⟨_,st5,a1,?_,a3,fun j hj=> .inr (by simp only [fid,List.mem_singleton] at hj;omega),fun h=>by cases h⟩
    rw [←bytesAV_app] at a2
    unfold OwnB
    rw [List.length_append]
    exact a2
/-! ### the builder -/
def Bld(st:St)(id:Nat)(l:List UInt8):Prop:=(id,[])∈st.gl∧∃p x,st.get id=some (.row [p,x] 83)∧(p= .nilp∨p= .ptr id 0)∧OwnB st x l∧(∀j∈fid x,id≤j)∧(l= []→x= .nils)
end
section
set_option maxRecDepth 100000
noncomputable def f20P(i:Nat):Code:=match Tryz.f20.body with
  |some (.seq x0 (.seq x1 (.seq (.seq x2 (.block 0 (.loop x3))) x4)))=> [x0,x1,x2,x3,x4].getD i .skip
  |_=> .skip
theorem f20body:Tryz.f20.body=some (.seq (f20P 0) (.seq (f20P 1) (.seq (.seq (f20P 2) (.block 0 (.loop (f20P 3)))) (f20P 4)))):=by kernel_rfl
def f20L0(T:Tm)(a0 a1:AV):Prop:=T.n=32∧T.get 0=a0∧T.get 1=a1
theorem f20_0_e(x:AV)(st:St):((evS Tryz.prog E0 noOv noS 100000 [] (f20P 0) ⟨32,[(0,x),(1,(.fn (.func 21) [] []))],[]⟩ st []).map fun q=>(q.1,q.2.1.n,([q.2.1.get 0,q.2.1.get 1]:List AV),q.2.2.1,q.2.2.2.2))=some (.normal,32,[x,(.fn (.func 21) [] [])],st,[]):=by kernel_rfl
theorem f20_0{x:AV}{st:St}{T:Tm}(hT:f20L0 T x (.fn (.func 21) [] [])):AW Tryz.prog (f20P 0) (fun ex T' st'=>ex= .normal∧f20L0 T' x (.fn (.func 21) [] [])∧st'=st) T st:=by
  obtain ⟨hn,g0,g1⟩:=hT
  exact (gen_run (G:=fun T=>([T.get 0,T.get 1]:List AV)) hE (f20_0_e x st) Ob.ok_nil hn (conz g0 (one g1))).mono fun ex T' st' ⟨q1,q2,q3,q4⟩=>by simp only [List.cons.injEq,and_true] at q3;exact ⟨q1,⟨q2,q3⟩,q4⟩
def f20L1(T:Tm)(a0 a1 a6:AV):Prop:=T.n=32∧T.get 0=a0∧T.get 1=a1∧T.get 6=a6
def f20L2(T:Tm)(a1 a6 a11 a12 a13:AV):Prop:=T.n=32∧T.get 1=a1∧T.get 6=a6∧T.get 11=a11∧T.get 12=a12∧T.get 13=a13
theorem f20_2_e(x:AV)(p6:Nat)(st:St)(n12:Int):((evS Tryz.prog E0 noOv noS 100000 [7012] (f20P 2) ⟨32,[(0,x),(1,(.fn (.func 21) [] [])),(6,(.ptr p6 0))],[]⟩ st [.av (i64 n12)]).map fun q=>(q.1,q.2.1.n,([q.2.1.get 1,q.2.1.get 6,q.2.1.get 11,q.2.1.get 12,q.2.1.get 13]:List AV),q.2.2.1,q.2.2.2.2))=some (.normal,32,[(.fn (.func 21) [] []),(.ptr p6 0),x,(i64 n12),(i64 0)],st,[lenA E0 22 x=some (i64 n12)]):=by kernel_rfl
theorem f20_2{x:AV}{p6:Nat}{st:St}{n12:Int}(h1:lenA E0 22 x=some (i64 n12)){T:Tm}(hT:f20L1 T x (.fn (.func 21) [] []) (.ptr p6 0)):AW Tryz.prog (f20P 2) (fun ex T' st'=>ex= .normal∧f20L2 T' (.fn (.func 21) [] []) (.ptr p6 0) x (i64 n12) (i64 0)∧st'=st) T st:=by
  obtain ⟨hn,g0,g1,g6⟩:=hT
  exact (gen_run (G:=fun T=>([T.get 1,T.get 6,T.get 11,T.get 12,T.get 13]:List AV)) hE (f20_2_e x p6 st n12) (Ob.ok_cons.2 ⟨h1,Ob.ok_nil⟩) hn (conz g0 (conz g1 (one g6)))).mono fun ex T' st' ⟨q1,q2,q3,q4⟩=>by simp only [List.cons.injEq,and_true] at q3;exact ⟨q1,⟨q2,q3⟩,q4⟩
theorem f20_3_TT_e(p6 a8:Nat)(x q15 v16 v19 v27b:AV)(n12 n13 n27a n28:Int)(st s1 s2 s3 s4:St)(w20a w26:ByteArray):((evS Tryz.prog E0 noOv noS 100000 [2008,2016,2019,5000,6021,6035,7014,7015,7026,7028] (f20P 3) ⟨32,[(1,(.fn (.func 21) [] [])),(6,(.ptr p6 0)),(11,x),(12,(i64 n12)),(13,(i64 n13))],[]⟩ st [.av TT,.av q15,.eff v16 id,.eff (.ptr a8 0) (fun _=>s1),.eff .undef (fun _=>s2),.eff v19 id,.eff (.tup [(str w20a),TT]) (fun _=>s3),.av (str w26),.eff (.tup [(i64 n27a),v27b]) (fun _=>s4),.av (i64 n28)]).map fun q=>(q.1,q.2.1.n,([q.2.1.get 1,q.2.1.get 6,q.2.1.get 11,q.2.1.get 12,q.2.1.get 13]:List AV),q.2.2.1,q.2.2.2.2))=some (.normal,32,[(.fn (.func 21) [] []),(.ptr p6 0),x,(i64 n12),(i64 n28)],s4,[binA E0 .lss 3 (i64 n13) (i64 n12)=some TT,indexAddrA E0 22 x (i64 n13)=some q15,loadA E0 st 54 q15=some v16∧st=st,allocA E0 st 54=some ((.ptr a8 0),s1),storeA E0 s1 54 (.ptr a8 0) v16=some s2,loadA E0 s2 54 (.ptr a8 0)=some v19∧s2=s2,obC 21 [v19] s2 (.tup [(str w20a),TT]) s3,binA E0 .add 9 (str w20a) (str ⟨#[10]⟩)=some (str w26),obC 35 [(.ptr p6 0),(str w26)] s3 (.tup [(i64 n27a),v27b]) s4,binA E0 .add 3 (i64 n13) (i64 1)=some (i64 n28)]):=by kernel_rfl
theorem f20_3_TT{p6 a8:Nat}{x q15 v16 v19 v27b:AV}{n12 n13 n27a n28:Int}{st s1 s2 s3 s4:St}{w20a w26:ByteArray}(h1:binA E0 .lss 3 (i64 n13) (i64 n12)=some TT)(h2:indexAddrA E0 22 x (i64 n13)=some q15)(h3:loadA E0 st 54 q15=some v16)(h4:allocA E0 st 54=some ((.ptr a8 0),s1))(h5:storeA E0 s1 54 (.ptr a8 0) v16=some s2)(h6:loadA E0 s2 54 (.ptr a8 0)=some v19)(h7:obC 21 [v19] s2 (.tup [(str w20a),TT]) s3)(h8:binA E0 .add 9 (str w20a) (str ⟨#[10]⟩)=some (str w26))(h9:obC 35 [(.ptr p6 0),(str w26)] s3 (.tup [(i64 n27a),v27b]) s4)(h10:binA E0 .add 3 (i64 n13) (i64 1)=some (i64 n28)){T:Tm}(hT:f20L2 T (.fn (.func 21) [] []) (.ptr p6 0) x (i64 n12) (i64 n13)):AW Tryz.prog (f20P 3) (fun ex T' st'=>ex= .normal∧f20L2 T' (.fn (.func 21) [] []) (.ptr p6 0) x (i64 n12) (i64 n28)∧st'=s4) T st:=by
  obtain ⟨hn,g1,g6,g11,g12,g13⟩:=hT
  exact (gen_run (G:=fun T=>([T.get 1,T.get 6,T.get 11,T.get 12,T.get 13]:List AV)) hE (f20_3_TT_e p6 a8 x q15 v16 v19 v27b n12 n13 n27a n28 st s1 s2 s3 s4 w20a w26) (Ob.ok_cons.2 ⟨h1,(Ob.ok_cons.2 ⟨h2,(Ob.ok_cons.2 ⟨⟨h3,rfl⟩,(Ob.ok_cons.2 ⟨h4,(Ob.ok_cons.2 ⟨h5,(Ob.ok_cons.2 ⟨⟨h6,rfl⟩,(Ob.ok_cons.2 ⟨h7,(Ob.ok_cons.2 ⟨h8,(Ob.ok_cons.2 ⟨h9,(Ob.ok_cons.2 ⟨h10,Ob.ok_nil⟩)⟩)⟩)⟩)⟩)⟩)⟩)⟩)⟩)⟩) hn (conz g1 (conz g6 (conz g11 (conz g12 (one g13)))))).mono fun ex T' st' ⟨q1,q2,q3,q4⟩=>by simp only [List.cons.injEq,and_true] at q3;exact ⟨q1,⟨q2,q3⟩,q4⟩
def f20L3(T:Tm)(a4 a5:AV):Prop:=T.n=32∧T.get 4=a4∧T.get 5=a5
theorem f20_3_TF_e(p6 a8:Nat)(x q15 v16 v19:AV)(n12 n13:Int)(st s1 s2 s3:St)(w20a:ByteArray):((evS Tryz.prog E0 noOv noS 100000 [2008,2016,2019,5000,6021,6035,7014,7015,7026,7028] (f20P 3) ⟨32,[(1,(.fn (.func 21) [] [])),(6,(.ptr p6 0)),(11,x),(12,(i64 n12)),(13,(i64 n13))],[]⟩ st [.av TT,.av q15,.eff v16 id,.eff (.ptr a8 0) (fun _=>s1),.eff .undef (fun _=>s2),.eff v19 id,.eff (.tup [(str w20a),FF]) (fun _=>s3)]).map fun q=>(q.1,q.2.1.n,([q.2.1.get 4,q.2.1.get 5]:List AV),q.2.2.1,q.2.2.2.2))=some (.ret,32,[(str ⟨#[]⟩),(i64 1)],s3,[binA E0 .lss 3 (i64 n13) (i64 n12)=some TT,indexAddrA E0 22 x (i64 n13)=some q15,loadA E0 st 54 q15=some v16∧st=st,allocA E0 st 54=some ((.ptr a8 0),s1),storeA E0 s1 54 (.ptr a8 0) v16=some s2,loadA E0 s2 54 (.ptr a8 0)=some v19∧s2=s2,obC 21 [v19] s2 (.tup [(str w20a),FF]) s3]):=by kernel_rfl
theorem f20_3_TF{p6 a8:Nat}{x q15 v16 v19:AV}{n12 n13:Int}{st s1 s2 s3:St}{w20a:ByteArray}(h1:binA E0 .lss 3 (i64 n13) (i64 n12)=some TT)(h2:indexAddrA E0 22 x (i64 n13)=some q15)(h3:loadA E0 st 54 q15=some v16)(h4:allocA E0 st 54=some ((.ptr a8 0),s1))(h5:storeA E0 s1 54 (.ptr a8 0) v16=some s2)(h6:loadA E0 s2 54 (.ptr a8 0)=some v19)(h7:obC 21 [v19] s2 (.tup [(str w20a),FF]) s3){T:Tm}(hT:f20L2 T (.fn (.func 21) [] []) (.ptr p6 0) x (i64 n12) (i64 n13)):AW Tryz.prog (f20P 3) (fun ex T' st'=>ex= .ret∧f20L3 T' (str ⟨#[]⟩) (i64 1)∧st'=s3) T st:=by
  obtain ⟨hn,g1,g6,g11,g12,g13⟩:=hT
  exact (gen_run (G:=fun T=>([T.get 4,T.get 5]:List AV)) hE (f20_3_TF_e p6 a8 x q15 v16 v19 n12 n13 st s1 s2 s3 w20a) (Ob.ok_cons.2 ⟨h1,(Ob.ok_cons.2 ⟨h2,(Ob.ok_cons.2 ⟨⟨h3,rfl⟩,(Ob.ok_cons.2 ⟨h4,(Ob.ok_cons.2 ⟨h5,(Ob.ok_cons.2 ⟨⟨h6,rfl⟩,(Ob.ok_cons.2 ⟨h7,Ob.ok_nil⟩)⟩)⟩)⟩)⟩)⟩)⟩) hn (conz g1 (conz g6 (conz g11 (conz g12 (one g13)))))).mono fun ex T' st' ⟨q1,q2,q3,q4⟩=>by simp only [List.cons.injEq,and_true] at q3;exact ⟨q1,⟨q2,q3⟩,q4⟩
def f20L4(T:Tm)(a6:AV):Prop:=T.n=32∧T.get 6=a6
theorem f20_3_F_e(p6:Nat)(x:AV)(n12 n13:Int)(st:St):((evS Tryz.prog E0 noOv noS 100000 [2008,2016,2019,5000,6021,6035,7014,7015,7026,7028] (f20P 3) ⟨32,[(1,(.fn (.func 21) [] [])),(6,(.ptr p6 0)),(11,x),(12,(i64 n12)),(13,(i64 n13))],[]⟩ st [.av FF]).map fun q=>(q.1,q.2.1.n,([q.2.1.get 6]:List AV),q.2.2.1,q.2.2.2.2))=some ((.exit 0),32,[(.ptr p6 0)],st,[binA E0 .lss 3 (i64 n13) (i64 n12)=some FF]):=by kernel_rfl
theorem f20_3_F{p6:Nat}{x:AV}{n12 n13:Int}{st:St}(h1:binA E0 .lss 3 (i64 n13) (i64 n12)=some FF){T:Tm}(hT:f20L2 T (.fn (.func 21) [] []) (.ptr p6 0) x (i64 n12) (i64 n13)):AW Tryz.prog (f20P 3) (fun ex T' st'=>ex=(.exit 0)∧f20L4 T' (.ptr p6 0)∧st'=st) T st:=by
  obtain ⟨hn,g1,g6,g11,g12,g13⟩:=hT
  exact (gen_run (G:=fun T=>([T.get 6]:List AV)) hE (f20_3_F_e p6 x n12 n13 st) (Ob.ok_cons.2 ⟨h1,Ob.ok_nil⟩) hn (conz g1 (conz g6 (conz g11 (conz g12 (one g13)))))).mono fun ex T' st' ⟨q1,q2,q3,q4⟩=>by simp only [List.cons.injEq,and_true] at q3;exact ⟨q1,⟨q2,q3⟩,q4⟩
theorem f20_4_T_e(p6:Nat)(st s1:St)(n29:Int):((evS Tryz.prog E0 noOv noS 100000 [6036,6037,7030] (f20P 4) ⟨32,[(6,(.ptr p6 0))],[]⟩ st [.eff (i64 n29) (fun _=>s1),.av TT]).map fun q=>(q.1,q.2.1.n,([q.2.1.get 4,q.2.1.get 5]:List AV),q.2.2.1,q.2.2.2.2))=some (.ret,32,[(str ⟨#[]⟩),(i64 3)],s1,[obC 36 [(.ptr p6 0)] st (i64 n29) s1,binA E0 .gtr 3 (i64 n29) (i64 65536)=some TT]):=by kernel_rfl
theorem f20_4_T{p6:Nat}{st s1:St}{n29:Int}(h1:obC 36 [(.ptr p6 0)] st (i64 n29) s1)(h2:binA E0 .gtr 3 (i64 n29) (i64 65536)=some TT){T:Tm}(hT:f20L4 T (.ptr p6 0)):AW Tryz.prog (f20P 4) (fun ex T' st'=>ex= .ret∧f20L3 T' (str ⟨#[]⟩) (i64 3)∧st'=s1) T st:=by
  obtain ⟨hn,g6⟩:=hT
  exact (gen_run (G:=fun T=>([T.get 4,T.get 5]:List AV)) hE (f20_4_T_e p6 st s1 n29) (Ob.ok_cons.2 ⟨h1,(Ob.ok_cons.2 ⟨h2,Ob.ok_nil⟩)⟩) hn (one g6)).mono fun ex T' st' ⟨q1,q2,q3,q4⟩=>by simp only [List.cons.injEq,and_true] at q3;exact ⟨q1,⟨q2,q3⟩,q4⟩
theorem f20_4_F_e(p6:Nat)(st s1 s2:St)(n29:Int)(w31:ByteArray):((evS Tryz.prog E0 noOv noS 100000 [6036,6037,7030] (f20P 4) ⟨32,[(6,(.ptr p6 0))],[]⟩ st [.eff (i64 n29) (fun _=>s1),.av FF,.eff (str w31) (fun _=>s2)]).map fun q=>(q.1,q.2.1.n,([q.2.1.get 4,q.2.1.get 5]:List AV),q.2.2.1,q.2.2.2.2))=some (.ret,32,[(str w31),(i64 0)],s2,[obC 36 [(.ptr p6 0)] st (i64 n29) s1,binA E0 .gtr 3 (i64 n29) (i64 65536)=some FF,obC 37 [(.ptr p6 0)] s1 (str w31) s2]):=by kernel_rfl
theorem f20_4_F{p6:Nat}{st s1 s2:St}{n29:Int}{w31:ByteArray}(h1:obC 36 [(.ptr p6 0)] st (i64 n29) s1)(h2:binA E0 .gtr 3 (i64 n29) (i64 65536)=some FF)(h3:obC 37 [(.ptr p6 0)] s1 (str w31) s2){T:Tm}(hT:f20L4 T (.ptr p6 0)):AW Tryz.prog (f20P 4) (fun ex T' st'=>ex= .ret∧f20L3 T' (str w31) (i64 0)∧st'=s2) T st:=by
  obtain ⟨hn,g6⟩:=hT
  exact (gen_run (G:=fun T=>([T.get 4,T.get 5]:List AV)) hE (f20_4_F_e p6 st s1 s2 n29 w31) (Ob.ok_cons.2 ⟨h1,(Ob.ok_cons.2 ⟨h2,(Ob.ok_cons.2 ⟨h3,Ob.ok_nil⟩)⟩)⟩) hn (one g6)).mono fun ex T' st' ⟨q1,q2,q3,q4⟩=>by simp only [List.cons.injEq,and_true] at q3;exact ⟨q1,⟨q2,q3⟩,q4⟩
noncomputable def f29P(i:Nat):Code:=match Tryz.f29.body with
  |some (.seq x0 (.seq x1 (.seq (.seq x2 (.block 0 (.loop x3))) x4)))=> [x0,x1,x2,x3,x4].getD i .skip
  |_=> .skip
theorem f29body:Tryz.f29.body=some (.seq (f29P 0) (.seq (f29P 1) (.seq (.seq (f29P 2) (.block 0 (.loop (f29P 3)))) (f29P 4)))):=by kernel_rfl
def f29L0(T:Tm)(a0 a1:AV):Prop:=T.n=32∧T.get 0=a0∧T.get 1=a1
theorem f29_0_e(x:AV)(st:St):((evS Tryz.prog E0 noOv noS 100000 [] (f29P 0) ⟨32,[(0,x),(1,(.fn (.func 30) [] []))],[]⟩ st []).map fun q=>(q.1,q.2.1.n,([q.2.1.get 0,q.2.1.get 1]:List AV),q.2.2.1,q.2.2.2.2))=some (.normal,32,[x,(.fn (.func 30) [] [])],st,[]):=by kernel_rfl
theorem f29_0{x:AV}{st:St}{T:Tm}(hT:f29L0 T x (.fn (.func 30) [] [])):AW Tryz.prog (f29P 0) (fun ex T' st'=>ex= .normal∧f29L0 T' x (.fn (.func 30) [] [])∧st'=st) T st:=by
  obtain ⟨hn,g0,g1⟩:=hT
  exact (gen_run (G:=fun T=>([T.get 0,T.get 1]:List AV)) hE (f29_0_e x st) Ob.ok_nil hn (conz g0 (one g1))).mono fun ex T' st' ⟨q1,q2,q3,q4⟩=>by simp only [List.cons.injEq,and_true] at q3;exact ⟨q1,⟨q2,q3⟩,q4⟩
def f29L1(T:Tm)(a0 a1 a6:AV):Prop:=T.n=32∧T.get 0=a0∧T.get 1=a1∧T.get 6=a6
def f29L2(T:Tm)(a1 a6 a11 a12 a13:AV):Prop:=T.n=32∧T.get 1=a1∧T.get 6=a6∧T.get 11=a11∧T.get 12=a12∧T.get 13=a13
theorem f29_2_e(x:AV)(p6:Nat)(st:St)(n12:Int):((evS Tryz.prog E0 noOv noS 100000 [7012] (f29P 2) ⟨32,[(0,x),(1,(.fn (.func 30) [] [])),(6,(.ptr p6 0))],[]⟩ st [.av (i64 n12)]).map fun q=>(q.1,q.2.1.n,([q.2.1.get 1,q.2.1.get 6,q.2.1.get 11,q.2.1.get 12,q.2.1.get 13]:List AV),q.2.2.1,q.2.2.2.2))=some (.normal,32,[(.fn (.func 30) [] []),(.ptr p6 0),x,(i64 n12),(i64 0)],st,[lenA E0 37 x=some (i64 n12)]):=by kernel_rfl
theorem f29_2{x:AV}{p6:Nat}{st:St}{n12:Int}(h1:lenA E0 37 x=some (i64 n12)){T:Tm}(hT:f29L1 T x (.fn (.func 30) [] []) (.ptr p6 0)):AW Tryz.prog (f29P 2) (fun ex T' st'=>ex= .normal∧f29L2 T' (.fn (.func 30) [] []) (.ptr p6 0) x (i64 n12) (i64 0)∧st'=st) T st:=by
  obtain ⟨hn,g0,g1,g6⟩:=hT
  exact (gen_run (G:=fun T=>([T.get 1,T.get 6,T.get 11,T.get 12,T.get 13]:List AV)) hE (f29_2_e x p6 st n12) (Ob.ok_cons.2 ⟨h1,Ob.ok_nil⟩) hn (conz g0 (conz g1 (one g6)))).mono fun ex T' st' ⟨q1,q2,q3,q4⟩=>by simp only [List.cons.injEq,and_true] at q3;exact ⟨q1,⟨q2,q3⟩,q4⟩
theorem f29_3_TT_e(p6 a8:Nat)(x q15 v16 v19 v27b:AV)(n12 n13 n27a n28:Int)(st s1 s2 s3 s4:St)(w20a w26:ByteArray):((evS Tryz.prog E0 noOv noS 100000 [2008,2016,2019,5000,6030,6035,7014,7015,7026,7028] (f29P 3) ⟨32,[(1,(.fn (.func 30) [] [])),(6,(.ptr p6 0)),(11,x),(12,(i64 n12)),(13,(i64 n13))],[]⟩ st [.av TT,.av q15,.eff v16 id,.eff (.ptr a8 0) (fun _=>s1),.eff .undef (fun _=>s2),.eff v19 id,.eff (.tup [(str w20a),TT]) (fun _=>s3),.av (str w26),.eff (.tup [(i64 n27a),v27b]) (fun _=>s4),.av (i64 n28)]).map fun q=>(q.1,q.2.1.n,([q.2.1.get 1,q.2.1.get 6,q.2.1.get 11,q.2.1.get 12,q.2.1.get 13]:List AV),q.2.2.1,q.2.2.2.2))=some (.normal,32,[(.fn (.func 30) [] []),(.ptr p6 0),x,(i64 n12),(i64 n28)],s4,[binA E0 .lss 3 (i64 n13) (i64 n12)=some TT,indexAddrA E0 37 x (i64 n13)=some q15,loadA E0 st 70 q15=some v16∧st=st,allocA E0 st 70=some ((.ptr a8 0),s1),storeA E0 s1 70 (.ptr a8 0) v16=some s2,loadA E0 s2 70 (.ptr a8 0)=some v19∧s2=s2,obC 30 [v19] s2 (.tup [(str w20a),TT]) s3,binA E0 .add 9 (str w20a) (str ⟨#[10]⟩)=some (str w26),obC 35 [(.ptr p6 0),(str w26)] s3 (.tup [(i64 n27a),v27b]) s4,binA E0 .add 3 (i64 n13) (i64 1)=some (i64 n28)]):=by kernel_rfl
theorem f29_3_TT{p6 a8:Nat}{x q15 v16 v19 v27b:AV}{n12 n13 n27a n28:Int}{st s1 s2 s3 s4:St}{w20a w26:ByteArray}(h1:binA E0 .lss 3 (i64 n13) (i64 n12)=some TT)(h2:indexAddrA E0 37 x (i64 n13)=some q15)(h3:loadA E0 st 70 q15=some v16)(h4:allocA E0 st 70=some ((.ptr a8 0),s1))(h5:storeA E0 s1 70 (.ptr a8 0) v16=some s2)(h6:loadA E0 s2 70 (.ptr a8 0)=some v19)(h7:obC 30 [v19] s2 (.tup [(str w20a),TT]) s3)(h8:binA E0 .add 9 (str w20a) (str ⟨#[10]⟩)=some (str w26))(h9:obC 35 [(.ptr p6 0),(str w26)] s3 (.tup [(i64 n27a),v27b]) s4)(h10:binA E0 .add 3 (i64 n13) (i64 1)=some (i64 n28)){T:Tm}(hT:f29L2 T (.fn (.func 30) [] []) (.ptr p6 0) x (i64 n12) (i64 n13)):AW Tryz.prog (f29P 3) (fun ex T' st'=>ex= .normal∧f29L2 T' (.fn (.func 30) [] []) (.ptr p6 0) x (i64 n12) (i64 n28)∧st'=s4) T st:=by
  obtain ⟨hn,g1,g6,g11,g12,g13⟩:=hT
  exact (gen_run (G:=fun T=>([T.get 1,T.get 6,T.get 11,T.get 12,T.get 13]:List AV)) hE (f29_3_TT_e p6 a8 x q15 v16 v19 v27b n12 n13 n27a n28 st s1 s2 s3 s4 w20a w26) (Ob.ok_cons.2 ⟨h1,(Ob.ok_cons.2 ⟨h2,(Ob.ok_cons.2 ⟨⟨h3,rfl⟩,(Ob.ok_cons.2 ⟨h4,(Ob.ok_cons.2 ⟨h5,(Ob.ok_cons.2 ⟨⟨h6,rfl⟩,(Ob.ok_cons.2 ⟨h7,(Ob.ok_cons.2 ⟨h8,(Ob.ok_cons.2 ⟨h9,(Ob.ok_cons.2 ⟨h10,Ob.ok_nil⟩)⟩)⟩)⟩)⟩)⟩)⟩)⟩)⟩)⟩) hn (conz g1 (conz g6 (conz g11 (conz g12 (one g13)))))).mono fun ex T' st' ⟨q1,q2,q3,q4⟩=>by simp only [List.cons.injEq,and_true] at q3;exact ⟨q1,⟨q2,q3⟩,q4⟩
def f29L3(T:Tm)(a4 a5:AV):Prop:=T.n=32∧T.get 4=a4∧T.get 5=a5
theorem f29_3_TF_e(p6 a8:Nat)(x q15 v16 v19:AV)(n12 n13:Int)(st s1 s2 s3:St)(w20a:ByteArray):((evS Tryz.prog E0 noOv noS 100000 [2008,2016,2019,5000,6030,6035,7014,7015,7026,7028] (f29P 3) ⟨32,[(1,(.fn (.func 30) [] [])),(6,(.ptr p6 0)),(11,x),(12,(i64 n12)),(13,(i64 n13))],[]⟩ st [.av TT,.av q15,.eff v16 id,.eff (.ptr a8 0) (fun _=>s1),.eff .undef (fun _=>s2),.eff v19 id,.eff (.tup [(str w20a),FF]) (fun _=>s3)]).map fun q=>(q.1,q.2.1.n,([q.2.1.get 4,q.2.1.get 5]:List AV),q.2.2.1,q.2.2.2.2))=some (.ret,32,[(str ⟨#[]⟩),(i64 1)],s3,[binA E0 .lss 3 (i64 n13) (i64 n12)=some TT,indexAddrA E0 37 x (i64 n13)=some q15,loadA E0 st 70 q15=some v16∧st=st,allocA E0 st 70=some ((.ptr a8 0),s1),storeA E0 s1 70 (.ptr a8 0) v16=some s2,loadA E0 s2 70 (.ptr a8 0)=some v19∧s2=s2,obC 30 [v19] s2 (.tup [(str w20a),FF]) s3]):=by kernel_rfl
theorem f29_3_TF{p6 a8:Nat}{x q15 v16 v19:AV}{n12 n13:Int}{st s1 s2 s3:St}{w20a:ByteArray}(h1:binA E0 .lss 3 (i64 n13) (i64 n12)=some TT)(h2:indexAddrA E0 37 x (i64 n13)=some q15)(h3:loadA E0 st 70 q15=some v16)(h4:allocA E0 st 70=some ((.ptr a8 0),s1))(h5:storeA E0 s1 70 (.ptr a8 0) v16=some s2)(h6:loadA E0 s2 70 (.ptr a8 0)=some v19)(h7:obC 30 [v19] s2 (.tup [(str w20a),FF]) s3){T:Tm}(hT:f29L2 T (.fn (.func 30) [] []) (.ptr p6 0) x (i64 n12) (i64 n13)):AW Tryz.prog (f29P 3) (fun ex T' st'=>ex= .ret∧f29L3 T' (str ⟨#[]⟩) (i64 1)∧st'=s3) T st:=by
  obtain ⟨hn,g1,g6,g11,g12,g13⟩:=hT
  exact (gen_run (G:=fun T=>([T.get 4,T.get 5]:List AV)) hE (f29_3_TF_e p6 a8 x q15 v16 v19 n12 n13 st s1 s2 s3 w20a) (Ob.ok_cons.2 ⟨h1,(Ob.ok_cons.2 ⟨h2,(Ob.ok_cons.2 ⟨⟨h3,rfl⟩,(Ob.ok_cons.2 ⟨h4,(Ob.ok_cons.2 ⟨h5,(Ob.ok_cons.2 ⟨⟨h6,rfl⟩,(Ob.ok_cons.2 ⟨h7,Ob.ok_nil⟩)⟩)⟩)⟩)⟩)⟩)⟩) hn (conz g1 (conz g6 (conz g11 (conz g12 (one g13)))))).mono fun ex T' st' ⟨q1,q2,q3,q4⟩=>by simp only [List.cons.injEq,and_true] at q3;exact ⟨q1,⟨q2,q3⟩,q4⟩
def f29L4(T:Tm)(a6:AV):Prop:=T.n=32∧T.get 6=a6
theorem f29_3_F_e(p6:Nat)(x:AV)(n12 n13:Int)(st:St):((evS Tryz.prog E0 noOv noS 100000 [2008,2016,2019,5000,6030,6035,7014,7015,7026,7028] (f29P 3) ⟨32,[(1,(.fn (.func 30) [] [])),(6,(.ptr p6 0)),(11,x),(12,(i64 n12)),(13,(i64 n13))],[]⟩ st [.av FF]).map fun q=>(q.1,q.2.1.n,([q.2.1.get 6]:List AV),q.2.2.1,q.2.2.2.2))=some ((.exit 0),32,[(.ptr p6 0)],st,[binA E0 .lss 3 (i64 n13) (i64 n12)=some FF]):=by kernel_rfl
theorem f29_3_F{p6:Nat}{x:AV}{n12 n13:Int}{st:St}(h1:binA E0 .lss 3 (i64 n13) (i64 n12)=some FF){T:Tm}(hT:f29L2 T (.fn (.func 30) [] []) (.ptr p6 0) x (i64 n12) (i64 n13)):AW Tryz.prog (f29P 3) (fun ex T' st'=>ex=(.exit 0)∧f29L4 T' (.ptr p6 0)∧st'=st) T st:=by
  obtain ⟨hn,g1,g6,g11,g12,g13⟩:=hT
  exact (gen_run (G:=fun T=>([T.get 6]:List AV)) hE (f29_3_F_e p6 x n12 n13 st) (Ob.ok_cons.2 ⟨h1,Ob.ok_nil⟩) hn (conz g1 (conz g6 (conz g11 (conz g12 (one g13)))))).mono fun ex T' st' ⟨q1,q2,q3,q4⟩=>by simp only [List.cons.injEq,and_true] at q3;exact ⟨q1,⟨q2,q3⟩,q4⟩
theorem f29_4_T_e(p6:Nat)(st s1:St)(n29:Int):((evS Tryz.prog E0 noOv noS 100000 [6036,6037,7030] (f29P 4) ⟨32,[(6,(.ptr p6 0))],[]⟩ st [.eff (i64 n29) (fun _=>s1),.av TT]).map fun q=>(q.1,q.2.1.n,([q.2.1.get 4,q.2.1.get 5]:List AV),q.2.2.1,q.2.2.2.2))=some (.ret,32,[(str ⟨#[]⟩),(i64 3)],s1,[obC 36 [(.ptr p6 0)] st (i64 n29) s1,binA E0 .gtr 3 (i64 n29) (i64 65536)=some TT]):=by kernel_rfl
theorem f29_4_T{p6:Nat}{st s1:St}{n29:Int}(h1:obC 36 [(.ptr p6 0)] st (i64 n29) s1)(h2:binA E0 .gtr 3 (i64 n29) (i64 65536)=some TT){T:Tm}(hT:f29L4 T (.ptr p6 0)):AW Tryz.prog (f29P 4) (fun ex T' st'=>ex= .ret∧f29L3 T' (str ⟨#[]⟩) (i64 3)∧st'=s1) T st:=by
  obtain ⟨hn,g6⟩:=hT
  exact (gen_run (G:=fun T=>([T.get 4,T.get 5]:List AV)) hE (f29_4_T_e p6 st s1 n29) (Ob.ok_cons.2 ⟨h1,(Ob.ok_cons.2 ⟨h2,Ob.ok_nil⟩)⟩) hn (one g6)).mono fun ex T' st' ⟨q1,q2,q3,q4⟩=>by simp only [List.cons.injEq,and_true] at q3;exact ⟨q1,⟨q2,q3⟩,q4⟩
theorem f29_4_F_e(p6:Nat)(st s1 s2:St)(n29:Int)(w31:ByteArray):((evS Tryz.prog E0 noOv noS 100000 [6036,6037,7030] (f29P 4) ⟨32,[(6,(.ptr p6 0))],[]⟩ st [.eff (i64 n29) (fun _=>s1),.av FF,.eff (str w31) (fun _=>s2)]).map fun q=>(q.1,q.2.1.n,([q.2.1.get 4,q.2.1.get 5]:List AV),q.2.2.1,q.2.2.2.2))=some (.ret,32,[(str w31),(i64 0)],s2,[obC 36 [(.ptr p6 0)] st (i64 n29) s1,binA E0 .gtr 3 (i64 n29) (i64 65536)=some FF,obC 37 [(.ptr p6 0)] s1 (str w31) s2]):=by kernel_rfl
theorem f29_4_F{p6:Nat}{st s1 s2:St}{n29:Int}{w31:ByteArray}(h1:obC 36 [(.ptr p6 0)] st (i64 n29) s1)(h2:binA E0 .gtr 3 (i64 n29) (i64 65536)=some FF)(h3:obC 37 [(.ptr p6 0)] s1 (str w31) s2){T:Tm}(hT:f29L4 T (.ptr p6 0)):AW Tryz.prog (f29P 4) (fun ex T' st'=>ex= .ret∧f29L3 T' (str w31) (i64 0)∧st'=s2) T st:=by
  obtain ⟨hn,g6⟩:=hT
  exact (gen_run (G:=fun T=>([T.get 4,T.get 5]:List AV)) hE (f29_4_F_e p6 st s1 s2 n29 w31) (Ob.ok_cons.2 ⟨h1,(Ob.ok_cons.2 ⟨h2,(Ob.ok_cons.2 ⟨h3,Ob.ok_nil⟩)⟩)⟩) hn (one g6)).mono fun ex T' st' ⟨q1,q2,q3,q4⟩=>by simp only [List.cons.injEq,and_true] at q3;exact ⟨q1,⟨q2,q3⟩,q4⟩
noncomputable def f13P(i:Nat):Code:=match Tryz.f13.body with
  |some x0=> [x0].getD i .skip
  |_=> .skip
theorem f13body:Tryz.f13.body=some (f13P 0):=by kernel_rfl
def f13L0(T:Tm):Prop:=T.n=122
def f13L1(T:Tm)(a0:AV):Prop:=T.n=122∧T.get 0=a0
theorem f13_0_TTTTFTTTTTTTTTT_e(st s1 s2 s3 s4 s5 s6 s7 s8 s9 s10 s11 s12 s13 s14 s15 s16:St)(v18a v23a v28 v29 v30 v31 v32 v33 v34 v39 v40 v41 v42 v43 v44 v49a v54a v58 v59 q109 q110:AV)(w18b w23b w35a w45a w60 w64:ByteArray)(n35b n45b n49b n49c n54b n54c n104 n111:Int):((evS Tryz.prog E0 noOv noS 100000 [2028,2029,2031,2034,2039,2040,2044,2058,2059,2064,2111,6007,6010,6014,6027,6028,7030,7032,7033,7041,7042,7043,7061,7065,7069,7080,7084,7088,7092,7096,7100,7104,7105,7109,7110,7112,7116,7120] (f13P 0) ⟨122,[],[]⟩ st [.eff (.tup [v18a,(str w18b),TT]) (fun _=>s1),.eff (.tup [v23a,(str w23b),FF]) (fun _=>s2),.eff v28 (fun _=>s3),.eff v29 (fun _=>s4),.av v30,.eff v31 (fun _=>s5),.av v32,.av v33,.eff v34 (fun _=>s6),.eff (.tup [(str w35a),(i64 n35b)]) (fun _=>s7),.eff v39 (fun _=>s8),.eff v40 (fun _=>s9),.av v41,.av v42,.av v43,.eff v44 (fun _=>s10),.eff (.tup [(str w45a),(i64 n45b)]) (fun _=>s11),.eff (.tup [v49a,(i64 n49b),(i64 n49c)]) (fun _=>s12),.eff (.tup [v54a,(i64 n54b),(i64 n54c)]) (fun _=>s13),.eff v58 (fun _=>s14),.eff v59 (fun _=>s15),.eff (str w60) (fun _=>s16),.av TT,.eff (str w64) id,.av TT,.av TT,.av TT,.av TT,.av TT,.av TT,.av TT,.av TT,.av (i64 n104),.av TT,.av q109,.av q110,.eff (i64 n111) id,.av TT,.av TT,.av TT]).map fun q=>(q.1,q.2.1.n,([q.2.1.get 0]:List AV),q.2.2.1,q.2.2.2.2))=some (.ret,122,[TT],s16,[obC 27 [(str ⟨#[34,97,34,120]⟩)] st (.tup [v18a,(str w18b),TT]) s1,obC 27 [(str ⟨#[34,92,120,54,49,34]⟩)] s1 (.tup [v23a,(str w23b),FF]) s2,buildSliceA E0 s2 51 2 [(0,(u8 104)),(1,(u8 105))]=some (v28,s3),convO E0 s3 51 51 v28=some (v29,s4),buildA E0 54 [(0,(i64 2)),(1,(i64 2)),(3,v29)]=some v30,buildSliceA E0 s4 52 2 [(0,(u16 5)),(1,(u16 0))]=some (v31,s5),buildA E0 54 [(0,(i64 8)),(2,(i64 3)),(4,v31)]=some v32,buildA E0 54 [(0,(i64 5))]=some v33,buildSliceA E0 s5 22 3 [(0,v30),(1,v32),(2,v33)]=some (v34,s6),obC 7 [v34] s6 (.tup [(str w35a),(i64 n35b)]) s7,buildSliceA E0 s7 51 1 [(0,(u8 120))]=some (v39,s8),convO E0 s8 51 51 v39=some (v40,s9),buildA E0 70 [(0,(i64 2)),(4,v40),(5,TT)]=some v41,buildA E0 70 [(0,(i64 5)),(3,(i64 4))]=some v42,buildA E0 70 [(0,(i64 1)),(1,(i64 7))]=some v43,buildSliceA E0 s9 37 3 [(0,v41),(1,v42),(2,v43)]=some (v44,s10),obC 14 [v44] s10 (.tup [(str w45a),(i64 n45b)]) s11,obC 10 [(str ⟨#[116,105,99,107,32,45,49,10,111,112,101,110,10]⟩)] s11 (.tup [v49a,(i64 n49b),(i64 n49c)]) s12,obC 10 [(str ⟨#[116,105,99,107,32,48,49,10]⟩)] s12 (.tup [v54a,(i64 n54b),(i64 n54c)]) s13,buildSliceA E0 s13 51 5 [(0,(u8 97)),(1,(u8 32)),(2,(u8 34)),(3,(u8 13)),(4,(u8 255))]=some (v58,s14),convO E0 s14 51 51 v58=some (v59,s15),obC 28 [v59] s15 (str w60) s16,binA E0 .eql 9 (str w60) (str ⟨#[34,97,32,92,34,92,120,48,100,92,120,102,102,34]⟩)=some TT,convO E0 s16 51 9 v18a=some ((str w64),s16),binA E0 .eql 9 (str w64) (str ⟨#[97]⟩)=some TT,binA E0 .eql 9 (str w18b) (str ⟨#[120]⟩)=some TT,binA E0 .eql 23 (i64 n35b) (i64 0)=some TT,binA E0 .eql 9 (str w35a) (str ⟨#[112,117,115,104,32,50,32,34,104,105,34,10,99,114,97,115,104,32,51,32,53,32,48,10,115,116,101,112,10]⟩)=some TT,binA E0 .eql 23 (i64 n45b) (i64 0)=some TT,binA E0 .eql 9 (str w45a) (str ⟨#[112,117,115,104,32,111,107,32,34,120,34,32,101,110,100,101,100,10,115,116,101,112,32,111,107,32,52,10,99,111,110,110,101,99,116,32,101,114,114,111,114,32,55,10]⟩)=some TT,binA E0 .eql 23 (i64 n49c) (i64 0)=some TT,binA E0 .eql 3 (i64 n49b) (i64 0)=some TT,lenA E0 22 v49a=some (i64 n104),binA E0 .eql 3 (i64 n104) (i64 2)=some TT,indexAddrA E0 22 v49a (i64 0)=some q109,fieldAddrA E0 54 q109 2=some q110,loadA E0 s16 3 q110=some (i64 n111)∧s16=s16,binA E0 .eql 3 (i64 n111) (i64 (-1))=some TT,binA E0 .eql 3 (i64 n54b) (i64 1)=some TT,binA E0 .eql 23 (i64 n54c) (i64 5)=some TT]):=by kernel_rfl
theorem f13_0_TTTTFTTTTTTTTTT{st s1 s2 s3 s4 s5 s6 s7 s8 s9 s10 s11 s12 s13 s14 s15 s16:St}{v18a v23a v28 v29 v30 v31 v32 v33 v34 v39 v40 v41 v42 v43 v44 v49a v54a v58 v59 q109 q110:AV}{w18b w23b w35a w45a w60 w64:ByteArray}{n35b n45b n49b n49c n54b n54c n104 n111:Int}(h1:obC 27 [(str ⟨#[34,97,34,120]⟩)] st (.tup [v18a,(str w18b),TT]) s1)(h2:obC 27 [(str ⟨#[34,92,120,54,49,34]⟩)] s1 (.tup [v23a,(str w23b),FF]) s2)(h3:buildSliceA E0 s2 51 2 [(0,(u8 104)),(1,(u8 105))]=some (v28,s3))(h4:convO E0 s3 51 51 v28=some (v29,s4))(h5:buildA E0 54 [(0,(i64 2)),(1,(i64 2)),(3,v29)]=some v30)(h6:buildSliceA E0 s4 52 2 [(0,(u16 5)),(1,(u16 0))]=some (v31,s5))(h7:buildA E0 54 [(0,(i64 8)),(2,(i64 3)),(4,v31)]=some v32)(h8:buildA E0 54 [(0,(i64 5))]=some v33)(h9:buildSliceA E0 s5 22 3 [(0,v30),(1,v32),(2,v33)]=some (v34,s6))(h10:obC 7 [v34] s6 (.tup [(str w35a),(i64 n35b)]) s7)(h11:buildSliceA E0 s7 51 1 [(0,(u8 120))]=some (v39,s8))(h12:convO E0 s8 51 51 v39=some (v40,s9))(h13:buildA E0 70 [(0,(i64 2)),(4,v40),(5,TT)]=some v41)(h14:buildA E0 70 [(0,(i64 5)),(3,(i64 4))]=some v42)(h15:buildA E0 70 [(0,(i64 1)),(1,(i64 7))]=some v43)(h16:buildSliceA E0 s9 37 3 [(0,v41),(1,v42),(2,v43)]=some (v44,s10))(h17:obC 14 [v44] s10 (.tup [(str w45a),(i64 n45b)]) s11)(h18:obC 10 [(str ⟨#[116,105,99,107,32,45,49,10,111,112,101,110,10]⟩)] s11 (.tup [v49a,(i64 n49b),(i64 n49c)]) s12)(h19:obC 10 [(str ⟨#[116,105,99,107,32,48,49,10]⟩)] s12 (.tup [v54a,(i64 n54b),(i64 n54c)]) s13)(h20:buildSliceA E0 s13 51 5 [(0,(u8 97)),(1,(u8 32)),(2,(u8 34)),(3,(u8 13)),(4,(u8 255))]=some (v58,s14))(h21:convO E0 s14 51 51 v58=some (v59,s15))(h22:obC 28 [v59] s15 (str w60) s16)(h23:binA E0 .eql 9 (str w60) (str ⟨#[34,97,32,92,34,92,120,48,100,92,120,102,102,34]⟩)=some TT)(h24:convO E0 s16 51 9 v18a=some ((str w64),s16))(h25:binA E0 .eql 9 (str w64) (str ⟨#[97]⟩)=some TT)(h26:binA E0 .eql 9 (str w18b) (str ⟨#[120]⟩)=some TT)(h27:binA E0 .eql 23 (i64 n35b) (i64 0)=some TT)(h28:binA E0 .eql 9 (str w35a) (str ⟨#[112,117,115,104,32,50,32,34,104,105,34,10,99,114,97,115,104,32,51,32,53,32,48,10,115,116,101,112,10]⟩)=some TT)(h29:binA E0 .eql 23 (i64 n45b) (i64 0)=some TT)(h30:binA E0 .eql 9 (str w45a) (str ⟨#[112,117,115,104,32,111,107,32,34,120,34,32,101,110,100,101,100,10,115,116,101,112,32,111,107,32,52,10,99,111,110,110,101,99,116,32,101,114,114,111,114,32,55,10]⟩)=some TT)(h31:binA E0 .eql 23 (i64 n49c) (i64 0)=some TT)(h32:binA E0 .eql 3 (i64 n49b) (i64 0)=some TT)(h33:lenA E0 22 v49a=some (i64 n104))(h34:binA E0 .eql 3 (i64 n104) (i64 2)=some TT)(h35:indexAddrA E0 22 v49a (i64 0)=some q109)(h36:fieldAddrA E0 54 q109 2=some q110)(h37:loadA E0 s16 3 q110=some (i64 n111))(h38:binA E0 .eql 3 (i64 n111) (i64 (-1))=some TT)(h39:binA E0 .eql 3 (i64 n54b) (i64 1)=some TT)(h40:binA E0 .eql 23 (i64 n54c) (i64 5)=some TT){T:Tm}(hT:f13L0 T):AW Tryz.prog (f13P 0) (fun ex T' st'=>ex= .ret∧f13L1 T' TT∧st'=s16) T st:=by
  have hn:T.n=122:=hT
  exact (gen_run (G:=fun T=>([T.get 0]:List AV)) hE (f13_0_TTTTFTTTTTTTTTT_e st s1 s2 s3 s4 s5 s6 s7 s8 s9 s10 s11 s12 s13 s14 s15 s16 v18a v23a v28 v29 v30 v31 v32 v33 v34 v39 v40 v41 v42 v43 v44 v49a v54a v58 v59 q109 q110 w18b w23b w35a w45a w60 w64 n35b n45b n49b n49c n54b n54c n104 n111) (Ob.ok_cons.2 ⟨h1,(Ob.ok_cons.2 ⟨h2,(Ob.ok_cons.2 ⟨h3,(Ob.ok_cons.2 ⟨h4,(Ob.ok_cons.2 ⟨h5,(Ob.ok_cons.2 ⟨h6,(Ob.ok_cons.2 ⟨h7,(Ob.ok_cons.2 ⟨h8,(Ob.ok_cons.2 ⟨h9,(Ob.ok_cons.2 ⟨h10,(Ob.ok_cons.2 ⟨h11,(Ob.ok_cons.2 ⟨h12,(Ob.ok_cons.2 ⟨h13,(Ob.ok_cons.2 ⟨h14,(Ob.ok_cons.2 ⟨h15,(Ob.ok_cons.2 ⟨h16,(Ob.ok_cons.2 ⟨h17,(Ob.ok_cons.2 ⟨h18,(Ob.ok_cons.2 ⟨h19,(Ob.ok_cons.2 ⟨h20,(Ob.ok_cons.2 ⟨h21,(Ob.ok_cons.2 ⟨h22,(Ob.ok_cons.2 ⟨h23,(Ob.ok_cons.2 ⟨h24,(Ob.ok_cons.2 ⟨h25,(Ob.ok_cons.2 ⟨h26,(Ob.ok_cons.2 ⟨h27,(Ob.ok_cons.2 ⟨h28,(Ob.ok_cons.2 ⟨h29,(Ob.ok_cons.2 ⟨h30,(Ob.ok_cons.2 ⟨h31,(Ob.ok_cons.2 ⟨h32,(Ob.ok_cons.2 ⟨h33,(Ob.ok_cons.2 ⟨h34,(Ob.ok_cons.2 ⟨h35,(Ob.ok_cons.2 ⟨h36,(Ob.ok_cons.2 ⟨⟨h37,rfl⟩,(Ob.ok_cons.2 ⟨h38,(Ob.ok_cons.2 ⟨h39,(Ob.ok_cons.2 ⟨h40,Ob.ok_nil⟩)⟩)⟩)⟩)⟩)⟩)⟩)⟩)⟩)⟩)⟩)⟩)⟩)⟩)⟩)⟩)⟩)⟩)⟩)⟩)⟩)⟩)⟩)⟩)⟩)⟩)⟩)⟩)⟩)⟩)⟩)⟩)⟩)⟩)⟩)⟩)⟩)⟩)⟩)⟩) hn (fun q hq=>by cases hq)).mono fun ex T' st' ⟨q1,q2,q3,q4⟩=>by simp only [List.cons.injEq,and_true] at q3;exact ⟨q1,⟨q2,q3⟩,q4⟩
end
section
set_option maxRecDepth 8000
theorem k22:(E0.ty 51).map (fun i=>isAggD i.desc)=some false:=by kernel_rfl
theorem z22:tySize E0 51=some 1:=by kernel_rfl
/-! ### writing to a builder -/
theorem write_ok{σ:St}{p:Nat}{l s:List UInt8}(hB:Bld σ p l)(hw:σ.wf)(hl:σ.lock= [])(hb:l.length+s.length≤100000000000):
    ∃σ',obC 35 [.ptr p 0,sb s] σ (.tup [i64 s.length,.nili]) σ'∧Bld σ' p (l++s)∧∃S,Rest σ σ' S∧∀i∈S,p≤i:=by
  obtain ⟨hm,q,x,hg,hq,hx,hid,h00⟩:=hB
  have h1:=cc_ok hm hg (by rw [hl];simp) hq
  have hp:=hw _ _ hg
  have r1:=Rest.set hw hp (.row [.ptr p 0,x] 83) (S:= [p]) (by simp)
  have g1:(σ.set p (.row [.ptr p 0,x] 83)).get p=some (.row [.ptr p 0,x] 83):=by rw [St.get_set,if_pos rfl]
  have hpx:p∉fid x:=Ls.ne hx hg (by decide)
  have hx1:=hx.rest r1 (fun i hi e=>by simp only [List.mem_singleton] at e;subst e;exact hpx hi)
  generalize σ.set p (.row [.ptr p 0,x] 83)=s1 at h1 r1 g1 hx1
  have l1:s1.lock= []:=r1.lock.trans hl
  have h2:loadA E0 s1 51 (.ptr p 1)=some x:=by simp only [loadA,g1];exact plainT k22 rfl
  obtain ⟨x',s2,h3,hx2,r2,hn,hnn⟩:=app_str hx1 r1.wf l1 hb
  have g2:s2.get p=some (.row [.ptr p 0,x] 83):=r2.keep _ _ hpx g1
  have l2:s2.lock= []:=r2.lock.trans l1
  have hcx:avCells x'=some [x']:=by
    rcases hx2 with ⟨_,_,rfl⟩|⟨_,id,f,rfl,_⟩<;>rfl
  have h4:storeA E0 s2 51 (.ptr p 1) x'=some (s2.set p (.row [.ptr p 0,x'] 83)):=by
    unfold storeA
    simp only [hcx,St.wget_of g2 (by rw [l2];simp)]
    rw [if_pos ⟨z22,by simp⟩]
    rfl
  have r3:=Rest.set r2.wf (r2.wf _ _ g2) (.row [.ptr p 0,x'] 83) (S:= [p]) (by simp)
  have hpx':p∉fid x':=Ls.ne hx2 g2 (by decide)
  refine ⟨_,f35 h1 h2 h3 h4 (len_sb s),⟨?_,_,x',by rw [St.get_set,if_pos rfl],.inr rfl,hx2.rest r3 (fun i hi e=>by simp only [List.mem_singleton] at e;subst e;exact hpx' hi),fun j hj=> ?_,fun e=> ?_⟩,p::fid x,?_,fun i hi=> ?_⟩
  · rw [r3.gl,r2.gl,r1.gl];exact hm
  · rcases hn j hj with h|h
    · exact hid j h
    · have:=r1.next;omega
  · obtain ⟨e1,e2⟩:=List.append_eq_nil_iff.1 e
    rw [hnn e2];exact h00 e1
  · exact ((r1.weak (fun i hi=>by simp only [List.mem_singleton] at hi;simp [hi])).trans (r2.weak (fun i hi=>by simp [hi]))).trans (r3.weak (fun i hi=>by simp only [List.mem_singleton] at hi;simp [hi]))
  · rcases List.mem_cons.1 hi with rfl|hi
    · exact Nat.le_refl _
    · exact hid i hi
theorem Bld.len{σ:St}{p:Nat}{l:List UInt8}(hB:Bld σ p l):obC 36 [.ptr p 0] σ (i64 l.length) σ:=by
  obtain ⟨hm,q,x,hg,hq,hx,hid,h00⟩:=hB
  exact f36 (v6:=x) (by simp only [loadA,hg];exact plainT k22 rfl) (Ls.len el22 hx)
theorem Bld.string{σ:St}{p:Nat}{l:List UInt8}(hB:Bld σ p l)(hw:σ.wf)(hl:σ.lock= []):∃σ',obC 37 [.ptr p 0] σ (sb l) σ'∧∃S,Rest σ σ' S∧∀i∈S,p≤i:=by
  obtain ⟨hm,q,x,hg,hq,hx,hid,h00⟩:=hB
  by_cases h0:l= []
  · subst h0
    rw [h00 rfl] at hg
    exact ⟨σ,string_nil hm hg,[],.refl hw _,fun i hi=>by cases hi⟩
  · rcases hx with ⟨h1,_,rfl⟩|⟨h2,id,f,rfl,h4⟩
    · exact absurd (List.length_eq_zero_iff.1 h1) h0
    · exact ⟨σ.del id,string_ok hm hg (St.wget_of h4 (by rw [hl];simp)) (by rw [List.take_of_length_le (by rw [bytesAV_len];omega)]) rfl h0,[id],Rest.del hw (by simp),fun i hi=>hid i (by simp only [List.mem_singleton] at hi;simp [fid,hi])⟩
/-! ### lists of structs, as they are read -/
def IL(st:St)(e sz:Nat)(v:AV)(css:List (List AV)):Prop:=(∀c∈css,c.length=sz)∧((v= .nils∧css= [])∨(∃f,v= .imm sz css.length f css.flatten)∨
  ∃id off f vs,v= .sl id sz off css.length f∧st.get id=some (.row vs e)∧(vs.drop off).take (css.length*sz)=css.flatten∧off+css.length*sz≤vs.length)
/-- what was there stays; more may be marked -/
structure RG (st st':St):Prop where
  keep:∀i o,st.get i=some o→st'.get i=some o
  next:st.next≤st'.next
  lock:st'.lock=st.lock
  gl:∀p∈st.gl,p∈st'.gl
  wf:st'.wf
theorem RG.step{a b c:St}{S:List Nat}(h:RG a b)(k:Rest b c S)(hw:a.wf)(hS:∀i∈S,a.next≤i):RG a c:=
  ⟨fun i o ho=>k.keep i o (fun e=>by have:=hS i e;have:=hw _ _ ho;omega) (h.keep i o ho),Nat.le_trans h.next k.next,k.lock.trans h.lock,fun p hp=>by rw [k.gl];exact h.gl p hp,k.wf⟩
theorem Rest.rg{a b:St}(h:Rest a b []):RG a b:=⟨fun i o ho=>h.keep i o (by simp) ho,h.next,h.lock,fun p hp=>by rw [h.gl];exact hp,h.wf⟩
theorem IL.rg{a b:St}{e sz:Nat}{v:AV}{css:List (List AV)}(h:IL a e sz v css)(k:RG a b):IL b e sz v css:=
  ⟨h.1,h.2.imp id (.imp id fun ⟨id,off,f,vs,h1,h2,h3⟩=>⟨id,off,f,vs,h1,k.keep _ _ h2,h3⟩)⟩
theorem flat_at{sz:Nat}:∀{css:List (List AV)} {i:Nat} {c:List AV},(∀c∈css,c.length=sz)→css[i]? =some c→(css.flatten.drop (i*sz)).take sz=c∧i*sz+sz≤css.flatten.length:=by
  intro css
  induction css with
  |nil=>intro i c _ h;simp at h
  |cons d r ih=>
    intro i c hc h
    have hd:=hc d (by simp)
    cases i with
    |zero=>
      simp only [List.getElem?_cons_zero,Option.some.injEq] at h
      subst h
      rw [List.flatten_cons,Nat.zero_mul,List.drop_zero,←hd,List.take_left',List.length_append]
      · exact ⟨rfl,by omega⟩
      · rfl
    |succ i=>
      have h':r[i]? =some c:=by simpa using h
      obtain ⟨h1,h2⟩:=ih (fun c hc'=>hc c (List.mem_cons_of_mem _ hc')) h'
      rw [List.flatten_cons,List.length_append,Nat.succ_mul,hd]
      refine ⟨?_,by omega⟩
      rw [show i*sz+sz=d.length+i*sz by omega,List.drop_append]
      rw [List.drop_of_length_le (by omega),List.nil_append]
      rw [show d.length+i*sz- d.length=i*sz by omega]
      exact h1
end
section
set_option maxRecDepth 8000
structure AgT (t e sz:Nat):Prop where
  sl:∃i,E0.ty t=some i∧i.desc= .slice e
  hs:tySize E0 e=some sz
  ag:∃i,E0.ty e=some i∧isAggD i.desc=true∧i.size=sz
  p:sz≠0
theorem agT_of{t e sz:Nat}(h1:(E0.ty t).map (·.desc)=some (.slice e))(h2:tySize E0 e=some sz)(h3:(E0.ty e).map (fun i=>(isAggD i.desc,i.size))=some (true,sz))(h4:sz≠0):AgT t e sz:=by
  obtain ⟨i,a1,a2⟩:=Option.map_eq_some_iff.1 h1
  obtain ⟨j,b1,b2⟩:=Option.map_eq_some_iff.1 h3
  simp only [Prod.mk.injEq] at b2
  exact ⟨⟨i,a1,a2⟩,h2,⟨j,b1,b2.1,b2.2⟩,h4⟩
theorem IL.len{t e sz:Nat}(hA:AgT t e sz){st:St}{v:AV}{css:List (List AV)}(h:IL st e sz v css):lenA E0 t v=some (i64 css.length):=by
  obtain ⟨i,h1,h2⟩:=hA.sl
  rcases h.2 with ⟨rfl,rfl⟩|⟨f,rfl⟩|⟨id,off,f,vs,rfl,_⟩<;>simp only [lenA,h1,h2]<;>rfl
theorem IL.at{t e sz:Nat}(hA:AgT t e sz){st:St}{v:AV}{css:List (List AV)}(h:IL st e sz v css){i:Nat}{c:List AV}(hc:css[i]? =some c):∃q,indexAddrA E0 t v (i64 i)=some q∧loadA E0 st e q=some (.agg c):=by
  obtain ⟨ti,h1,h2⟩:=hA.sl
  obtain ⟨te,g1,g2,g3⟩:=hA.ag
  have hi:i<css.length:=(List.getElem?_eq_some_iff.1 hc).1
  obtain ⟨f1,f2⟩:=flat_at h.1 hc
  rcases h.2 with ⟨_,rfl⟩|⟨f,rfl⟩|⟨id,off,f,vs,rfl,hg,e1,e2⟩
  · simp at hc
  · refine ⟨.iptr (css.flatten.drop (i*sz)),?_,?_⟩
    · simp only [indexAddrA,h1,h2]
      rw [if_pos ⟨hA.hs,by omega,by omega,hA.p⟩];rfl
    · simp only [loadA,partA,g1,g2,if_true,g3]
      rw [if_pos (by rw [List.length_drop];omega),List.drop_zero,f1]
  · refine ⟨.ptr id (off+i*sz),?_,?_⟩
    · simp only [indexAddrA,h1,h2]
      rw [if_pos ⟨hA.hs,by omega,by omega⟩];rfl
    · have h3:(css.length*sz)=i*sz+(css.length- i)*sz:=by rw [←Nat.add_mul];congr 1;omega
      have h4:sz≤(css.length- i)*sz:=Nat.le_mul_of_pos_left _ (by omega)
      simp only [loadA,hg,partA,g1,g2,if_true,g3]
      rw [if_pos (by omega)]
      have:((vs.drop off).take (css.length*sz)).drop (i*sz)=css.flatten.drop (i*sz):=by rw [e1]
      rw [List.drop_take,List.drop_drop] at this
      have e4:=congrArg (List.take sz) this
      rw [List.take_take,f1,Nat.min_eq_left (by omega)] at e4
      rw [e4]
theorem a40:AgT 22 54 5:=agT_of (by kernel_rfl) (by kernel_rfl) (by kernel_rfl) (by decide)
/-! ### written -/
def wrF:List (Option (List UInt8))→Option (List UInt8)
  | []=>some []
  |none::_=>none
  |some l::r=>(wrF r).map fun t=>l++10::t
def wrA(o:Option (List UInt8)):AV:=match o with
  |none=> .tup [sb [],i64 1]
  |some t=>if 65536<t.length then .tup [sb [],i64 3] else .tup [sb t,i64 0]
def wrL(o:Option (List UInt8)):Nat:=match o with|some l=>l.length+1|none=>0
/-- what an item's writing comes to -/
def WrC(fn:Nat)(st0:St)(cs:List AV)(o:Option (List UInt8)):Prop:=∀σ,RG st0 σ→∃s',obC fn [.agg cs] σ (.tup [sb (o.getD []),bo o.isSome]) s'∧Rest σ s' []
theorem cat9{a b:List UInt8}(h:a.length+b.length≤100000000000):binA E0 .add 9 (sb a) (sb b)=some (sb (a++b)):=by
  show pureVal (Op.stringOp .add ⟨a.toArray⟩ ⟨b.toArray⟩)=_
  have hsz:((ByteArray.size ⟨a.toArray⟩+ByteArray.size ⟨b.toArray⟩:Nat):Int)=((a.length+b.length:Nat):Int):=rfl
  have e:(⟨a.toArray⟩:ByteArray)++(⟨b.toArray⟩:ByteArray)=⟨(a++b).toArray⟩:=by
    apply ByteArray.ext
    simp
  have:¬((a.length+b.length:Nat):Int)>IntKind.i64.max:=by
    show¬((a.length+b.length:Nat):Int)>9223372036854775807
    omega
  simp only [Op.stringOp]
  rw [hsz,if_neg this,e]
  rfl
theorem z55:zeroA E0 83=some [.nilp,.nils]:=by kernel_rfl
theorem Bld.rest{a b:St}{p:Nat}{l:List UInt8}(h:Bld a p l)(r:Rest a b []):Bld b p l:=by
  obtain ⟨hm,q,x,hg,hq,hx,hid,h00⟩:=h
  exact ⟨by rw [r.gl];exact hm,q,x,r.keep _ _ (by simp) hg,hq,hx.rest r (fun i _=>by simp),hid,h00⟩
def QW18(p:Nat)(o:Option (List UInt8))(sf:St):Exit→Tm→St→Prop:=fun ex T z=>z=sf∧match o with|none=>ex= .ret∧f20L3 T (sb []) (i64 1)|some _=>ex= .exit 0∧f20L4 T (.ptr p 0)
theorem wr_loop18{st0:St}{x:AV}{p:Nat}(hw0:st0.wf)(hl0:st0.lock= [])(hp:st0.next≤p)(css:List (List AV))(os:List (Option (List UInt8)))(hlen:os.length=css.length)(hx:IL st0 54 5 x css)(hb:css.length≤2000000000)
    (hc:∀(i:Nat) c o,css[i]? =some c→os[i]? =some o→WrC 21 st0 c o):∀(n k:Nat) (σ:St) (acc:List UInt8),css.length- k=n→k≤css.length→RG st0 σ→Bld σ p acc→acc.length+((os.drop k).map wrL).sum≤10000000000→
    ∃sf,RG st0 sf∧(∀T,f20L2 T (.fn (.func 21) [] []) (.ptr p 0) x (i64 css.length) (i64 k)→LoopIn Tryz.prog (f20P 3) (QW18 p (wrF (os.drop k)) sf) (n+1) T σ)∧∀t,wrF (os.drop k)=some t→Bld sf p (acc++t):=by
  intro n
  induction n with
  |zero=>
    intro k σ acc hn hk hr hB hbd
    have e:k=css.length:=by omega
    subst e
    have e0:os.drop css.length= []:=List.drop_of_length_le (by omega)
    rw [e0]
    refine ⟨σ,hr,fun T hT=>LoopIn.out (by simp) (f20_3_F (lssF (by omega)) hT) fun T' hT'=>⟨rfl,rfl,hT'⟩,fun t ht=> ?_⟩
    cases ht
    rw [List.append_nil];exact hB
  |succ n ih=>
    intro k σ acc hn hk hr hB hbd
    obtain ⟨c,hck⟩:∃c,css[k]? =some c:=⟨css[k]'(by omega),List.getElem?_eq_getElem (by omega)⟩
    obtain ⟨o,hok⟩:∃o,os[k]? =some o:=⟨os[k]'(by omega),List.getElem?_eq_getElem (by omega)⟩
    have hdr:os.drop k=o::os.drop (k+1):=by
      rw [List.drop_eq_getElem_cons (by omega)]
      congr 1
      exact (List.getElem?_eq_some_iff.1 hok).2
    have hc5:c.length=5:=hx.1 c (List.mem_of_getElem? hck)
    obtain ⟨q,a1,a2⟩:=(hx.rg hr).at a40 hck
    have lσ:σ.lock= []:=hr.lock.trans hl0
    have r1:=Rest.push hr.wf (.row [i64 0,i64 0,i64 0,.nils,.nils] 54) []
    have r2:=Rest.set (st:=σ.push (.row [i64 0,i64 0,i64 0,.nils,.nils] 54)) r1.wf (id:=σ.next) (by simp) (.row c 54) (S:= [σ.next]) (by simp)
    have r12:Rest σ ((σ.push (.row [i64 0,i64 0,i64 0,.nils,.nils] 54)).set σ.next (.row c 54)) []:=r1.fresh r2 hr.wf (by simp)
    have h5:storeA E0 (σ.push (.row [i64 0,i64 0,i64 0,.nils,.nils] 54)) 54 (.ptr σ.next 0) (.agg c)=some ((σ.push (.row [i64 0,i64 0,i64 0,.nils,.nils] 54)).set σ.next (.row c 54)):=
      st38 (vs:= [i64 0,i64 0,i64 0,.nils,.nils]) (by rw [St.get_push,if_pos rfl]) rfl hc5 (by rw [St.lock_push,lσ];simp)
    have hg2:((σ.push (.row [i64 0,i64 0,i64 0,.nils,.nils] 54)).set σ.next (.row c 54)).get σ.next=some (.row c 54):=by rw [St.get_set,if_pos rfl]
    have h6:=ld38 hg2 hc5
    have hr2:=hr.step r12 hw0 (by simp)
    have hB2:=hB.rest r12
    generalize (σ.push (.row [i64 0,i64 0,i64 0,.nils,.nils] 54)).set σ.next (.row c 54)=s2 at r12 h5 hg2 h6 hr2 hB2
    obtain ⟨s3,h7,r3⟩:=hc k c o hck hok s2 hr2
    have hr3:=hr2.step r3 hw0 (by simp)
    have hB3:=hB2.rest r3
    have hlt:binA E0 .lss 3 (i64 k) (i64 css.length)=some TT:=lssT (by omega)
    have hadd:binA E0 .add 3 (i64 k) (i64 1)=some (i64 ((k+1:Nat):Int)):=add3 (a:=k) (b:=1) (by omega)
    cases o with
    |none=>
      rw [hdr]
      refine ⟨s3,hr3,fun T hT=>LoopIn.out (by simp) (f20_3_TF hlt a1 a2 (al38 σ) h5 h6 h7 hT) fun T' hT'=>⟨rfl,rfl,hT'⟩,fun t ht=>by cases ht⟩
    |some l=>
      rw [hdr] at hbd
      simp only [List.map_cons,List.sum_cons,wrL] at hbd
      have h8:binA E0 .add 9 (sb l) (sb [10])=some (sb (l++ [10])):=cat9 (by simp only [List.length_singleton];omega)
      obtain ⟨s4,h9,hB4,S,r4,hS⟩:=write_ok (s:=l++ [10]) hB3 hr3.wf (hr3.lock.trans hl0) (by simp only [List.length_append,List.length_singleton];omega)
      have hr4:=hr3.step r4 hw0 (fun i hi=>Nat.le_trans hp (hS i hi))
      obtain ⟨sf,u1,u2,u3⟩:=ih (k+1) s4 (acc++(l++ [10])) (by omega) (by omega) hr4 hB4 (by simp only [List.length_append,List.length_singleton];omega)
      refine ⟨sf,u1,fun T hT=> ?_,fun t ht=> ?_⟩
      · have hq:QW18 p (wrF (os.drop k)) sf=QW18 p (wrF (os.drop (k+1))) sf:=by
          rw [hdr]
          simp only [wrF]
          cases wrF (os.drop (k+1))<;>rfl
        rw [hq]
        exact LoopIn.go (f20_3_TT hlt a1 a2 (al38 σ) h5 h6 h7 h8 h9 hadd hT) u2
      · rw [hdr] at ht
        simp only [wrF] at ht
        obtain ⟨t',h1,rfl⟩:=Option.map_eq_some_iff.1 ht
        have:=u3 t' h1
        simpa using this
theorem written18_ok{st:St}{x:AV}(hw:st.wf)(hl:st.lock= [])(css:List (List AV))(os:List (Option (List UInt8)))(hlen:os.length=css.length)(hx:IL st 54 5 x css)(hb:css.length≤2000000000)
    (hc:∀(i:Nat) c o,css[i]? =some c→os[i]? =some o→WrC 21 st c o) (hbd:(os.map wrL).sum≤10000000000):∃st',obC 20 [x,.fn (.func 21) [] []] st (wrA (wrF os)) st'∧Rest st st' []:=by
  have hw1:=(Rest.push hw (.row [.nilp,.nils] 83) []).wf
  have hr1:RG st ((st.push (.row [.nilp,.nils] 83)).wg st.next):=⟨fun i o ho=>by
    have:=hw _ _ ho
    show (st.push _).get i=_
    rw [St.get_push,if_neg (by omega)];exact ho,by show st.next≤st.next+1;omega,rfl,fun p hp=>List.mem_cons_of_mem _ hp,fun i o ho=>hw1 i o ho⟩
  have hB1:Bld ((st.push (.row [.nilp,.nils] 83)).wg st.next) st.next []:=⟨by simp [St.wg],.nilp,.nils,by show (st.push _).get _=_;rw [St.get_push,if_pos rfl],.inl rfl,.inl ⟨rfl,rfl,rfl⟩,(fun j hj=>by cases hj),fun _=>rfl⟩
  obtain ⟨sf,u1,u2,u3⟩:=wr_loop18 (p:=st.next) hw hl (Nat.le_refl _) css os hlen hx hb hc css.length 0 _ [] (by omega) (by omega) hr1 hB1 (by simpa using hbd)
  rw [List.drop_zero] at u2 u3
  have res:∀{s:St},RG st s→Rest st (s.ug st) []:=fun {s} h=>⟨fun i o _ ho=>h.keep i o ho,h.next,h.lock,rfl,fun i o ho=>h.wf i o ho⟩
  have fin:∀{T:Tm} {a b:AV} {z:St},f20L3 T a b→endA E0 Tryz.f20 (fun r s=>r= .tup [a,b]∧s=z.ug st) .ret T (z.ug st):=fun {T a b z} q=>⟨[T.get 4,T.get 5],rfl,by obtain ⟨_,q1,q2⟩:=q;rw [q1,q2];rfl,rfl⟩
  have main:∀(r:AV) (z:St),(∀T ex,QW18 st.next (wrF os) sf ex T sf→(ex= .exit 0∧AW Tryz.prog (f20P 4) (fun e T' s'=>endA E0 Tryz.f20 (fun r' s=>r'=r∧s=z.ug st) e T' (s'.ug st)) T sf)∨(ex= .ret∧endA E0 Tryz.f20 (fun r' s=>r'=r∧s=z.ug st) .ret T (sf.ug st)))→obC 20 [x,.fn (.func 21) [] []] st r (z.ug st):=by
    intro r z hr
    refine ACalls.body (E:=E0) hE Tryz.func20 f20body ?_
    refine AW.andThen (f20_0 (x:=x) ⟨rfl,rfl,rfl⟩) fun T1 q1=> ?_
    have hP1:f20P 1= .region 1 (match f20P 1 with| .region _ ops _=>ops|_=> #[]) false:=by kernel_rfl
    rw [hP1]
    refine AW.mark hE (o:=(match f20P 1 with| .region _ ops _=>ops|_=> #[]).toList.getD 0 default) (d:=6) (t:=83) (by kernel_rfl) (by kernel_rfl) (by kernel_rfl) (by kernel_rfl) ?_ z55 rfl ?_
    · have:=q1.1
      simp [Tm.fits,this]
    refine .seq (.seq ((f20_2 (p6:=st.next) (IL.len a40 hx) ?_).mono fun ex T4 z' ⟨h1,h2,h3⟩=> ?_))
    · obtain ⟨w0,w1,w2⟩:=q1
      exact ⟨w0,w1,w2,rfl⟩
    · subst h1;subst h3
      refine AW.block ((AW.loopIn (u2 T4 h2)).mono fun ex T5 z' hq=> ?_)
      have hz:z'=sf:=hq.1
      subst hz
      rcases hr T5 ex hq with ⟨rfl,h4⟩|⟨rfl,h4⟩
      · simp only [blockA,if_true]
        exact h4
      · exact h4
  cases hwr:wrF os with
  |none=>
    refine ⟨sf.ug st,main (.tup [sb [],i64 1]) sf fun T ex hq=> ?_,res u1⟩
    rw [hwr] at hq
    obtain ⟨_,rfl,h2⟩:=hq
    exact .inr ⟨rfl,fin h2⟩
  |some t=>
    have hB:=u3 t hwr
    rw [List.nil_append] at hB
    have lf:=u1.lock.trans hl
    by_cases hlong:65536<t.length
    · have e:wrA (some t)= .tup [sb [],i64 3]:=by simp only [wrA];rw [if_pos hlong]
      rw [e]
      refine ⟨sf.ug st,main (.tup [sb [],i64 3]) sf fun T ex hq=> ?_,res u1⟩
      rw [hwr] at hq
      obtain ⟨_,rfl,h2⟩:=hq
      exact .inl ⟨rfl,AW.atRet (f20_4_T hB.len (gtrT (by omega)) h2) fun T' q=>fin q⟩
    · have e:wrA (some t)= .tup [sb t,i64 0]:=by simp only [wrA];rw [if_neg hlong]
      rw [e]
      obtain ⟨s7,v1,S,v2,v3⟩:=hB.string u1.wf lf
      refine ⟨s7.ug st,main (.tup [sb t,i64 0]) s7 fun T ex hq=> ?_,res (u1.step v2 hw v3)⟩
      rw [hwr] at hq
      obtain ⟨_,rfl,h2⟩:=hq
      exact .inl ⟨rfl,AW.atRet (f20_4_F hB.len (gtrF (by omega)) v1 h2) fun T' q=>fin q⟩
end
section
set_option maxRecDepth 8000
theorem z43:tySize E0 70=some 6:=by kernel_rfl
theorem g43:∃i,E0.ty 70=some i∧isAggD i.desc=true∧i.size=6:=by
  have h:(E0.ty 70).map (fun i=>(isAggD i.desc,i.size))=some (true,6):=by kernel_rfl
  obtain ⟨i,h1,h2⟩:=Option.map_eq_some_iff.1 h
  simp only [Prod.mk.injEq] at h2
  exact ⟨i,h1,h2.1,h2.2⟩
theorem al43(st:St):allocA E0 st 70=some (.ptr st.next 0,st.push (.row [i64 0,i64 0,i64 0,i64 0,.nils,FF] 70)):=by kernel_rfl
theorem ld43{st:St}{a:Nat}{cs:List AV}(h:st.get a=some (.row cs 70))(hc:cs.length=6):loadA E0 st 70 (.ptr a 0)=some (.agg cs):=by
  obtain ⟨i,h1,h2,h3⟩:=g43
  simp only [loadA,h,partA,h1,h2,if_true,h3]
  rw [if_pos (by omega),List.drop_zero,List.take_of_length_le (by omega)]
theorem st43{st:St}{a:Nat}{vs cs:List AV}(h:st.get a=some (.row vs 70))(hv:vs.length=6)(hc:cs.length=6)(hl:a∉st.lock):storeA E0 st 70 (.ptr a 0) (.agg cs)=some (st.set a (.row cs 70)):=by
  unfold storeA
  simp only [avCells,St.wget_of h hl]
  rw [if_pos ⟨by rw [z43,hc],by omega⟩]
  rw [List.take_zero,List.nil_append,Nat.zero_add,List.drop_eq_nil_of_le (by omega),List.append_nil]
theorem a44:AgT 37 70 6:=agT_of (by kernel_rfl) (by kernel_rfl) (by kernel_rfl) (by decide)
def QW20(p:Nat)(o:Option (List UInt8))(sf:St):Exit→Tm→St→Prop:=fun ex T z=>z=sf∧match o with|none=>ex= .ret∧f29L3 T (sb []) (i64 1)|some _=>ex= .exit 0∧f29L4 T (.ptr p 0)
theorem wr_loop20{st0:St}{x:AV}{p:Nat}(hw0:st0.wf)(hl0:st0.lock= [])(hp:st0.next≤p)(css:List (List AV))(os:List (Option (List UInt8)))(hlen:os.length=css.length)(hx:IL st0 70 6 x css)(hb:css.length≤2000000000)
    (hc:∀(i:Nat) c o,css[i]? =some c→os[i]? =some o→WrC 30 st0 c o):∀(n k:Nat) (σ:St) (acc:List UInt8),css.length- k=n→k≤css.length→RG st0 σ→Bld σ p acc→acc.length+((os.drop k).map wrL).sum≤10000000000→
    ∃sf,RG st0 sf∧(∀T,f29L2 T (.fn (.func 30) [] []) (.ptr p 0) x (i64 css.length) (i64 k)→LoopIn Tryz.prog (f29P 3) (QW20 p (wrF (os.drop k)) sf) (n+1) T σ)∧∀t,wrF (os.drop k)=some t→Bld sf p (acc++t):=by
  intro n
  induction n with
  |zero=>
    intro k σ acc hn hk hr hB hbd
    have e:k=css.length:=by omega
    subst e
    have e0:os.drop css.length= []:=List.drop_of_length_le (by omega)
    rw [e0]
    refine ⟨σ,hr,fun T hT=>LoopIn.out (by simp) (f29_3_F (lssF (by omega)) hT) fun T' hT'=>⟨rfl,rfl,hT'⟩,fun t ht=> ?_⟩
    cases ht
    rw [List.append_nil];exact hB
  |succ n ih=>
    intro k σ acc hn hk hr hB hbd
    obtain ⟨c,hck⟩:∃c,css[k]? =some c:=⟨css[k]'(by omega),List.getElem?_eq_getElem (by omega)⟩
    obtain ⟨o,hok⟩:∃o,os[k]? =some o:=⟨os[k]'(by omega),List.getElem?_eq_getElem (by omega)⟩
    have hdr:os.drop k=o::os.drop (k+1):=by
      rw [List.drop_eq_getElem_cons (by omega)]
      congr 1
      exact (List.getElem?_eq_some_iff.1 hok).2
    have hc6:c.length=6:=hx.1 c (List.mem_of_getElem? hck)
    obtain ⟨q,a1,a2⟩:=(hx.rg hr).at a44 hck
    have lσ:σ.lock= []:=hr.lock.trans hl0
    have r1:=Rest.push hr.wf (.row [i64 0,i64 0,i64 0,i64 0,.nils,FF] 70) []
    have r2:=Rest.set (st:=σ.push (.row [i64 0,i64 0,i64 0,i64 0,.nils,FF] 70)) r1.wf (id:=σ.next) (by simp) (.row c 70) (S:= [σ.next]) (by simp)
    have r12:Rest σ ((σ.push (.row [i64 0,i64 0,i64 0,i64 0,.nils,FF] 70)).set σ.next (.row c 70)) []:=r1.fresh r2 hr.wf (by simp)
    have h5:storeA E0 (σ.push (.row [i64 0,i64 0,i64 0,i64 0,.nils,FF] 70)) 70 (.ptr σ.next 0) (.agg c)=some ((σ.push (.row [i64 0,i64 0,i64 0,i64 0,.nils,FF] 70)).set σ.next (.row c 70)):=
      st43 (vs:= [i64 0,i64 0,i64 0,i64 0,.nils,FF]) (by rw [St.get_push,if_pos rfl]) rfl hc6 (by rw [St.lock_push,lσ];simp)
    have hg2:((σ.push (.row [i64 0,i64 0,i64 0,i64 0,.nils,FF] 70)).set σ.next (.row c 70)).get σ.next=some (.row c 70):=by rw [St.get_set,if_pos rfl]
    have h6:=ld43 hg2 hc6
    have hr2:=hr.step r12 hw0 (by simp)
    have hB2:=hB.rest r12
    generalize (σ.push (.row [i64 0,i64 0,i64 0,i64 0,.nils,FF] 70)).set σ.next (.row c 70)=s2 at r12 h5 hg2 h6 hr2 hB2
    obtain ⟨s3,h7,r3⟩:=hc k c o hck hok s2 hr2
    have hr3:=hr2.step r3 hw0 (by simp)
    have hB3:=hB2.rest r3
    have hlt:binA E0 .lss 3 (i64 k) (i64 css.length)=some TT:=lssT (by omega)
    have hadd:binA E0 .add 3 (i64 k) (i64 1)=some (i64 ((k+1:Nat):Int)):=add3 (a:=k) (b:=1) (by omega)
    cases o with
    |none=>
      rw [hdr]
      refine ⟨s3,hr3,fun T hT=>LoopIn.out (by simp) (f29_3_TF hlt a1 a2 (al43 σ) h5 h6 h7 hT) fun T' hT'=>⟨rfl,rfl,hT'⟩,fun t ht=>by cases ht⟩
    |some l=>
      rw [hdr] at hbd
      simp only [List.map_cons,List.sum_cons,wrL] at hbd
      have h8:binA E0 .add 9 (sb l) (sb [10])=some (sb (l++ [10])):=cat9 (by simp only [List.length_singleton];omega)
      obtain ⟨s4,h9,hB4,S,r4,hS⟩:=write_ok (s:=l++ [10]) hB3 hr3.wf (hr3.lock.trans hl0) (by simp only [List.length_append,List.length_singleton];omega)
      have hr4:=hr3.step r4 hw0 (fun i hi=>Nat.le_trans hp (hS i hi))
      obtain ⟨sf,u1,u2,u3⟩:=ih (k+1) s4 (acc++(l++ [10])) (by omega) (by omega) hr4 hB4 (by simp only [List.length_append,List.length_singleton];omega)
      refine ⟨sf,u1,fun T hT=> ?_,fun t ht=> ?_⟩
      · have hq:QW20 p (wrF (os.drop k)) sf=QW20 p (wrF (os.drop (k+1))) sf:=by
          rw [hdr]
          simp only [wrF]
          cases wrF (os.drop (k+1))<;>rfl
        rw [hq]
        exact LoopIn.go (f29_3_TT hlt a1 a2 (al43 σ) h5 h6 h7 h8 h9 hadd hT) u2
      · rw [hdr] at ht
        simp only [wrF] at ht
        obtain ⟨t',h1,rfl⟩:=Option.map_eq_some_iff.1 ht
        have:=u3 t' h1
        simpa using this
theorem written20_ok{st:St}{x:AV}(hw:st.wf)(hl:st.lock= [])(css:List (List AV))(os:List (Option (List UInt8)))(hlen:os.length=css.length)(hx:IL st 70 6 x css)(hb:css.length≤2000000000)
    (hc:∀(i:Nat) c o,css[i]? =some c→os[i]? =some o→WrC 30 st c o) (hbd:(os.map wrL).sum≤10000000000):∃st',obC 29 [x,.fn (.func 30) [] []] st (wrA (wrF os)) st'∧Rest st st' []:=by
  have hw1:=(Rest.push hw (.row [.nilp,.nils] 83) []).wf
  have hr1:RG st ((st.push (.row [.nilp,.nils] 83)).wg st.next):=⟨fun i o ho=>by
    have:=hw _ _ ho
    show (st.push _).get i=_
    rw [St.get_push,if_neg (by omega)];exact ho,by show st.next≤st.next+1;omega,rfl,fun p hp=>List.mem_cons_of_mem _ hp,fun i o ho=>hw1 i o ho⟩
  have hB1:Bld ((st.push (.row [.nilp,.nils] 83)).wg st.next) st.next []:=⟨by simp [St.wg],.nilp,.nils,by show (st.push _).get _=_;rw [St.get_push,if_pos rfl],.inl rfl,.inl ⟨rfl,rfl,rfl⟩,(fun j hj=>by cases hj),fun _=>rfl⟩
  obtain ⟨sf,u1,u2,u3⟩:=wr_loop20 (p:=st.next) hw hl (Nat.le_refl _) css os hlen hx hb hc css.length 0 _ [] (by omega) (by omega) hr1 hB1 (by simpa using hbd)
  rw [List.drop_zero] at u2 u3
  have res:∀{s:St},RG st s→Rest st (s.ug st) []:=fun {s} h=>⟨fun i o _ ho=>h.keep i o ho,h.next,h.lock,rfl,fun i o ho=>h.wf i o ho⟩
  have fin:∀{T:Tm} {a b:AV} {z:St},f29L3 T a b→endA E0 Tryz.f29 (fun r s=>r= .tup [a,b]∧s=z.ug st) .ret T (z.ug st):=fun {T a b z} q=>⟨[T.get 4,T.get 5],rfl,by obtain ⟨_,q1,q2⟩:=q;rw [q1,q2];rfl,rfl⟩
  have main:∀(r:AV) (z:St),(∀T ex,QW20 st.next (wrF os) sf ex T sf→(ex= .exit 0∧AW Tryz.prog (f29P 4) (fun e T' s'=>endA E0 Tryz.f29 (fun r' s=>r'=r∧s=z.ug st) e T' (s'.ug st)) T sf)∨(ex= .ret∧endA E0 Tryz.f29 (fun r' s=>r'=r∧s=z.ug st) .ret T (sf.ug st)))→obC 29 [x,.fn (.func 30) [] []] st r (z.ug st):=by
    intro r z hr
    refine ACalls.body (E:=E0) hE Tryz.func29 f29body ?_
    refine AW.andThen (f29_0 (x:=x) ⟨rfl,rfl,rfl⟩) fun T1 q1=> ?_
    have hP1:f29P 1= .region 1 (match f29P 1 with| .region _ ops _=>ops|_=> #[]) false:=by kernel_rfl
    rw [hP1]
    refine AW.mark hE (o:=(match f29P 1 with| .region _ ops _=>ops|_=> #[]).toList.getD 0 default) (d:=6) (t:=83) (by kernel_rfl) (by kernel_rfl) (by kernel_rfl) (by kernel_rfl) ?_ z55 rfl ?_
    · have:=q1.1
      simp [Tm.fits,this]
    refine .seq (.seq ((f29_2 (p6:=st.next) (IL.len a44 hx) ?_).mono fun ex T4 z' ⟨h1,h2,h3⟩=> ?_))
    · obtain ⟨w0,w1,w2⟩:=q1
      exact ⟨w0,w1,w2,rfl⟩
    · subst h1;subst h3
      refine AW.block ((AW.loopIn (u2 T4 h2)).mono fun ex T5 z' hq=> ?_)
      have hz:z'=sf:=hq.1
      subst hz
      rcases hr T5 ex hq with ⟨rfl,h4⟩|⟨rfl,h4⟩
      · simp only [blockA,if_true]
        exact h4
      · exact h4
  cases hwr:wrF os with
  |none=>
    refine ⟨sf.ug st,main (.tup [sb [],i64 1]) sf fun T ex hq=> ?_,res u1⟩
    rw [hwr] at hq
    obtain ⟨_,rfl,h2⟩:=hq
    exact .inr ⟨rfl,fin h2⟩
  |some t=>
    have hB:=u3 t hwr
    rw [List.nil_append] at hB
    have lf:=u1.lock.trans hl
    by_cases hlong:65536<t.length
    · have e:wrA (some t)= .tup [sb [],i64 3]:=by simp only [wrA];rw [if_pos hlong]
      rw [e]
      refine ⟨sf.ug st,main (.tup [sb [],i64 3]) sf fun T ex hq=> ?_,res u1⟩
      rw [hwr] at hq
      obtain ⟨_,rfl,h2⟩:=hq
      exact .inl ⟨rfl,AW.atRet (f29_4_T hB.len (gtrT (by omega)) h2) fun T' q=>fin q⟩
    · have e:wrA (some t)= .tup [sb t,i64 0]:=by simp only [wrA];rw [if_neg hlong]
      rw [e]
      obtain ⟨s7,v1,S,v2,v3⟩:=hB.string u1.wf lf
      refine ⟨s7.ug st,main (.tup [sb t,i64 0]) s7 fun T ex hq=> ?_,res (u1.step v2 hw v3)⟩
      rw [hwr] at hq
      obtain ⟨_,rfl,h2⟩:=hq
      exact .inl ⟨rfl,AW.atRet (f29_4_F hB.len (gtrF (by omega)) v1 h2) fun T' q=>fin q⟩
end
section
set_option maxRecDepth 100000
/-! ### closed runs -/
def strsOf:List AV→Option (List ByteArray)
  | []=>some []
  | .val (.string s)::r=>(strsOf r).map (s:: ·)
  |_=>none
theorem strsOf_ok:∀{l:List AV} {xs:List ByteArray},strsOf l=some xs→l=strsB xs
  | [],xs,h=>by cases h;rfl
  | .val (.string s)::r,xs,h=>by
    simp only [strsOf] at h
    obtain ⟨ys,h1,rfl⟩:=Option.map_eq_some_iff.1 h
    rw [strsOf_ok h1];rfl
def ovS:Ov:=fun f args st=>match f,args with
  |75,[.val (.string s),.val (.int .u8 c)]=>some (i64 (Lib.indexByte s.data.toList c.toNat.toUInt8),st)
  |89,[.val (.string s),.val (.string t)]=>(match t.data.toList with
    | [c]=>some (i64 (Lib.countByte s.data.toList c:Nat),st)
    |_=>none)
  |65,[x,.val (.string sep)]=>(match sliceCells st x with
    |some (n,cs)=>(match strsOf cs with
      |some xs=>if n=xs.length∧xs.length≤140737488355328∧(Lib.join (xs.map (·.data.toList)) sep.data.toList).length≤140737488355328 then some (str ⟨(Lib.join (xs.map (·.data.toList)) sep.data.toList).toArray⟩,st) else none
      |none=>none)
    |none=>none)
  |_,_=>none
theorem ovS_ok:∀f args st r,ovS f args st=some r→ACalls Tryz.prog f args (fun a st'=>(a,st')=r) st:=by
  intro f args st r h
  unfold ovS at h
  split at h
  · rename_i s c
    cases h
    exact (ib_ok s c st).mono fun a s' ⟨h1,h2⟩=>by rw [h1,h2]
  · rename_i s t
    split at h
    · rename_i c hc
      cases h
      have e:t=⟨#[c]⟩:=by
        apply ByteArray.ext
        apply Array.ext'
        exact hc
      rw [e]
      exact (count_ok s c st).mono fun a s' ⟨h1,h2⟩=>by rw [h1,h2]
    · cases h
  · rename_i x sep
    split at h
    · rename_i n cs hcs
      split at h
      · rename_i xs hxs
        split at h
        · rename_i hc
          obtain ⟨h1,h2,h3⟩:=hc
          cases h
          have:=join_ok (x:=x) (xs:=xs) (sep:=sep) (st:=st) (by rw [hcs,h1,strsOf_ok hxs]) h2 h3
          exact this.mono fun a s' ⟨h1,h2⟩=>by rw [h1,h2]
        · cases h
      · cases h
    · cases h
  · cases h
noncomputable def cloEv(f:Nat)(args:List AV):Option (AV×List Nat):=(evCall E0 ovS 1000000 f args (stTab tabsD)).map fun q=>(q.1,q.2.lock)
/-- what runs at the tables alone, with values alone, runs at each store that holds them -/
theorem closed_val{f:Nat}{args:List AV}{r:AV}(h:cloEv f args=some (r,[]))(ha:∀ρ,renL ρ args=args)(hr:∀ρ,ren ρ r=r){st:St}(hgl:Tabs st)(hw:st.wf):∃st',obC f args st r st'∧Rest st st' []:=by
  obtain ⟨⟨a,s⟩,h1,h2⟩:=Option.map_eq_some_iff.1 h
  simp only [Prod.mk.injEq] at h2
  obtain ⟨rfl,hk⟩:=h2
  have hc:=(ev_ok (envOf_ok (P:=Tryz.prog) rfl) ovS_ok 1000000).call f args (stTab tabsD) _ h1
  have hc2:ACalls Tryz.prog f args (fun a' s'=>a'=a∧s'=⟨s.next,.nil,[],s.gl⟩) (stTab tabsD):=hc.forget fun a' s' e _=>by
    cases e
    exact ⟨⟨s.next,.nil,[],s.gl⟩,⟨rfl,rfl⟩,fun i o hi=>by simp [St.get,Tr.get] at hi,rfl,hk.symm,rfl⟩
  have hE:=emb_tab hgl
  have hnone:∀k,(⟨s.next,.nil,[],s.gl⟩:St).get k=none:=fun k=>by simp [St.get,Tr.get]
  have hfr:=hc2.frame hE
  rw [ha] at hfr
  refine ⟨mergeSt ⟨s.next,.nil,[],s.gl⟩ st (stTab tabsD) (fun i=>st.next+i),hfr.mono fun a s0 hq=> ?_,⟨fun i o _ ho=> ?_,Nat.le_add_right _ _,rfl,rfl,fun i o hi=> ?_⟩⟩
  · obtain ⟨r0,st0',⟨h1,h2⟩,h3,h4,_,_⟩:=hq
    subst h1;subst h2
    exact ⟨by rw [h3];exact hr _,h4⟩
  · have hlt:=hw _ _ ho
    rw [merge_out hE (k:=i) fun j _ _ e=>by have e:st.next+j=i:=e;omega]
    exact ho
  · show i<st.next+(s.next- 0)
    rcases merge_cases hE hi with ⟨j,o0,_,_,h3,_⟩|⟨h1,_⟩
    · rw [hnone] at h3;cases h3
    · have:=hw _ _ h1;omega
end
end Go.Proofs.YtnknfheabnogaaaGreatDoor.E
