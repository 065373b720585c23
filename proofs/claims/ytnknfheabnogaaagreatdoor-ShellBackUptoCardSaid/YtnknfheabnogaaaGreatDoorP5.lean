/- Part 5 of the proof, over the abstract machine: contracts of the functions that the statement reaches, joined out of several texts. Condition: none beyond those that the lemmas name. -/
import Derived.Test.YtnknfheabnogaaaGreatDoorP4
namespace Go.Proofs.YtnknfheabnogaaaGreatDoor.E
open Go Go.Proofs
section
set_option maxRecDepth 8000
/-! ### a region whose order the tape picks, with two operations that may come up in either order -/
section
variable {P:Program} {E:Env} {ops:Array Oper} {ids:List Nat}
/-- operations that are taken first -/
def ADt(E:Env)(ops:Array Oper)(ids:List Nat)(st:St)(K:Array Bool→Tm→Prop):List Nat→Array Bool→Tm→Prop
  | [],listed,T=>K listed T
  |i::rest,listed,T=>match ops[i]? with
    |none=>False
    |some o=>T.fits o.dst=true∧(!effOp o.op&&Region.free MD ops listed i&&(Region.ready MD ops listed).contains i&&noWait ops listed i&& !waits o i)=true∧wantedA ops o T=some true∧
      match heldA E st ids o.op T with
      |some av=>ADt E ops ids st K rest (listed.setIfInBounds i true) (T.put o.dst av)
      |none=>False
/-- one operation that changes the store, then a plan -/
def ADe(P:Program)(E:Env)(ops:Array Oper)(ids:List Nat)(Q:Exit→Tm→St→Prop)(i:Nat)(rest:List Nat)(listed:Array Bool)(T:Tm)(st:St):Prop:=match ops[i]? with
  |none=>False
  |some o=>T.fits o.dst=true∧wantedA ops o T=some true∧(phase ops (listed.setIfInBounds i true)=true→ids.all (fun id=>(st.get id).isSome)=true)∧
    match evOp E o.op T (if phase ops (listed.setIfInBounds i true) then st.hide ids else st) with
    |some (.val av st')=>ADrK (phase ops (listed.setIfInBounds i true)) st ids (fun st'=>ADr P E ops ids Q rest (listed.setIfInBounds i true) (T.put o.dst av) st') st'
    |_=>False
theorem ADt.ok(hE:EOK' P E)(hsel:Region.noSelect ops=true){Q0:Exit→Act→World→Prop}{g0:G}{st0:St}{w0:World}(hids:∀id∈ids,id<g0.n)(hQ0:∀c a w,¬Q0 (.panic c) a w){st:St}{K:Array Bool→Tm→Prop}{n:Nat}{g:G}
    {w:World} (hs:Step g0 st0 w0 g st w)
    (hK:∀listed T a,K listed T→TR g T a→(phase ops listed=true→Kept g0 w0 ids w)→wpAnyG P ops Q0 (fun listed w=>phase ops listed=true→Kept g0 w0 ids w) n listed a w):
    ∀(pre:List Nat) (listed:Array Bool) (T:Tm),ADt E ops ids st K pre listed T→∀{a:Act},TR g T a→(phase ops listed=true→Kept g0 w0 ids w)→
      wpAnyG P ops Q0 (fun listed w=>phase ops listed=true→Kept g0 w0 ids w) (pre.length+n) listed a w:=by
  intro pre
  induction pre with
  |nil=>
    intro listed T h a hT hS
    rw [List.length_nil,Nat.zero_add]
    exact hK _ _ _ h hT hS
  |cons i rest ih=>
    intro listed T h a hT hS
    simp only [ADt] at h
    split at h
    · exact h.elim
    rename_i o hi
    obtain ⟨hfit,hc,hw,h⟩:=h
    simp only [Bool.and_eq_true,Bool.not_eq_true'] at hc
    obtain ⟨⟨⟨⟨he,hfree⟩,hready⟩,hnw⟩,hself⟩:=hc
    have heff:effAt ops i=false:=by simp [effAt,hi,he]
    have take:∀(v:Value) (av:AV) {Si:World→Prop},VR g av v→(∀listed w,NoWait ops listed i→(phase ops listed=true→Kept g0 w0 ids w)→Si w)→YieldsIf P ops Si o v a→ADt E ops ids st K rest (listed.setIfInBounds i true) (T.put o.dst av)→
        wpAnyG P ops Q0 (fun listed w=>phase ops listed=true→Kept g0 w0 ids w) ((i::rest).length+n) listed a w:=by
      intro v av Si hv hSi hy hA
      have e:(i::rest).length+n=(rest.length+n)+1:=by simp only [List.length_cons];omega
      rw [e]
      refine wpAnyG_first (Si:=Si) hi (Region.noSelect_spec hsel) (fun c a w hh=>absurd hh (hQ0 _ _ _)) hSi (fun listed w=>by rw [phase_set heff]) (waits_false hself) (rest.length+n) listed a w (Region.free_spec hi hfree) (by simpa using hready) (noWait_spec hnw) hy hS ?_
      exact ih _ _ hA (hT.put hfit hv) (by rw [phase_set heff];exact hS)
    split at h
    · rename_i av hh
      unfold heldA at hh
      split at hh
      · rename_i av' hp
        cases hh
        obtain ⟨u,hu,hv⟩:=pureA_ok hE.toEOK hp hs.ok hT
        exact take u av (Si:=fun _=>True) hv (fun _ _ _ _=>trivial) (.inl ⟨wantedA_ok hw hT,fun w _=>hu w⟩) h
      · split at hh
        · rename_i t x hop
          split at hh
          · rename_i id off hx
            split at hh
            · rename_i hid
              have hvx:=hT.eval x
              rw [hx] at hvx
              obtain ⟨r,hr,hrun⟩:=loadA_held hE.toEOK hh hs.ok hvx
              have hm:id∈ids:=by simpa using hid
              have hb:g.blk id=g0.blk id:=hs.le.blk id (hids id hm)
              have hkw:Kept g0 w0 ids w:=hS (phase_of hi (by rw [hop];rfl) (noWait_spec hnw))
              refine take r av (Si:=Kept g0 w0 ids) hr (fun listed w hno hk=>hk (phase_of hi (by rw [hop];rfl) hno)) (.inl ⟨wantedA_ok hw hT,fun w' hk=> ?_⟩) h
              have:=hrun w' (by rw [hb,hk id hm,hkw id hm])
              have he2:(execOp a.eval o).run P w'=((do pure (.value (←Instr.loadAt t (a.eval x))):Sem Next)).run P w':=by unfold execOp;simp only [hop]
              rw [he2,run_v this]
            · cases hh
          · cases hh
        · rename_i t m k okb hop
          split at hh
          · rename_i id hx
            split at hh
            · rename_i hid
              have hvx:=hT.eval m
              rw [hx] at hvx
              obtain ⟨r,hr,hrun⟩:=lookupA_held hE.toEOK hh hs.ok hvx (hT.eval k)
              have hm:id∈ids:=by simpa using hid
              have hb:g.blk id=g0.blk id:=hs.le.blk id (hids id hm)
              have hkw:Kept g0 w0 ids w:=hS (phase_of hi (by rw [hop];rfl) (noWait_spec hnw))
              refine take r av (Si:=Kept g0 w0 ids) hr (fun listed w hno hk=>hk (phase_of hi (by rw [hop];rfl) hno)) (.inl ⟨wantedA_ok hw hT,fun w' hk=> ?_⟩) h
              have:=hrun w' (fun id' e=>by cases e;rw [hb,hk id hm,hkw id hm])
              have he2:(execOp a.eval o).run P w'=((do pure (.value (←Instr.lookup t (a.eval m) (a.eval k) okb)):Sem Next)).run P w':=by unfold execOp;simp only [hop]
              rw [he2,run_v this]
            · cases hh
          · rename_i hx
            have hvx:=hT.eval m
            rw [hx] at hvx
            obtain ⟨r,hr,hrun⟩:=lookupA_held hE.toEOK hh hs.ok hvx (hT.eval k)
            refine take r av (Si:=fun _=>True) hr (fun _ _ _ _=>trivial) (.inl ⟨wantedA_ok hw hT,fun w' _=> ?_⟩) h
            have:=hrun w' (fun id' e=>by cases e)
            have he2:(execOp a.eval o).run P w'=((do pure (.value (←Instr.lookup t (a.eval m) (a.eval k) okb)):Sem Next)).run P w':=by unfold execOp;simp only [hop]
            rw [he2,run_v this]
          · cases hh
        · cases hh
    · exact h.elim
theorem ADe.ok(hE:EOK' P E)(hsel:Region.noSelect ops=true){Q:Exit→Tm→St→Prop}{Q0:Exit→Act→World→Prop}{g0:G}{st0:St}{w0:World}(hids:∀id∈ids,id<g0.n)(hQ0:∀c a w,¬Q0 (.panic c) a w)
    (hN:∀g T st w a,Step g0 st0 w0 g st w→TR g T a→Q .normal T st→Q0 .normal a w) {i:Nat} {rest:List Nat} {listed:Array Bool} {T:Tm} {st:St} (h:ADe P E ops ids Q i rest listed T st) {g:G} {w:World} {a:Act} (hs:Step g0 st0 w0 g st w) (hT:TR g T a)
    (hS:phase ops listed=true→Kept g0 w0 ids w):
    wpOp P ops Q0 i (fun a' w'=>(phase ops (listed.setIfInBounds i true)=true→Kept g0 w0 ids w')∧wpAnyG P ops Q0 (fun listed w=>phase ops listed=true→Kept g0 w0 ids w) rest.length (listed.setIfInBounds i true) a' w') a w:=by
  unfold ADe at h
  split at h
  · exact h.elim
  rename_i o hi
  obtain ⟨hfit,hw,hlive,h⟩:=h
  unfold wpOp
  simp only [hi]
  rw [if_pos (wantedA_ok hw hT)]
  refine .inl ?_
  have fin:∀{g':G} {st':St} {w':World} {av:AV} {v:Value},Step g (if phase ops (listed.setIfInBounds i true) then st.hide ids else st) w g' st' w'→VR g' av v→
      ADrK (phase ops (listed.setIfInBounds i true)) st ids (fun st'=>ADr P E ops ids Q rest (listed.setIfInBounds i true) (T.put o.dst av) st') st'→
      (phase ops (listed.setIfInBounds i true)=true→Kept g0 w0 ids w')∧wpAnyG P ops Q0 (fun listed w=>phase ops listed=true→Kept g0 w0 ids w) rest.length (listed.setIfInBounds i true) (a.put o.dst v) w':=by
    intro g' st' w' av v hst hv hA
    have hk:phase ops (listed.setIfInBounds i true)=true→Kept g0 w0 ids w':=by
      intro hp
      rw [if_pos hp] at hst
      intro id hm
      have hl:=hlive hp
      rw [List.all_eq_true] at hl
      obtain ⟨ob,hob⟩:=Option.isSome_iff_exists.1 (hl id hm)
      have hb:g.blk id=g0.blk id:=hs.le.blk id (hids id hm)
      rw [←hS (phase_anti hp) id hm,←hb]
      refine hst.frame _ (hs.ok.lt hob).2 fun id' o' h1 he=> ?_
      obtain ⟨h2,h3⟩:=St.hide_wget h1
      have:=hs.ok.inj id' o' id ob (St.wget_get h2).1 hob he
      subst this
      exact h3 hm
    refine ⟨hk,?_⟩
    unfold ADrK at hA
    by_cases hp:phase ops (listed.setIfInBounds i true)=true
    · rw [if_pos hp] at hst hA
      have hst':=Step.hidden hs.ok hst
      exact ADr.ok hE hsel hids hQ0 hN _ _ _ _ hA (hs.trans hst') ((hT.mono hst'.le).put hfit hv) hk _ rfl
    · rw [if_neg hp] at hst hA
      exact ADr.ok hE hsel hids hQ0 hN _ _ _ _ hA (hs.trans hst) ((hT.mono hst.le).put hfit hv) hk _ rfl
  have hok1:OK g (if phase ops (listed.setIfInBounds i true) then st.hide ids else st) w:=by
    split
    · exact hs.ok.hide ids
    · exact hs.ok
  unfold Oper.wp
  split at h
  · rename_i av st' he
    obtain ⟨u,w',g',h1,h2,h3⟩:=evOp_ok hE he hok1 hT
    rw [h1]
    exact fin h2 h3 h
  · exact h.elim
/-- a region with a fork: first 'pre', then i and j in either order, then 'rest' -/
theorem AW.drawnF(hE:EOK' P E)(hm:P.follows .mixedOrders=true){id:Nat}{Q:Exit→Tm→St→Prop}{T:Tm}{st:St}(hsel:Region.noSelect ops=true)(pre rest:List Nat)(i j:Nat)(hids:ids.all (· <st.next)=true)(hp:pre.length+(rest.length+2)=ops.size)
    (h:ADt E ops ids st (fun listed T=>Region.ready MD ops listed= [i,j]∧ADe P E ops ids Q i (j::rest) listed T st∧ADe P E ops ids Q j (i::rest) listed T st) pre (Array.replicate ops.size false) T):AW P (.region id ops true) Q T st:=by
  intro g w a hok hT
  have hidle:Step g st w g st {w with drawn:=w.drawn+1}:=step_idle hok rfl rfl rfl rfl
  have hi':∀id∈ids,id<g.n:=fun id hid=>by
    rw [hok.n]
    simpa using List.all_eq_true.1 hids id hid
  refine wp_mono (wp_region_any (Q:=fun e a w'=>match e with| .panic _=>False|e=>Post g st w Q e a w') hm ?_) ?_
  · refine wpAny_of_G _ _ _ _ (hp▸ADt.ok hE hsel (Q0:=fun e a w'=>match e with| .panic _=>False|e=>Post g st w Q e a w') (g0:=g) (st0:=st) (w0:={w with drawn:=w.drawn+1}) (n:=rest.length+2) hi' (fun c a w hh=>hh) (.refl hidle.ok) ?_ pre _ T h hT (fun _ id _=>rfl))
    intro listed T' a' ⟨h1,h2,h3⟩ hT' hS'
    have hN:∀g' T' st' w' a',Step g st {w with drawn:=w.drawn+1} g' st' w'→TR g' T' a'→Q .normal T' st'→(match Exit.normal with| .panic _=>False|e=>Post g st w Q e a' w'):=fun g' T' st' w' a' h1 h2 h3=>⟨g',T',st',hidle.trans h1,h2,h3⟩
    refine ⟨fun h0=>(by rw [h0] at h1;cases h1),fun k hk=> ?_⟩
    rw [h1] at hk
    rcases List.mem_cons.1 hk with rfl|hk
    · exact ADe.ok hE hsel hi' (fun c a w hh=>hh) hN h2 (.refl hidle.ok) hT' hS'
    · simp only [List.mem_singleton] at hk
      subst hk
      exact ADe.ok hE hsel hi' (fun c a w hh=>hh) hN h3 (.refl hidle.ok) hT' hS'
  · intro e a' w' hh
    cases e<;>first|exact hh|exact hh.elim
end
/-! the same where what is read may be a value that nobody writes -/
def readB(E:Env)(st:St)(op:Op)(T:Tm):Option AV:=
  match readA E st op T with
  |some av=>some av
  |none=>match op with
    | .load t x=>match T.eval x with
      | .iptr cs=>loadA E st t (.iptr cs)
      |_=>none
    |_=>none
theorem readB_ok{P:Program}{E:Env}(hE:EOK' P E){st:St}{T:Tm}{o:Oper}{av:AV}(h:readB E st o.op T=some av){g:G}{w:World}(hok:OK g st w){a:Act}(hT:TR g T a):
    ∃r,VR g av r∧(execOp a.eval o).run P w= .ok (.value r) w:=by
  unfold readB at h
  split at h
  · rename_i av' hp
    cases h
    obtain ⟨u,hv,hu⟩:=readA_ok hE hp hok hT
    exact ⟨u,hv,hu w rfl⟩
  · split at h
    · rename_i t x hop
      split at h
      · rename_i cs hx
        have hvx:=hT.eval x
        rw [hx] at hvx
        obtain ⟨r,hrun,hr⟩:=loadA_ok hE.toEOK h hok hvx
        refine ⟨r,hr,?_⟩
        have he2:(execOp a.eval o).run P w=((do pure (.value (←Instr.loadAt t (a.eval x))):Sem Next)).run P w:=by unfold execOp;simp only [hop]
        rw [he2,run_v hrun]
      · cases h
    · cases h
def ADq(E:Env)(ops:Array Oper)(Q:Exit→Tm→St→Prop):List Nat→Array Bool→Tm→St→Prop
  | [],listed,T,st=>Region.ready MD ops listed= []∧Q .normal T st
  |i::rest,listed,T,st=>match ops[i]? with
    |none=>False
    |some o=>T.fits o.dst=true∧mayTake ops listed i=true∧wantedA ops o T=some true∧
      match readB E st o.op T with
      |some av=>ADq E ops Q rest (listed.setIfInBounds i true) (T.put o.dst av) st
      |none=>False
theorem ADq.ok{P:Program}{E:Env}(hE:EOK' P E){ops:Array Oper}(hsel:Region.noSelect ops=true){Q:Exit→Tm→St→Prop}{Q0:Exit→Act→World→Prop}{g:G}{st:St}{w0:World}(hQ0:∀c a w,¬Q0 (.panic c) a w)
    (hok:OK g st w0) (hN:∀T a,TR g T a→Q .normal T st→Q0 .normal a w0):
    ∀(plan:List Nat) (listed:Array Bool) (T:Tm),ADq E ops Q plan listed T st→∀{a:Act},TR g T a→∀fuel,plan.length=fuel→
      wpAnyG P ops Q0 (fun _ w=>w=w0) fuel listed a w0:=by
  intro plan
  induction plan with
  |nil=>
    intro listed T h a hT fuel hf
    subst hf
    exact ⟨h.1,hN _ _ hT h.2⟩
  |cons i rest ih=>
    intro listed T h a hT fuel hf
    subst hf
    simp only [ADq] at h
    split at h
    · exact h.elim
    rename_i o hi
    obtain ⟨hfit,hc,hw,h⟩:=h
    simp only [mayTake,hi,Bool.and_eq_true,Bool.not_eq_true'] at hc
    obtain ⟨⟨⟨⟨he,hfree⟩,hready⟩,hnw⟩,hself⟩:=hc
    split at h
    · rename_i av hr
      obtain ⟨r,hv,hrun⟩:=readB_ok hE hr hok hT
      refine wpAnyG_first (Si:=fun w=>w=w0) hi (Region.noSelect_spec hsel) (fun c a w hh=>absurd hh (hQ0 _ _ _)) (fun _ _ _ h=>h) (fun _ _=>Iff.rfl) (waits_false hself) rest.length listed a w0 (Region.free_spec hi hfree) (by simpa using hready) (noWait_spec hnw) (.inl ⟨wantedA_ok hw hT,fun w' hk=>(by subst hk;exact hrun)⟩) rfl ?_
      exact ih _ _ h (hT.put hfit hv) _ rfl
    · exact h.elim
theorem AW.drawnQ{P:Program}{E:Env}(hE:EOK' P E)(hm:P.follows .mixedOrders=true){id:Nat}{ops:Array Oper}{Q:Exit→Tm→St→Prop}{T:Tm}{st:St}(hsel:Region.noSelect ops=true)(plan:List Nat)(hp:plan.length=ops.size)
    (h:ADq E ops Q plan (Array.replicate ops.size false) T st):AW P (.region id ops true) Q T st:=by
  intro g w a hok hT
  have hidle:Step g st w g st {w with drawn:=w.drawn+1}:=step_idle hok rfl rfl rfl rfl
  refine wp_mono (wp_region_any (Q:=fun e a w'=>match e with| .panic _=>False|e=>Post g st w Q e a w') hm ?_) ?_
  · refine wpAny_of_G _ _ _ _ (ADq.ok hE hsel (Q:=Q) (g:=g) (st:=st) (w0:={w with drawn:=w.drawn+1}) (fun c a w hh=>hh) hidle.ok ?_ plan _ T h hT _ hp)
    intro T' a' h2 h3
    exact ⟨g,T',st,hidle,h2,h3⟩
  · intro e a' w' hh
    cases e<;>first|exact hh|exact hh.elim
end
section
set_option maxRecDepth 100000
noncomputable def f9P(i:Nat):Code:=match Tryz.f9.body with
  |some (.seq x0 (.seq x1 (.seq (.seq x2 (.block 0 (.loop x3))) x4)))=> [x0,x1,x2,x3,x4].getD i .skip
  |_=> .skip
theorem f9body:Tryz.f9.body=some (.seq (f9P 0) (.seq (f9P 1) (.seq (.seq (f9P 2) (.block 0 (.loop (f9P 3)))) (f9P 4)))):=by kernel_rfl
def f9L0(T:Tm)(a0:AV):Prop:=T.n=19∧T.get 0=a0
theorem f9_0_e(x:AV)(st:St):((evS Tryz.prog E0 noOv noS 100000 [] (f9P 0) ⟨19,[(0,x)],[]⟩ st []).map fun q=>(q.1,q.2.1.n,([q.2.1.get 0]:List AV),q.2.2.1,q.2.2.2.2))=some (.normal,19,[x],st,[]):=by kernel_rfl
theorem f9_0{x:AV}{st:St}{T:Tm}(hT:f9L0 T x):AW Tryz.prog (f9P 0) (fun ex T' st'=>ex= .normal∧f9L0 T' x∧st'=st) T st:=by
  obtain ⟨hn,g0⟩:=hT
  exact (gen_run (G:=fun T=>([T.get 0]:List AV)) hE (f9_0_e x st) Ob.ok_nil hn (one g0)).mono fun ex T' st' ⟨q1,q2,q3,q4⟩=>by simp only [List.cons.injEq,and_true] at q3;exact ⟨q1,⟨q2,q3⟩,q4⟩
def f9L1(T:Tm)(a0 a3:AV):Prop:=T.n=19∧T.get 0=a0∧T.get 3=a3
theorem f9_1_e(x:AV)(st:St):((evS Tryz.prog E0 noOv noS 100000 [] (f9P 1) ⟨19,[(0,x)],[]⟩ st []).map fun q=>(q.1,q.2.1.n,([q.2.1.get 0,q.2.1.get 3]:List AV),q.2.2.1,q.2.2.2.2))=some (.normal,19,[x,.nils],st,[]):=by kernel_rfl
theorem f9_1{x:AV}{st:St}{T:Tm}(hT:f9L0 T x):AW Tryz.prog (f9P 1) (fun ex T' st'=>ex= .normal∧f9L1 T' x .nils∧st'=st) T st:=by
  obtain ⟨hn,g0⟩:=hT
  exact (gen_run (G:=fun T=>([T.get 0,T.get 3]:List AV)) hE (f9_1_e x st) Ob.ok_nil hn (one g0)).mono fun ex T' st' ⟨q1,q2,q3,q4⟩=>by simp only [List.cons.injEq,and_true] at q3;exact ⟨q1,⟨q2,q3⟩,q4⟩
def f9L2(T:Tm)(a0 a3 a4:AV):Prop:=T.n=19∧T.get 0=a0∧T.get 3=a3∧T.get 4=a4
theorem f9_2_e(x o:AV)(st:St):((evS Tryz.prog E0 noOv noS 100000 [] (f9P 2) ⟨19,[(0,x),(3,o)],[]⟩ st []).map fun q=>(q.1,q.2.1.n,([q.2.1.get 0,q.2.1.get 3,q.2.1.get 4]:List AV),q.2.2.1,q.2.2.2.2))=some (.normal,19,[x,o,(i64 0)],st,[]):=by kernel_rfl
theorem f9_2{x o:AV}{st:St}{T:Tm}(hT:f9L1 T x o):AW Tryz.prog (f9P 2) (fun ex T' st'=>ex= .normal∧f9L2 T' x o (i64 0)∧st'=st) T st:=by
  obtain ⟨hn,g0,g3⟩:=hT
  exact (gen_run (G:=fun T=>([T.get 0,T.get 3,T.get 4]:List AV)) hE (f9_2_e x o st) Ob.ok_nil hn (conz g0 (one g3))).mono fun ex T' st' ⟨q1,q2,q3,q4⟩=>by simp only [List.cons.injEq,and_true] at q3;exact ⟨q1,⟨q2,q3⟩,q4⟩
theorem f9_3_T_e(x o q14 v15 v16 v17:AV)(n4 n7 n10:Int)(st s1 s2:St):((evS Tryz.prog E0 noOv noS 100000 [2015,2016,2017,7007,7008,7010,7014] (f9P 3) ⟨19,[(0,x),(3,o),(4,(i64 n4))],[]⟩ st [.av (i64 n7),.av TT,.av q14,.eff v15 id,.eff v16 (fun _=>s1),.eff v17 (fun _=>s2),.av (i64 n10)]).map fun q=>(q.1,q.2.1.n,([q.2.1.get 0,q.2.1.get 3,q.2.1.get 4]:List AV),q.2.2.1,q.2.2.2.2))=some (.normal,19,[x,v17,(i64 n10)],s2,[lenA E0 22 x=some (i64 n7),binA E0 .lss 3 (i64 n4) (i64 n7)=some TT,indexAddrA E0 22 x (i64 n4)=some q14,loadA E0 st 54 q14=some v15∧st=st,buildSliceA E0 st 28 1 [(0,v15)]=some (v16,s1),appendA E0 s1 28 28 o v16=some (v17,s2),binA E0 .add 3 (i64 n4) (i64 1)=some (i64 n10)]):=by kernel_rfl
theorem f9_3_T{x o q14 v15 v16 v17:AV}{n4 n7 n10:Int}{st s1 s2:St}(h1:lenA E0 22 x=some (i64 n7))(h2:binA E0 .lss 3 (i64 n4) (i64 n7)=some TT)(h3:indexAddrA E0 22 x (i64 n4)=some q14)(h4:loadA E0 st 54 q14=some v15)(h5:buildSliceA E0 st 28 1 [(0,v15)]=some (v16,s1))(h6:appendA E0 s1 28 28 o v16=some (v17,s2))(h7:binA E0 .add 3 (i64 n4) (i64 1)=some (i64 n10)){T:Tm}(hT:f9L2 T x o (i64 n4)):AW Tryz.prog (f9P 3) (fun ex T' st'=>ex= .normal∧f9L2 T' x v17 (i64 n10)∧st'=s2) T st:=by
  obtain ⟨hn,g0,g3,g4⟩:=hT
  exact (gen_run (G:=fun T=>([T.get 0,T.get 3,T.get 4]:List AV)) hE (f9_3_T_e x o q14 v15 v16 v17 n4 n7 n10 st s1 s2) (Ob.ok_cons.2 ⟨h1,(Ob.ok_cons.2 ⟨h2,(Ob.ok_cons.2 ⟨h3,(Ob.ok_cons.2 ⟨⟨h4,rfl⟩,(Ob.ok_cons.2 ⟨h5,(Ob.ok_cons.2 ⟨h6,(Ob.ok_cons.2 ⟨h7,Ob.ok_nil⟩)⟩)⟩)⟩)⟩)⟩)⟩) hn (conz g0 (conz g3 (one g4)))).mono fun ex T' st' ⟨q1,q2,q3,q4⟩=>by simp only [List.cons.injEq,and_true] at q3;exact ⟨q1,⟨q2,q3⟩,q4⟩
def f9L3(T:Tm)(a3:AV):Prop:=T.n=19∧T.get 3=a3
theorem f9_3_F_e(x o:AV)(n4 n7:Int)(st:St):((evS Tryz.prog E0 noOv noS 100000 [2015,2016,2017,7007,7008,7010,7014] (f9P 3) ⟨19,[(0,x),(3,o),(4,(i64 n4))],[]⟩ st [.av (i64 n7),.av FF]).map fun q=>(q.1,q.2.1.n,([q.2.1.get 3]:List AV),q.2.2.1,q.2.2.2.2))=some ((.exit 0),19,[o],st,[lenA E0 22 x=some (i64 n7),binA E0 .lss 3 (i64 n4) (i64 n7)=some FF]):=by kernel_rfl
theorem f9_3_F{x o:AV}{n4 n7:Int}{st:St}(h1:lenA E0 22 x=some (i64 n7))(h2:binA E0 .lss 3 (i64 n4) (i64 n7)=some FF){T:Tm}(hT:f9L2 T x o (i64 n4)):AW Tryz.prog (f9P 3) (fun ex T' st'=>ex=(.exit 0)∧f9L3 T' o∧st'=st) T st:=by
  obtain ⟨hn,g0,g3,g4⟩:=hT
  exact (gen_run (G:=fun T=>([T.get 3]:List AV)) hE (f9_3_F_e x o n4 n7 st) (Ob.ok_cons.2 ⟨h1,(Ob.ok_cons.2 ⟨h2,Ob.ok_nil⟩)⟩) hn (conz g0 (conz g3 (one g4)))).mono fun ex T' st' ⟨q1,q2,q3,q4⟩=>by simp only [List.cons.injEq,and_true] at q3;exact ⟨q1,⟨q2,q3⟩,q4⟩
def f9L4(T:Tm)(a2:AV):Prop:=T.n=19∧T.get 2=a2
theorem f9_4_e(o:AV)(st:St):((evS Tryz.prog E0 noOv noS 100000 [] (f9P 4) ⟨19,[(3,o)],[]⟩ st []).map fun q=>(q.1,q.2.1.n,([q.2.1.get 2]:List AV),q.2.2.1,q.2.2.2.2))=some (.ret,19,[o],st,[]):=by kernel_rfl
theorem f9_4{o:AV}{st:St}{T:Tm}(hT:f9L3 T o):AW Tryz.prog (f9P 4) (fun ex T' st'=>ex= .ret∧f9L4 T' o∧st'=st) T st:=by
  obtain ⟨hn,g3⟩:=hT
  exact (gen_run (G:=fun T=>([T.get 2]:List AV)) hE (f9_4_e o st) Ob.ok_nil hn (one g3)).mono fun ex T' st' ⟨q1,q2,q3,q4⟩=>by simp only [List.cons.injEq,and_true] at q3;exact ⟨q1,⟨q2,q3⟩,q4⟩
noncomputable def f12P(i:Nat):Code:=match Tryz.f12.body with
  |some (.seq x0 (.seq x1 (.seq (.seq x2 (.block 0 (.loop (.seq x3 (.seq (.block 1 (.seq x4 (.seq x5 (.seq x6 (.block 2 (.loop (.seq x7 (.seq (.block 3 (.seq x8 x9)) x10)))))))) x11))))) x12)))=> [x0,x1,x2,x3,x4,x5,x6,x7,x8,x9,x10,x11,x12].getD i .skip
  |_=> .skip
theorem f12body:Tryz.f12.body=some (.seq (f12P 0) (.seq (f12P 1) (.seq (.seq (f12P 2) (.block 0 (.loop (.seq (f12P 3) (.seq (.block 1 (.seq (f12P 4) (.seq (f12P 5) (.seq (f12P 6) (.block 2 (.loop (.seq (f12P 7) (.seq (.block 3 (.seq (f12P 8) (f12P 9))) (f12P 10))))))))) (f12P 11)))))) (f12P 12)))):=by kernel_rfl
def f12L0(T:Tm)(a0 a1:AV):Prop:=T.n=83∧T.get 0=a0∧T.get 1=a1
theorem f12_0_e(x y:AV)(st:St):((evS Tryz.prog E0 noOv noS 100000 [] (f12P 0) ⟨83,[(0,x),(1,y)],[]⟩ st []).map fun q=>(q.1,q.2.1.n,([q.2.1.get 0,q.2.1.get 1]:List AV),q.2.2.1,q.2.2.2.2))=some (.normal,83,[x,y],st,[]):=by kernel_rfl
theorem f12_0{x y:AV}{st:St}{T:Tm}(hT:f12L0 T x y):AW Tryz.prog (f12P 0) (fun ex T' st'=>ex= .normal∧f12L0 T' x y∧st'=st) T st:=by
  obtain ⟨hn,g0,g1⟩:=hT
  exact (gen_run (G:=fun T=>([T.get 0,T.get 1]:List AV)) hE (f12_0_e x y st) Ob.ok_nil hn (conz g0 (one g1))).mono fun ex T' st' ⟨q1,q2,q3,q4⟩=>by simp only [List.cons.injEq,and_true] at q3;exact ⟨q1,⟨q2,q3⟩,q4⟩
def f12L1(T:Tm)(a4:AV):Prop:=T.n=83∧T.get 4=a4
theorem f12_1_F_e(x y:AV)(st:St)(n10 n12:Int):((evS Tryz.prog E0 noOv noS 100000 [7010,7012,7013] (f12P 1) ⟨83,[(0,x),(1,y)],[]⟩ st [.av (i64 n10),.av (i64 n12),.av FF]).map fun q=>(q.1,q.2.1.n,([q.2.1.get 0,q.2.1.get 1]:List AV),q.2.2.1,q.2.2.2.2))=some (.normal,83,[x,y],st,[lenA E0 28 x=some (i64 n10),lenA E0 28 y=some (i64 n12),binA E0 .neq 3 (i64 n10) (i64 n12)=some FF]):=by kernel_rfl
theorem f12_1_F{x y:AV}{st:St}{n10 n12:Int}(h1:lenA E0 28 x=some (i64 n10))(h2:lenA E0 28 y=some (i64 n12))(h3:binA E0 .neq 3 (i64 n10) (i64 n12)=some FF){T:Tm}(hT:f12L0 T x y):AW Tryz.prog (f12P 1) (fun ex T' st'=>ex= .normal∧f12L0 T' x y∧st'=st) T st:=by
  obtain ⟨hn,g0,g1⟩:=hT
  exact (gen_run (G:=fun T=>([T.get 0,T.get 1]:List AV)) hE (f12_1_F_e x y st n10 n12) (Ob.ok_cons.2 ⟨h1,(Ob.ok_cons.2 ⟨h2,(Ob.ok_cons.2 ⟨h3,Ob.ok_nil⟩)⟩)⟩) hn (conz g0 (one g1))).mono fun ex T' st' ⟨q1,q2,q3,q4⟩=>by simp only [List.cons.injEq,and_true] at q3;exact ⟨q1,⟨q2,q3⟩,q4⟩
def f12L2(T:Tm)(a0 a1 a5:AV):Prop:=T.n=83∧T.get 0=a0∧T.get 1=a1∧T.get 5=a5
theorem f12_2_e(x y:AV)(st:St):((evS Tryz.prog E0 noOv noS 100000 [] (f12P 2) ⟨83,[(0,x),(1,y)],[]⟩ st []).map fun q=>(q.1,q.2.1.n,([q.2.1.get 0,q.2.1.get 1,q.2.1.get 5]:List AV),q.2.2.1,q.2.2.2.2))=some (.normal,83,[x,y,(i64 0)],st,[]):=by kernel_rfl
theorem f12_2{x y:AV}{st:St}{T:Tm}(hT:f12L0 T x y):AW Tryz.prog (f12P 2) (fun ex T' st'=>ex= .normal∧f12L2 T' x y (i64 0)∧st'=st) T st:=by
  obtain ⟨hn,g0,g1⟩:=hT
  exact (gen_run (G:=fun T=>([T.get 0,T.get 1,T.get 5]:List AV)) hE (f12_2_e x y st) Ob.ok_nil hn (conz g0 (one g1))).mono fun ex T' st' ⟨q1,q2,q3,q4⟩=>by simp only [List.cons.injEq,and_true] at q3;exact ⟨q1,⟨q2,q3⟩,q4⟩
theorem f12_3_T_e(x y:AV)(n5 n16:Int)(st:St):((evS Tryz.prog E0 noOv noS 100000 [7016,7017] (f12P 3) ⟨83,[(0,x),(1,y),(5,(i64 n5))],[]⟩ st [.av (i64 n16),.av TT]).map fun q=>(q.1,q.2.1.n,([q.2.1.get 0,q.2.1.get 1,q.2.1.get 5]:List AV),q.2.2.1,q.2.2.2.2))=some (.normal,83,[x,y,(i64 n5)],st,[lenA E0 28 x=some (i64 n16),binA E0 .lss 3 (i64 n5) (i64 n16)=some TT]):=by kernel_rfl
theorem f12_3_T{x y:AV}{n5 n16:Int}{st:St}(h1:lenA E0 28 x=some (i64 n16))(h2:binA E0 .lss 3 (i64 n5) (i64 n16)=some TT){T:Tm}(hT:f12L2 T x y (i64 n5)):AW Tryz.prog (f12P 3) (fun ex T' st'=>ex= .normal∧f12L2 T' x y (i64 n5)∧st'=st) T st:=by
  obtain ⟨hn,g0,g1,g5⟩:=hT
  exact (gen_run (G:=fun T=>([T.get 0,T.get 1,T.get 5]:List AV)) hE (f12_3_T_e x y n5 n16 st) (Ob.ok_cons.2 ⟨h1,(Ob.ok_cons.2 ⟨h2,Ob.ok_nil⟩)⟩) hn (conz g0 (conz g1 (one g5)))).mono fun ex T' st' ⟨q1,q2,q3,q4⟩=>by simp only [List.cons.injEq,and_true] at q3;exact ⟨q1,⟨q2,q3⟩,q4⟩
def f12L3(T:Tm):Prop:=T.n=83
theorem f12_3_F_e(x y:AV)(n5 n16:Int)(st:St):((evS Tryz.prog E0 noOv noS 100000 [7016,7017] (f12P 3) ⟨83,[(0,x),(1,y),(5,(i64 n5))],[]⟩ st [.av (i64 n16),.av FF]).map fun q=>(q.1,q.2.1.n,([]:List AV),q.2.2.1,q.2.2.2.2))=some ((.exit 0),83,[],st,[lenA E0 28 x=some (i64 n16),binA E0 .lss 3 (i64 n5) (i64 n16)=some FF]):=by kernel_rfl
theorem f12_3_F{x y:AV}{n5 n16:Int}{st:St}(h1:lenA E0 28 x=some (i64 n16))(h2:binA E0 .lss 3 (i64 n5) (i64 n16)=some FF){T:Tm}(hT:f12L2 T x y (i64 n5)):AW Tryz.prog (f12P 3) (fun ex T' st'=>ex=(.exit 0)∧f12L3 T'∧st'=st) T st:=by
  obtain ⟨hn,g0,g1,g5⟩:=hT
  exact (gen_run (G:=fun T=>([]:List AV)) hE (f12_3_F_e x y n5 n16 st) (Ob.ok_cons.2 ⟨h1,(Ob.ok_cons.2 ⟨h2,Ob.ok_nil⟩)⟩) hn (conz g0 (conz g1 (one g5)))).mono fun ex T' st' ⟨q1,q2,q3,q4⟩=>by exact ⟨q1,q2,q4⟩
def f12L4(T:Tm)(a0 a1 a5 a6 a7:AV):Prop:=T.n=83∧T.get 0=a0∧T.get 1=a1∧T.get 5=a5∧T.get 6=a6∧T.get 7=a7
theorem f12_5_FFFFF_e(x y v49 v52 v58 v61:AV)(n5 n29 n31 n35 n37 n42 n44 n59 n62:Int)(a b:Nat)(st:St)(w50 w53:ByteArray):((evS Tryz.prog E0 noOv noS 100000 [2029,2031,2035,2037,2042,2044,2049,2050,2052,2053,2058,2061,7032,7038,7045,7054,7059,7062,7063] (f12P 5) ⟨83,[(0,x),(1,y),(5,(i64 n5)),(6,(.ptr a 0)),(7,(.ptr b 0))],[]⟩ st [.eff (i64 n29) id,.eff (i64 n31) id,.av FF,.eff (i64 n35) id,.eff (i64 n37) id,.av FF,.eff (i64 n42) id,.eff (i64 n44) id,.av FF,.eff v49 id,.eff (str w50) id,.eff v52 id,.eff (str w53) id,.av FF,.eff v58 id,.av (i64 n59),.eff v61 id,.av (i64 n62),.av FF]).map fun q=>(q.1,q.2.1.n,([q.2.1.get 0,q.2.1.get 1,q.2.1.get 5,q.2.1.get 6,q.2.1.get 7]:List AV),q.2.2.1,q.2.2.2.2))=some (.normal,83,[x,y,(i64 n5),(.ptr a 0),(.ptr b 0)],st,[loadA E0 st 3 (.ptr a 0)=some (i64 n29)∧st=st,loadA E0 st 3 (.ptr b 0)=some (i64 n31)∧st=st,binA E0 .neq 3 (i64 n29) (i64 n31)=some FF,loadA E0 st 3 (.ptr a 1)=some (i64 n35)∧st=st,loadA E0 st 3 (.ptr b 1)=some (i64 n37)∧st=st,binA E0 .neq 3 (i64 n35) (i64 n37)=some FF,loadA E0 st 3 (.ptr a 2)=some (i64 n42)∧st=st,loadA E0 st 3 (.ptr b 2)=some (i64 n44)∧st=st,binA E0 .neq 3 (i64 n42) (i64 n44)=some FF,loadA E0 st 51 (.ptr a 3)=some v49∧st=st,convO E0 st 51 9 v49=some ((str w50),st),loadA E0 st 51 (.ptr b 3)=some v52∧st=st,convO E0 st 51 9 v52=some ((str w53),st),binA E0 .neq 9 (str w50) (str w53)=some FF,loadA E0 st 52 (.ptr a 4)=some v58∧st=st,lenA E0 52 v58=some (i64 n59),loadA E0 st 52 (.ptr b 4)=some v61∧st=st,lenA E0 52 v61=some (i64 n62),binA E0 .neq 3 (i64 n59) (i64 n62)=some FF]):=by kernel_rfl
theorem f12_5_FFFFF{x y v49 v52 v58 v61:AV}{n5 n29 n31 n35 n37 n42 n44 n59 n62:Int}{a b:Nat}{st:St}{w50 w53:ByteArray}(h1:loadA E0 st 3 (.ptr a 0)=some (i64 n29))(h2:loadA E0 st 3 (.ptr b 0)=some (i64 n31))(h3:binA E0 .neq 3 (i64 n29) (i64 n31)=some FF)(h4:loadA E0 st 3 (.ptr a 1)=some (i64 n35))(h5:loadA E0 st 3 (.ptr b 1)=some (i64 n37))(h6:binA E0 .neq 3 (i64 n35) (i64 n37)=some FF)(h7:loadA E0 st 3 (.ptr a 2)=some (i64 n42))(h8:loadA E0 st 3 (.ptr b 2)=some (i64 n44))(h9:binA E0 .neq 3 (i64 n42) (i64 n44)=some FF)(h10:loadA E0 st 51 (.ptr a 3)=some v49)(h11:convO E0 st 51 9 v49=some ((str w50),st))(h12:loadA E0 st 51 (.ptr b 3)=some v52)(h13:convO E0 st 51 9 v52=some ((str w53),st))(h14:binA E0 .neq 9 (str w50) (str w53)=some FF)(h15:loadA E0 st 52 (.ptr a 4)=some v58)(h16:lenA E0 52 v58=some (i64 n59))(h17:loadA E0 st 52 (.ptr b 4)=some v61)(h18:lenA E0 52 v61=some (i64 n62))(h19:binA E0 .neq 3 (i64 n59) (i64 n62)=some FF){T:Tm}(hT:f12L4 T x y (i64 n5) (.ptr a 0) (.ptr b 0)):AW Tryz.prog (f12P 5) (fun ex T' st'=>ex= .normal∧f12L4 T' x y (i64 n5) (.ptr a 0) (.ptr b 0)∧st'=st) T st:=by
  obtain ⟨hn,g0,g1,g5,g6,g7⟩:=hT
  exact (gen_run (G:=fun T=>([T.get 0,T.get 1,T.get 5,T.get 6,T.get 7]:List AV)) hE (f12_5_FFFFF_e x y v49 v52 v58 v61 n5 n29 n31 n35 n37 n42 n44 n59 n62 a b st w50 w53) (Ob.ok_cons.2 ⟨⟨h1,rfl⟩,(Ob.ok_cons.2 ⟨⟨h2,rfl⟩,(Ob.ok_cons.2 ⟨h3,(Ob.ok_cons.2 ⟨⟨h4,rfl⟩,(Ob.ok_cons.2 ⟨⟨h5,rfl⟩,(Ob.ok_cons.2 ⟨h6,(Ob.ok_cons.2 ⟨⟨h7,rfl⟩,(Ob.ok_cons.2 ⟨⟨h8,rfl⟩,(Ob.ok_cons.2 ⟨h9,(Ob.ok_cons.2 ⟨⟨h10,rfl⟩,(Ob.ok_cons.2 ⟨h11,(Ob.ok_cons.2 ⟨⟨h12,rfl⟩,(Ob.ok_cons.2 ⟨h13,(Ob.ok_cons.2 ⟨h14,(Ob.ok_cons.2 ⟨⟨h15,rfl⟩,(Ob.ok_cons.2 ⟨h16,(Ob.ok_cons.2 ⟨⟨h17,rfl⟩,(Ob.ok_cons.2 ⟨h18,(Ob.ok_cons.2 ⟨h19,Ob.ok_nil⟩)⟩)⟩)⟩)⟩)⟩)⟩)⟩)⟩)⟩)⟩)⟩)⟩)⟩)⟩)⟩)⟩)⟩)⟩) hn (conz g0 (conz g1 (conz g5 (conz g6 (one g7)))))).mono fun ex T' st' ⟨q1,q2,q3,q4⟩=>by simp only [List.cons.injEq,and_true] at q3;exact ⟨q1,⟨q2,q3⟩,q4⟩
def f12L5(T:Tm)(a0 a1 a5 a6 a7 a8:AV):Prop:=T.n=83∧T.get 0=a0∧T.get 1=a1∧T.get 5=a5∧T.get 6=a6∧T.get 7=a7∧T.get 8=a8
theorem f12_6_e(x y:AV)(n5:Int)(a b:Nat)(st:St):((evS Tryz.prog E0 noOv noS 100000 [] (f12P 6) ⟨83,[(0,x),(1,y),(5,(i64 n5)),(6,(.ptr a 0)),(7,(.ptr b 0))],[]⟩ st []).map fun q=>(q.1,q.2.1.n,([q.2.1.get 0,q.2.1.get 1,q.2.1.get 5,q.2.1.get 6,q.2.1.get 7,q.2.1.get 8]:List AV),q.2.2.1,q.2.2.2.2))=some (.normal,83,[x,y,(i64 n5),(.ptr a 0),(.ptr b 0),(i64 0)],st,[]):=by kernel_rfl
theorem f12_6{x y:AV}{n5:Int}{a b:Nat}{st:St}{T:Tm}(hT:f12L4 T x y (i64 n5) (.ptr a 0) (.ptr b 0)):AW Tryz.prog (f12P 6) (fun ex T' st'=>ex= .normal∧f12L5 T' x y (i64 n5) (.ptr a 0) (.ptr b 0) (i64 0)∧st'=st) T st:=by
  obtain ⟨hn,g0,g1,g5,g6,g7⟩:=hT
  exact (gen_run (G:=fun T=>([T.get 0,T.get 1,T.get 5,T.get 6,T.get 7,T.get 8]:List AV)) hE (f12_6_e x y n5 a b st) Ob.ok_nil hn (conz g0 (conz g1 (conz g5 (conz g6 (one g7)))))).mono fun ex T' st' ⟨q1,q2,q3,q4⟩=>by simp only [List.cons.injEq,and_true] at q3;exact ⟨q1,⟨q2,q3⟩,q4⟩
theorem f12_7_T_e(x y v67:AV)(n5 n8 n68:Int)(a b:Nat)(st:St):((evS Tryz.prog E0 noOv noS 100000 [2067,7068,7069] (f12P 7) ⟨83,[(0,x),(1,y),(5,(i64 n5)),(6,(.ptr a 0)),(7,(.ptr b 0)),(8,(i64 n8))],[]⟩ st [.eff v67 id,.av (i64 n68),.av TT]).map fun q=>(q.1,q.2.1.n,([q.2.1.get 0,q.2.1.get 1,q.2.1.get 5,q.2.1.get 6,q.2.1.get 7,q.2.1.get 8]:List AV),q.2.2.1,q.2.2.2.2))=some (.normal,83,[x,y,(i64 n5),(.ptr a 0),(.ptr b 0),(i64 n8)],st,[loadA E0 st 52 (.ptr a 4)=some v67∧st=st,lenA E0 52 v67=some (i64 n68),binA E0 .lss 3 (i64 n8) (i64 n68)=some TT]):=by kernel_rfl
theorem f12_7_T{x y v67:AV}{n5 n8 n68:Int}{a b:Nat}{st:St}(h1:loadA E0 st 52 (.ptr a 4)=some v67)(h2:lenA E0 52 v67=some (i64 n68))(h3:binA E0 .lss 3 (i64 n8) (i64 n68)=some TT){T:Tm}(hT:f12L5 T x y (i64 n5) (.ptr a 0) (.ptr b 0) (i64 n8)):AW Tryz.prog (f12P 7) (fun ex T' st'=>ex= .normal∧f12L5 T' x y (i64 n5) (.ptr a 0) (.ptr b 0) (i64 n8)∧st'=st) T st:=by
  obtain ⟨hn,g0,g1,g5,g6,g7,g8⟩:=hT
  exact (gen_run (G:=fun T=>([T.get 0,T.get 1,T.get 5,T.get 6,T.get 7,T.get 8]:List AV)) hE (f12_7_T_e x y v67 n5 n8 n68 a b st) (Ob.ok_cons.2 ⟨⟨h1,rfl⟩,(Ob.ok_cons.2 ⟨h2,(Ob.ok_cons.2 ⟨h3,Ob.ok_nil⟩)⟩)⟩) hn (conz g0 (conz g1 (conz g5 (conz g6 (conz g7 (one g8))))))).mono fun ex T' st' ⟨q1,q2,q3,q4⟩=>by simp only [List.cons.injEq,and_true] at q3;exact ⟨q1,⟨q2,q3⟩,q4⟩
theorem f12_7_F_e(x y v67:AV)(n5 n8 n68:Int)(a b:Nat)(st:St):((evS Tryz.prog E0 noOv noS 100000 [2067,7068,7069] (f12P 7) ⟨83,[(0,x),(1,y),(5,(i64 n5)),(6,(.ptr a 0)),(7,(.ptr b 0)),(8,(i64 n8))],[]⟩ st [.eff v67 id,.av (i64 n68),.av FF]).map fun q=>(q.1,q.2.1.n,([q.2.1.get 0,q.2.1.get 1,q.2.1.get 5]:List AV),q.2.2.1,q.2.2.2.2))=some ((.exit 2),83,[x,y,(i64 n5)],st,[loadA E0 st 52 (.ptr a 4)=some v67∧st=st,lenA E0 52 v67=some (i64 n68),binA E0 .lss 3 (i64 n8) (i64 n68)=some FF]):=by kernel_rfl
theorem f12_7_F{x y v67:AV}{n5 n8 n68:Int}{a b:Nat}{st:St}(h1:loadA E0 st 52 (.ptr a 4)=some v67)(h2:lenA E0 52 v67=some (i64 n68))(h3:binA E0 .lss 3 (i64 n8) (i64 n68)=some FF){T:Tm}(hT:f12L5 T x y (i64 n5) (.ptr a 0) (.ptr b 0) (i64 n8)):AW Tryz.prog (f12P 7) (fun ex T' st'=>ex=(.exit 2)∧f12L2 T' x y (i64 n5)∧st'=st) T st:=by
  obtain ⟨hn,g0,g1,g5,g6,g7,g8⟩:=hT
  exact (gen_run (G:=fun T=>([T.get 0,T.get 1,T.get 5]:List AV)) hE (f12_7_F_e x y v67 n5 n8 n68 a b st) (Ob.ok_cons.2 ⟨⟨h1,rfl⟩,(Ob.ok_cons.2 ⟨h2,(Ob.ok_cons.2 ⟨h3,Ob.ok_nil⟩)⟩)⟩) hn (conz g0 (conz g1 (conz g5 (conz g6 (conz g7 (one g8))))))).mono fun ex T' st' ⟨q1,q2,q3,q4⟩=>by simp only [List.cons.injEq,and_true] at q3;exact ⟨q1,⟨q2,q3⟩,q4⟩
def f12L6(T:Tm)(a0 a1 a5 a6 a7 a8 a82:AV):Prop:=T.n=83∧T.get 0=a0∧T.get 1=a1∧T.get 5=a5∧T.get 6=a6∧T.get 7=a7∧T.get 8=a8∧T.get 82=a82
theorem f12_9_F_e(x y:AV)(n5 n8:Int)(a b:Nat)(st:St):((evS Tryz.prog E0 noOv noS 100000 [] (f12P 9) ⟨83,[(0,x),(1,y),(5,(i64 n5)),(6,(.ptr a 0)),(7,(.ptr b 0)),(8,(i64 n8)),(82,FF)],[]⟩ st []).map fun q=>(q.1,q.2.1.n,([q.2.1.get 0,q.2.1.get 1,q.2.1.get 5,q.2.1.get 6,q.2.1.get 7,q.2.1.get 8]:List AV),q.2.2.1,q.2.2.2.2))=some (.normal,83,[x,y,(i64 n5),(.ptr a 0),(.ptr b 0),(i64 n8)],st,[]):=by kernel_rfl
theorem f12_9_F{x y:AV}{n5 n8:Int}{a b:Nat}{st:St}{T:Tm}(hT:f12L6 T x y (i64 n5) (.ptr a 0) (.ptr b 0) (i64 n8) FF):AW Tryz.prog (f12P 9) (fun ex T' st'=>ex= .normal∧f12L5 T' x y (i64 n5) (.ptr a 0) (.ptr b 0) (i64 n8)∧st'=st) T st:=by
  obtain ⟨hn,g0,g1,g5,g6,g7,g8,g82⟩:=hT
  exact (gen_run (G:=fun T=>([T.get 0,T.get 1,T.get 5,T.get 6,T.get 7,T.get 8]:List AV)) hE (f12_9_F_e x y n5 n8 a b st) Ob.ok_nil hn (conz g0 (conz g1 (conz g5 (conz g6 (conz g7 (conz g8 (one g82)))))))).mono fun ex T' st' ⟨q1,q2,q3,q4⟩=>by simp only [List.cons.injEq,and_true] at q3;exact ⟨q1,⟨q2,q3⟩,q4⟩
theorem f12_10_e(x y:AV)(n5 n8 n71:Int)(a b:Nat)(st:St):((evS Tryz.prog E0 noOv noS 100000 [7071] (f12P 10) ⟨83,[(0,x),(1,y),(5,(i64 n5)),(6,(.ptr a 0)),(7,(.ptr b 0)),(8,(i64 n8))],[]⟩ st [.av (i64 n71)]).map fun q=>(q.1,q.2.1.n,([q.2.1.get 0,q.2.1.get 1,q.2.1.get 5,q.2.1.get 6,q.2.1.get 7,q.2.1.get 8]:List AV),q.2.2.1,q.2.2.2.2))=some (.normal,83,[x,y,(i64 n5),(.ptr a 0),(.ptr b 0),(i64 n71)],st,[binA E0 .add 3 (i64 n8) (i64 1)=some (i64 n71)]):=by kernel_rfl
theorem f12_10{x y:AV}{n5 n8 n71:Int}{a b:Nat}{st:St}(h1:binA E0 .add 3 (i64 n8) (i64 1)=some (i64 n71)){T:Tm}(hT:f12L5 T x y (i64 n5) (.ptr a 0) (.ptr b 0) (i64 n8)):AW Tryz.prog (f12P 10) (fun ex T' st'=>ex= .normal∧f12L5 T' x y (i64 n5) (.ptr a 0) (.ptr b 0) (i64 n71)∧st'=st) T st:=by
  obtain ⟨hn,g0,g1,g5,g6,g7,g8⟩:=hT
  exact (gen_run (G:=fun T=>([T.get 0,T.get 1,T.get 5,T.get 6,T.get 7,T.get 8]:List AV)) hE (f12_10_e x y n5 n8 n71 a b st) (Ob.ok_cons.2 ⟨h1,Ob.ok_nil⟩) hn (conz g0 (conz g1 (conz g5 (conz g6 (conz g7 (one g8))))))).mono fun ex T' st' ⟨q1,q2,q3,q4⟩=>by simp only [List.cons.injEq,and_true] at q3;exact ⟨q1,⟨q2,q3⟩,q4⟩
theorem f12_11_e(x y:AV)(n5 n19:Int)(st:St):((evS Tryz.prog E0 noOv noS 100000 [7019] (f12P 11) ⟨83,[(0,x),(1,y),(5,(i64 n5))],[]⟩ st [.av (i64 n19)]).map fun q=>(q.1,q.2.1.n,([q.2.1.get 0,q.2.1.get 1,q.2.1.get 5]:List AV),q.2.2.1,q.2.2.2.2))=some (.normal,83,[x,y,(i64 n19)],st,[binA E0 .add 3 (i64 n5) (i64 1)=some (i64 n19)]):=by kernel_rfl
theorem f12_11{x y:AV}{n5 n19:Int}{st:St}(h1:binA E0 .add 3 (i64 n5) (i64 1)=some (i64 n19)){T:Tm}(hT:f12L2 T x y (i64 n5)):AW Tryz.prog (f12P 11) (fun ex T' st'=>ex= .normal∧f12L2 T' x y (i64 n19)∧st'=st) T st:=by
  obtain ⟨hn,g0,g1,g5⟩:=hT
  exact (gen_run (G:=fun T=>([T.get 0,T.get 1,T.get 5]:List AV)) hE (f12_11_e x y n5 n19 st) (Ob.ok_cons.2 ⟨h1,Ob.ok_nil⟩) hn (conz g0 (conz g1 (one g5)))).mono fun ex T' st' ⟨q1,q2,q3,q4⟩=>by simp only [List.cons.injEq,and_true] at q3;exact ⟨q1,⟨q2,q3⟩,q4⟩
theorem f12_12_e(st:St):((evS Tryz.prog E0 noOv noS 100000 [] (f12P 12) ⟨83,[],[]⟩ st []).map fun q=>(q.1,q.2.1.n,([q.2.1.get 4]:List AV),q.2.2.1,q.2.2.2.2))=some (.ret,83,[TT],st,[]):=by kernel_rfl
theorem f12_12{st:St}{T:Tm}(hT:f12L3 T):AW Tryz.prog (f12P 12) (fun ex T' st'=>ex= .ret∧f12L1 T' TT∧st'=st) T st:=by
  have hn:T.n=83:=hT
  exact (gen_run (G:=fun T=>([T.get 4]:List AV)) hE (f12_12_e st) Ob.ok_nil hn (fun q hq=>by cases hq)).mono fun ex T' st' ⟨q1,q2,q3,q4⟩=>by simp only [List.cons.injEq,and_true] at q3;exact ⟨q1,⟨q2,q3⟩,q4⟩
noncomputable def f16P(i:Nat):Code:=match Tryz.f16.body with
  |some (.seq x0 (.seq x1 (.seq (.seq x2 (.block 0 (.loop x3))) x4)))=> [x0,x1,x2,x3,x4].getD i .skip
  |_=> .skip
theorem f16body:Tryz.f16.body=some (.seq (f16P 0) (.seq (f16P 1) (.seq (.seq (f16P 2) (.block 0 (.loop (f16P 3)))) (f16P 4)))):=by kernel_rfl
def f16L0(T:Tm)(a0:AV):Prop:=T.n=33∧T.get 0=a0
theorem f16_0_e(x:AV)(st:St):((evS Tryz.prog E0 noOv noS 100000 [] (f16P 0) ⟨33,[(0,x)],[]⟩ st []).map fun q=>(q.1,q.2.1.n,([q.2.1.get 0]:List AV),q.2.2.1,q.2.2.2.2))=some (.normal,33,[x],st,[]):=by kernel_rfl
theorem f16_0{x:AV}{st:St}{T:Tm}(hT:f16L0 T x):AW Tryz.prog (f16P 0) (fun ex T' st'=>ex= .normal∧f16L0 T' x∧st'=st) T st:=by
  obtain ⟨hn,g0⟩:=hT
  exact (gen_run (G:=fun T=>([T.get 0]:List AV)) hE (f16_0_e x st) Ob.ok_nil hn (one g0)).mono fun ex T' st' ⟨q1,q2,q3,q4⟩=>by simp only [List.cons.injEq,and_true] at q3;exact ⟨q1,⟨q2,q3⟩,q4⟩
def f16L1(T:Tm)(a0 a3:AV):Prop:=T.n=33∧T.get 0=a0∧T.get 3=a3
theorem f16_1_e(x:AV)(st:St):((evS Tryz.prog E0 noOv noS 100000 [] (f16P 1) ⟨33,[(0,x)],[]⟩ st []).map fun q=>(q.1,q.2.1.n,([q.2.1.get 0,q.2.1.get 3]:List AV),q.2.2.1,q.2.2.2.2))=some (.normal,33,[x,.nils],st,[]):=by kernel_rfl
theorem f16_1{x:AV}{st:St}{T:Tm}(hT:f16L0 T x):AW Tryz.prog (f16P 1) (fun ex T' st'=>ex= .normal∧f16L1 T' x .nils∧st'=st) T st:=by
  obtain ⟨hn,g0⟩:=hT
  exact (gen_run (G:=fun T=>([T.get 0,T.get 3]:List AV)) hE (f16_1_e x st) Ob.ok_nil hn (one g0)).mono fun ex T' st' ⟨q1,q2,q3,q4⟩=>by simp only [List.cons.injEq,and_true] at q3;exact ⟨q1,⟨q2,q3⟩,q4⟩
def f16L2(T:Tm)(a0 a3 a4:AV):Prop:=T.n=33∧T.get 0=a0∧T.get 3=a3∧T.get 4=a4
theorem f16_2_e(x o:AV)(st:St):((evS Tryz.prog E0 noOv noS 100000 [] (f16P 2) ⟨33,[(0,x),(3,o)],[]⟩ st []).map fun q=>(q.1,q.2.1.n,([q.2.1.get 0,q.2.1.get 3,q.2.1.get 4]:List AV),q.2.2.1,q.2.2.2.2))=some (.normal,33,[x,o,(i64 0)],st,[]):=by kernel_rfl
theorem f16_2{x o:AV}{st:St}{T:Tm}(hT:f16L1 T x o):AW Tryz.prog (f16P 2) (fun ex T' st'=>ex= .normal∧f16L2 T' x o (i64 0)∧st'=st) T st:=by
  obtain ⟨hn,g0,g3⟩:=hT
  exact (gen_run (G:=fun T=>([T.get 0,T.get 3,T.get 4]:List AV)) hE (f16_2_e x o st) Ob.ok_nil hn (conz g0 (one g3))).mono fun ex T' st' ⟨q1,q2,q3,q4⟩=>by simp only [List.cons.injEq,and_true] at q3;exact ⟨q1,⟨q2,q3⟩,q4⟩
theorem f16_3_T_e(x o q14 v15 v26 v29 v30 v31:AV)(n4 n8 n18 n20 n22 n24 n11:Int)(st s1 s2 s3 s4:St)(a5:Nat)(b28:Bool):((evS Tryz.prog E0 noOv noS 100000 [2005,2015,2018,2020,2022,2024,2026,2028,2030,2031,5000,7008,7009,7011,7014,7029] (f16P 3) ⟨33,[(0,x),(3,o),(4,(i64 n4))],[]⟩ st [.av (i64 n8),.av TT,.av q14,.eff v15 id,.eff (.ptr a5 0) (fun _=>s1),.eff .undef (fun _=>s2),.eff (i64 n18) id,.eff (i64 n20) id,.eff (i64 n22) id,.eff (i64 n24) id,.eff v26 id,.eff (bo b28) id,.av v29,.eff v30 (fun _=>s3),.eff v31 (fun _=>s4),.av (i64 n11)]).map fun q=>(q.1,q.2.1.n,([q.2.1.get 0,q.2.1.get 3,q.2.1.get 4]:List AV),q.2.2.1,q.2.2.2.2))=some (.normal,33,[x,v31,(i64 n11)],s4,[lenA E0 37 x=some (i64 n8),binA E0 .lss 3 (i64 n4) (i64 n8)=some TT,indexAddrA E0 37 x (i64 n4)=some q14,loadA E0 st 70 q14=some v15∧st=st,allocA E0 st 70=some ((.ptr a5 0),s1),storeA E0 s1 70 (.ptr a5 0) v15=some s2,loadA E0 s2 3 (.ptr a5 0)=some (i64 n18)∧s2=s2,loadA E0 s2 23 (.ptr a5 1)=some (i64 n20)∧s2=s2,loadA E0 s2 3 (.ptr a5 2)=some (i64 n22)∧s2=s2,loadA E0 s2 3 (.ptr a5 3)=some (i64 n24)∧s2=s2,loadA E0 s2 51 (.ptr a5 4)=some v26∧s2=s2,loadA E0 s2 4 (.ptr a5 5)=some (bo b28)∧s2=s2,buildA E0 76 [(0,(i64 n18)),(1,(i64 n20)),(2,(i64 n22)),(3,(i64 n24)),(4,v26),(5,(bo b28))]=some v29,buildSliceA E0 s2 40 1 [(0,v29)]=some (v30,s3),appendA E0 s3 40 40 o v30=some (v31,s4),binA E0 .add 3 (i64 n4) (i64 1)=some (i64 n11)]):=by kernel_rfl
theorem f16_3_T{x o q14 v15 v26 v29 v30 v31:AV}{n4 n8 n18 n20 n22 n24 n11:Int}{st s1 s2 s3 s4:St}{a5:Nat}{b28:Bool}(h1:lenA E0 37 x=some (i64 n8))(h2:binA E0 .lss 3 (i64 n4) (i64 n8)=some TT)(h3:indexAddrA E0 37 x (i64 n4)=some q14)(h4:loadA E0 st 70 q14=some v15)(h5:allocA E0 st 70=some ((.ptr a5 0),s1))(h6:storeA E0 s1 70 (.ptr a5 0) v15=some s2)(h7:loadA E0 s2 3 (.ptr a5 0)=some (i64 n18))(h8:loadA E0 s2 23 (.ptr a5 1)=some (i64 n20))(h9:loadA E0 s2 3 (.ptr a5 2)=some (i64 n22))(h10:loadA E0 s2 3 (.ptr a5 3)=some (i64 n24))(h11:loadA E0 s2 51 (.ptr a5 4)=some v26)(h12:loadA E0 s2 4 (.ptr a5 5)=some (bo b28))(h13:buildA E0 76 [(0,(i64 n18)),(1,(i64 n20)),(2,(i64 n22)),(3,(i64 n24)),(4,v26),(5,(bo b28))]=some v29)(h14:buildSliceA E0 s2 40 1 [(0,v29)]=some (v30,s3))(h15:appendA E0 s3 40 40 o v30=some (v31,s4))(h16:binA E0 .add 3 (i64 n4) (i64 1)=some (i64 n11)){T:Tm}(hT:f16L2 T x o (i64 n4)):AW Tryz.prog (f16P 3) (fun ex T' st'=>ex= .normal∧f16L2 T' x v31 (i64 n11)∧st'=s4) T st:=by
  obtain ⟨hn,g0,g3,g4⟩:=hT
  exact (gen_run (G:=fun T=>([T.get 0,T.get 3,T.get 4]:List AV)) hE (f16_3_T_e x o q14 v15 v26 v29 v30 v31 n4 n8 n18 n20 n22 n24 n11 st s1 s2 s3 s4 a5 b28) (Ob.ok_cons.2 ⟨h1,(Ob.ok_cons.2 ⟨h2,(Ob.ok_cons.2 ⟨h3,(Ob.ok_cons.2 ⟨⟨h4,rfl⟩,(Ob.ok_cons.2 ⟨h5,(Ob.ok_cons.2 ⟨h6,(Ob.ok_cons.2 ⟨⟨h7,rfl⟩,(Ob.ok_cons.2 ⟨⟨h8,rfl⟩,(Ob.ok_cons.2 ⟨⟨h9,rfl⟩,(Ob.ok_cons.2 ⟨⟨h10,rfl⟩,(Ob.ok_cons.2 ⟨⟨h11,rfl⟩,(Ob.ok_cons.2 ⟨⟨h12,rfl⟩,(Ob.ok_cons.2 ⟨h13,(Ob.ok_cons.2 ⟨h14,(Ob.ok_cons.2 ⟨h15,(Ob.ok_cons.2 ⟨h16,Ob.ok_nil⟩)⟩)⟩)⟩)⟩)⟩)⟩)⟩)⟩)⟩)⟩)⟩)⟩)⟩)⟩)⟩) hn (conz g0 (conz g3 (one g4)))).mono fun ex T' st' ⟨q1,q2,q3,q4⟩=>by simp only [List.cons.injEq,and_true] at q3;exact ⟨q1,⟨q2,q3⟩,q4⟩
def f16L3(T:Tm)(a3:AV):Prop:=T.n=33∧T.get 3=a3
theorem f16_3_F_e(x o:AV)(n4 n8:Int)(st:St):((evS Tryz.prog E0 noOv noS 100000 [2005,2015,2018,2020,2022,2024,2026,2028,2030,2031,5000,7008,7009,7011,7014,7029] (f16P 3) ⟨33,[(0,x),(3,o),(4,(i64 n4))],[]⟩ st [.av (i64 n8),.av FF]).map fun q=>(q.1,q.2.1.n,([q.2.1.get 3]:List AV),q.2.2.1,q.2.2.2.2))=some ((.exit 0),33,[o],st,[lenA E0 37 x=some (i64 n8),binA E0 .lss 3 (i64 n4) (i64 n8)=some FF]):=by kernel_rfl
theorem f16_3_F{x o:AV}{n4 n8:Int}{st:St}(h1:lenA E0 37 x=some (i64 n8))(h2:binA E0 .lss 3 (i64 n4) (i64 n8)=some FF){T:Tm}(hT:f16L2 T x o (i64 n4)):AW Tryz.prog (f16P 3) (fun ex T' st'=>ex=(.exit 0)∧f16L3 T' o∧st'=st) T st:=by
  obtain ⟨hn,g0,g3,g4⟩:=hT
  exact (gen_run (G:=fun T=>([T.get 3]:List AV)) hE (f16_3_F_e x o n4 n8 st) (Ob.ok_cons.2 ⟨h1,(Ob.ok_cons.2 ⟨h2,Ob.ok_nil⟩)⟩) hn (conz g0 (conz g3 (one g4)))).mono fun ex T' st' ⟨q1,q2,q3,q4⟩=>by simp only [List.cons.injEq,and_true] at q3;exact ⟨q1,⟨q2,q3⟩,q4⟩
def f16L4(T:Tm)(a2:AV):Prop:=T.n=33∧T.get 2=a2
theorem f16_4_e(o:AV)(st:St):((evS Tryz.prog E0 noOv noS 100000 [] (f16P 4) ⟨33,[(3,o)],[]⟩ st []).map fun q=>(q.1,q.2.1.n,([q.2.1.get 2]:List AV),q.2.2.1,q.2.2.2.2))=some (.ret,33,[o],st,[]):=by kernel_rfl
theorem f16_4{o:AV}{st:St}{T:Tm}(hT:f16L3 T o):AW Tryz.prog (f16P 4) (fun ex T' st'=>ex= .ret∧f16L4 T' o∧st'=st) T st:=by
  obtain ⟨hn,g3⟩:=hT
  exact (gen_run (G:=fun T=>([T.get 2]:List AV)) hE (f16_4_e o st) Ob.ok_nil hn (one g3)).mono fun ex T' st' ⟨q1,q2,q3,q4⟩=>by simp only [List.cons.injEq,and_true] at q3;exact ⟨q1,⟨q2,q3⟩,q4⟩
noncomputable def f19P(i:Nat):Code:=match Tryz.f19.body with
  |some (.seq x0 (.seq x1 (.seq (.seq x2 (.block 0 (.loop (.seq x3 (.seq (.block 1 (.seq x4 x5)) x6))))) x7)))=> [x0,x1,x2,x3,x4,x5,x6,x7].getD i .skip
  |_=> .skip
theorem f19body:Tryz.f19.body=some (.seq (f19P 0) (.seq (f19P 1) (.seq (.seq (f19P 2) (.block 0 (.loop (.seq (f19P 3) (.seq (.block 1 (.seq (f19P 4) (f19P 5))) (f19P 6)))))) (f19P 7)))):=by kernel_rfl
def f19L0(T:Tm)(a0 a1:AV):Prop:=T.n=69∧T.get 0=a0∧T.get 1=a1
theorem f19_0_e(x y:AV)(st:St):((evS Tryz.prog E0 noOv noS 100000 [] (f19P 0) ⟨69,[(0,x),(1,y)],[]⟩ st []).map fun q=>(q.1,q.2.1.n,([q.2.1.get 0,q.2.1.get 1]:List AV),q.2.2.1,q.2.2.2.2))=some (.normal,69,[x,y],st,[]):=by kernel_rfl
theorem f19_0{x y:AV}{st:St}{T:Tm}(hT:f19L0 T x y):AW Tryz.prog (f19P 0) (fun ex T' st'=>ex= .normal∧f19L0 T' x y∧st'=st) T st:=by
  obtain ⟨hn,g0,g1⟩:=hT
  exact (gen_run (G:=fun T=>([T.get 0,T.get 1]:List AV)) hE (f19_0_e x y st) Ob.ok_nil hn (conz g0 (one g1))).mono fun ex T' st' ⟨q1,q2,q3,q4⟩=>by simp only [List.cons.injEq,and_true] at q3;exact ⟨q1,⟨q2,q3⟩,q4⟩
def f19L1(T:Tm)(a4:AV):Prop:=T.n=69∧T.get 4=a4
theorem f19_1_F_e(x y:AV)(st:St)(n9 n11:Int):((evS Tryz.prog E0 noOv noS 100000 [7009,7011,7012] (f19P 1) ⟨69,[(0,x),(1,y)],[]⟩ st [.av (i64 n9),.av (i64 n11),.av FF]).map fun q=>(q.1,q.2.1.n,([q.2.1.get 0,q.2.1.get 1]:List AV),q.2.2.1,q.2.2.2.2))=some (.normal,69,[x,y],st,[lenA E0 40 x=some (i64 n9),lenA E0 40 y=some (i64 n11),binA E0 .neq 3 (i64 n9) (i64 n11)=some FF]):=by kernel_rfl
theorem f19_1_F{x y:AV}{st:St}{n9 n11:Int}(h1:lenA E0 40 x=some (i64 n9))(h2:lenA E0 40 y=some (i64 n11))(h3:binA E0 .neq 3 (i64 n9) (i64 n11)=some FF){T:Tm}(hT:f19L0 T x y):AW Tryz.prog (f19P 1) (fun ex T' st'=>ex= .normal∧f19L0 T' x y∧st'=st) T st:=by
  obtain ⟨hn,g0,g1⟩:=hT
  exact (gen_run (G:=fun T=>([T.get 0,T.get 1]:List AV)) hE (f19_1_F_e x y st n9 n11) (Ob.ok_cons.2 ⟨h1,(Ob.ok_cons.2 ⟨h2,(Ob.ok_cons.2 ⟨h3,Ob.ok_nil⟩)⟩)⟩) hn (conz g0 (one g1))).mono fun ex T' st' ⟨q1,q2,q3,q4⟩=>by simp only [List.cons.injEq,and_true] at q3;exact ⟨q1,⟨q2,q3⟩,q4⟩
def f19L2(T:Tm)(a0 a1 a5:AV):Prop:=T.n=69∧T.get 0=a0∧T.get 1=a1∧T.get 5=a5
theorem f19_2_e(x y:AV)(st:St):((evS Tryz.prog E0 noOv noS 100000 [] (f19P 2) ⟨69,[(0,x),(1,y)],[]⟩ st []).map fun q=>(q.1,q.2.1.n,([q.2.1.get 0,q.2.1.get 1,q.2.1.get 5]:List AV),q.2.2.1,q.2.2.2.2))=some (.normal,69,[x,y,(i64 0)],st,[]):=by kernel_rfl
theorem f19_2{x y:AV}{st:St}{T:Tm}(hT:f19L0 T x y):AW Tryz.prog (f19P 2) (fun ex T' st'=>ex= .normal∧f19L2 T' x y (i64 0)∧st'=st) T st:=by
  obtain ⟨hn,g0,g1⟩:=hT
  exact (gen_run (G:=fun T=>([T.get 0,T.get 1,T.get 5]:List AV)) hE (f19_2_e x y st) Ob.ok_nil hn (conz g0 (one g1))).mono fun ex T' st' ⟨q1,q2,q3,q4⟩=>by simp only [List.cons.injEq,and_true] at q3;exact ⟨q1,⟨q2,q3⟩,q4⟩
theorem f19_3_T_e(x y:AV)(n5 n15:Int)(st:St):((evS Tryz.prog E0 noOv noS 100000 [7015,7016] (f19P 3) ⟨69,[(0,x),(1,y),(5,(i64 n5))],[]⟩ st [.av (i64 n15),.av TT]).map fun q=>(q.1,q.2.1.n,([q.2.1.get 0,q.2.1.get 1,q.2.1.get 5]:List AV),q.2.2.1,q.2.2.2.2))=some (.normal,69,[x,y,(i64 n5)],st,[lenA E0 40 x=some (i64 n15),binA E0 .lss 3 (i64 n5) (i64 n15)=some TT]):=by kernel_rfl
theorem f19_3_T{x y:AV}{n5 n15:Int}{st:St}(h1:lenA E0 40 x=some (i64 n15))(h2:binA E0 .lss 3 (i64 n5) (i64 n15)=some TT){T:Tm}(hT:f19L2 T x y (i64 n5)):AW Tryz.prog (f19P 3) (fun ex T' st'=>ex= .normal∧f19L2 T' x y (i64 n5)∧st'=st) T st:=by
  obtain ⟨hn,g0,g1,g5⟩:=hT
  exact (gen_run (G:=fun T=>([T.get 0,T.get 1,T.get 5]:List AV)) hE (f19_3_T_e x y n5 n15 st) (Ob.ok_cons.2 ⟨h1,(Ob.ok_cons.2 ⟨h2,Ob.ok_nil⟩)⟩) hn (conz g0 (conz g1 (one g5)))).mono fun ex T' st' ⟨q1,q2,q3,q4⟩=>by simp only [List.cons.injEq,and_true] at q3;exact ⟨q1,⟨q2,q3⟩,q4⟩
def f19L3(T:Tm):Prop:=T.n=69
theorem f19_3_F_e(x y:AV)(n5 n15:Int)(st:St):((evS Tryz.prog E0 noOv noS 100000 [7015,7016] (f19P 3) ⟨69,[(0,x),(1,y),(5,(i64 n5))],[]⟩ st [.av (i64 n15),.av FF]).map fun q=>(q.1,q.2.1.n,([]:List AV),q.2.2.1,q.2.2.2.2))=some ((.exit 0),69,[],st,[lenA E0 40 x=some (i64 n15),binA E0 .lss 3 (i64 n5) (i64 n15)=some FF]):=by kernel_rfl
theorem f19_3_F{x y:AV}{n5 n15:Int}{st:St}(h1:lenA E0 40 x=some (i64 n15))(h2:binA E0 .lss 3 (i64 n5) (i64 n15)=some FF){T:Tm}(hT:f19L2 T x y (i64 n5)):AW Tryz.prog (f19P 3) (fun ex T' st'=>ex=(.exit 0)∧f19L3 T'∧st'=st) T st:=by
  obtain ⟨hn,g0,g1,g5⟩:=hT
  exact (gen_run (G:=fun T=>([]:List AV)) hE (f19_3_F_e x y n5 n15 st) (Ob.ok_cons.2 ⟨h1,(Ob.ok_cons.2 ⟨h2,Ob.ok_nil⟩)⟩) hn (conz g0 (conz g1 (one g5)))).mono fun ex T' st' ⟨q1,q2,q3,q4⟩=>by exact ⟨q1,q2,q4⟩
def f19L4(T:Tm)(a0 a1 a5 a6 a7:AV):Prop:=T.n=69∧T.get 0=a0∧T.get 1=a1∧T.get 5=a5∧T.get 6=a6∧T.get 7=a7
theorem f19_5_FFFFFF_e(x y v55 v58:AV)(n5 n28 n30 n34 n36 n41 n43 n48 n50:Int)(a b:Nat)(st:St)(w56 w59:ByteArray)(b64 b66:Bool):((evS Tryz.prog E0 noOv noS 100000 [2028,2030,2034,2036,2041,2043,2048,2050,2055,2056,2058,2059,2064,2066,7031,7037,7044,7051,7060,7067] (f19P 5) ⟨69,[(0,x),(1,y),(5,(i64 n5)),(6,(.ptr a 0)),(7,(.ptr b 0))],[]⟩ st [.eff (i64 n28) id,.eff (i64 n30) id,.av FF,.eff (i64 n34) id,.eff (i64 n36) id,.av FF,.eff (i64 n41) id,.eff (i64 n43) id,.av FF,.eff (i64 n48) id,.eff (i64 n50) id,.av FF,.eff v55 id,.eff (str w56) id,.eff v58 id,.eff (str w59) id,.av FF,.eff (bo b64) id,.eff (bo b66) id,.av FF]).map fun q=>(q.1,q.2.1.n,([q.2.1.get 0,q.2.1.get 1,q.2.1.get 5]:List AV),q.2.2.1,q.2.2.2.2))=some (.normal,69,[x,y,(i64 n5)],st,[loadA E0 st 3 (.ptr a 0)=some (i64 n28)∧st=st,loadA E0 st 3 (.ptr b 0)=some (i64 n30)∧st=st,binA E0 .neq 3 (i64 n28) (i64 n30)=some FF,loadA E0 st 3 (.ptr a 1)=some (i64 n34)∧st=st,loadA E0 st 3 (.ptr b 1)=some (i64 n36)∧st=st,binA E0 .neq 3 (i64 n34) (i64 n36)=some FF,loadA E0 st 3 (.ptr a 2)=some (i64 n41)∧st=st,loadA E0 st 3 (.ptr b 2)=some (i64 n43)∧st=st,binA E0 .neq 3 (i64 n41) (i64 n43)=some FF,loadA E0 st 3 (.ptr a 3)=some (i64 n48)∧st=st,loadA E0 st 3 (.ptr b 3)=some (i64 n50)∧st=st,binA E0 .neq 3 (i64 n48) (i64 n50)=some FF,loadA E0 st 51 (.ptr a 4)=some v55∧st=st,convO E0 st 51 9 v55=some ((str w56),st),loadA E0 st 51 (.ptr b 4)=some v58∧st=st,convO E0 st 51 9 v58=some ((str w59),st),binA E0 .neq 9 (str w56) (str w59)=some FF,loadA E0 st 4 (.ptr a 5)=some (bo b64)∧st=st,loadA E0 st 4 (.ptr b 5)=some (bo b66)∧st=st,binA E0 .neq 4 (bo b64) (bo b66)=some FF]):=by kernel_rfl
theorem f19_5_FFFFFF{x y v55 v58:AV}{n5 n28 n30 n34 n36 n41 n43 n48 n50:Int}{a b:Nat}{st:St}{w56 w59:ByteArray}{b64 b66:Bool}(h1:loadA E0 st 3 (.ptr a 0)=some (i64 n28))(h2:loadA E0 st 3 (.ptr b 0)=some (i64 n30))(h3:binA E0 .neq 3 (i64 n28) (i64 n30)=some FF)(h4:loadA E0 st 3 (.ptr a 1)=some (i64 n34))(h5:loadA E0 st 3 (.ptr b 1)=some (i64 n36))(h6:binA E0 .neq 3 (i64 n34) (i64 n36)=some FF)(h7:loadA E0 st 3 (.ptr a 2)=some (i64 n41))(h8:loadA E0 st 3 (.ptr b 2)=some (i64 n43))(h9:binA E0 .neq 3 (i64 n41) (i64 n43)=some FF)(h10:loadA E0 st 3 (.ptr a 3)=some (i64 n48))(h11:loadA E0 st 3 (.ptr b 3)=some (i64 n50))(h12:binA E0 .neq 3 (i64 n48) (i64 n50)=some FF)(h13:loadA E0 st 51 (.ptr a 4)=some v55)(h14:convO E0 st 51 9 v55=some ((str w56),st))(h15:loadA E0 st 51 (.ptr b 4)=some v58)(h16:convO E0 st 51 9 v58=some ((str w59),st))(h17:binA E0 .neq 9 (str w56) (str w59)=some FF)(h18:loadA E0 st 4 (.ptr a 5)=some (bo b64))(h19:loadA E0 st 4 (.ptr b 5)=some (bo b66))(h20:binA E0 .neq 4 (bo b64) (bo b66)=some FF){T:Tm}(hT:f19L4 T x y (i64 n5) (.ptr a 0) (.ptr b 0)):AW Tryz.prog (f19P 5) (fun ex T' st'=>ex= .normal∧f19L2 T' x y (i64 n5)∧st'=st) T st:=by
  obtain ⟨hn,g0,g1,g5,g6,g7⟩:=hT
  exact (gen_run (G:=fun T=>([T.get 0,T.get 1,T.get 5]:List AV)) hE (f19_5_FFFFFF_e x y v55 v58 n5 n28 n30 n34 n36 n41 n43 n48 n50 a b st w56 w59 b64 b66) (Ob.ok_cons.2 ⟨⟨h1,rfl⟩,(Ob.ok_cons.2 ⟨⟨h2,rfl⟩,(Ob.ok_cons.2 ⟨h3,(Ob.ok_cons.2 ⟨⟨h4,rfl⟩,(Ob.ok_cons.2 ⟨⟨h5,rfl⟩,(Ob.ok_cons.2 ⟨h6,(Ob.ok_cons.2 ⟨⟨h7,rfl⟩,(Ob.ok_cons.2 ⟨⟨h8,rfl⟩,(Ob.ok_cons.2 ⟨h9,(Ob.ok_cons.2 ⟨⟨h10,rfl⟩,(Ob.ok_cons.2 ⟨⟨h11,rfl⟩,(Ob.ok_cons.2 ⟨h12,(Ob.ok_cons.2 ⟨⟨h13,rfl⟩,(Ob.ok_cons.2 ⟨h14,(Ob.ok_cons.2 ⟨⟨h15,rfl⟩,(Ob.ok_cons.2 ⟨h16,(Ob.ok_cons.2 ⟨h17,(Ob.ok_cons.2 ⟨⟨h18,rfl⟩,(Ob.ok_cons.2 ⟨⟨h19,rfl⟩,(Ob.ok_cons.2 ⟨h20,Ob.ok_nil⟩)⟩)⟩)⟩)⟩)⟩)⟩)⟩)⟩)⟩)⟩)⟩)⟩)⟩)⟩)⟩)⟩)⟩)⟩)⟩) hn (conz g0 (conz g1 (conz g5 (conz g6 (one g7)))))).mono fun ex T' st' ⟨q1,q2,q3,q4⟩=>by simp only [List.cons.injEq,and_true] at q3;exact ⟨q1,⟨q2,q3⟩,q4⟩
theorem f19_6_e(x y:AV)(n5 n18:Int)(st:St):((evS Tryz.prog E0 noOv noS 100000 [7018] (f19P 6) ⟨69,[(0,x),(1,y),(5,(i64 n5))],[]⟩ st [.av (i64 n18)]).map fun q=>(q.1,q.2.1.n,([q.2.1.get 0,q.2.1.get 1,q.2.1.get 5]:List AV),q.2.2.1,q.2.2.2.2))=some (.normal,69,[x,y,(i64 n18)],st,[binA E0 .add 3 (i64 n5) (i64 1)=some (i64 n18)]):=by kernel_rfl
theorem f19_6{x y:AV}{n5 n18:Int}{st:St}(h1:binA E0 .add 3 (i64 n5) (i64 1)=some (i64 n18)){T:Tm}(hT:f19L2 T x y (i64 n5)):AW Tryz.prog (f19P 6) (fun ex T' st'=>ex= .normal∧f19L2 T' x y (i64 n18)∧st'=st) T st:=by
  obtain ⟨hn,g0,g1,g5⟩:=hT
  exact (gen_run (G:=fun T=>([T.get 0,T.get 1,T.get 5]:List AV)) hE (f19_6_e x y n5 n18 st) (Ob.ok_cons.2 ⟨h1,Ob.ok_nil⟩) hn (conz g0 (conz g1 (one g5)))).mono fun ex T' st' ⟨q1,q2,q3,q4⟩=>by simp only [List.cons.injEq,and_true] at q3;exact ⟨q1,⟨q2,q3⟩,q4⟩
theorem f19_7_e(st:St):((evS Tryz.prog E0 noOv noS 100000 [] (f19P 7) ⟨69,[],[]⟩ st []).map fun q=>(q.1,q.2.1.n,([q.2.1.get 4]:List AV),q.2.2.1,q.2.2.2.2))=some (.ret,69,[TT],st,[]):=by kernel_rfl
theorem f19_7{st:St}{T:Tm}(hT:f19L3 T):AW Tryz.prog (f19P 7) (fun ex T' st'=>ex= .ret∧f19L1 T' TT∧st'=st) T st:=by
  have hn:T.n=69:=hT
  exact (gen_run (G:=fun T=>([T.get 4]:List AV)) hE (f19_7_e st) Ob.ok_nil hn (fun q hq=>by cases hq)).mono fun ex T' st' ⟨q1,q2,q3,q4⟩=>by simp only [List.cons.injEq,and_true] at q3;exact ⟨q1,⟨q2,q3⟩,q4⟩
end
section
set_option maxRecDepth 100000
/-! ### two things are copied into cells, in either order -/
def opAt(ops:Array Oper)(i:Nat):Oper:=match ops[i]? with|some o=>o|none=>default
theorem ADt.step{E:Env}{ops:Array Oper}{ids:List Nat}{st:St}{K:Array Bool→Tm→Prop}{i:Nat}{rest:List Nat}{listed:Array Bool}{T:Tm}{o:Oper}{av:AV}{d:Option Nat}(hd:o.dst=d)(hi:ops[i]? =some o)(hf:T.fits d=true)
    (hc:(!effOp o.op&&Region.free MD ops listed i&&(Region.ready MD ops listed).contains i&&noWait ops listed i&& !waits o i)=true) (hw:wantedA ops o T=some true) (hh:heldA E st ids o.op T=some av)
    (h:ADt E ops ids st K rest (listed.setIfInBounds i true) (T.put d av)):ADt E ops ids st K (i::rest) listed T:=by
  subst hd
  simp only [ADt,hi,hh]
  exact ⟨hf,hc,hw,h⟩
theorem ADe.mk{P:Program}{E:Env}{ops:Array Oper}{ids:List Nat}{Q:Exit→Tm→St→Prop}{i:Nat}{rest:List Nat}{listed:Array Bool}{T:Tm}{st st':St}{o:Oper}{av:AV}{d:Option Nat}(hd:o.dst=d)(hi:ops[i]? =some o)(hf:T.fits d=true)(hw:wantedA ops o T=some true)
    (hph:phase ops (listed.setIfInBounds i true)=true) (hl:ids.all (fun id=>(st.get id).isSome)=true) (he:evOp E o.op T (st.hide ids)=some (.val av st'))
    (h:ADr P E ops ids Q rest (listed.setIfInBounds i true) (T.put d av) (st'.show st ids)):ADe P E ops ids Q i rest listed T st:=by
  subst hd
  simp only [ADe,hi,hph,if_true,he,ADrK]
  exact ⟨hf,hw,fun _=>hl,h⟩
theorem ADr.val{P:Program}{E:Env}{ops:Array Oper}{ids:List Nat}{Q:Exit→Tm→St→Prop}{i:Nat}{rest:List Nat}{listed:Array Bool}{T:Tm}{st st':St}{o:Oper}{av:AV}{d:Option Nat}(hd:o.dst=d)(hi:ops[i]? =some o)(hf:T.fits d=true)(hw:wantedA ops o T=some true)(hef:effOp o.op=true)
    (hr:Region.ready MD ops listed= [i]) (hph:phase ops (listed.setIfInBounds i true)=true) (hl:ids.all (fun id=>(st.get id).isSome)=true) (he:evOp E o.op T (st.hide ids)=some (.val av st'))
    (h:ADr P E ops ids Q rest (listed.setIfInBounds i true) (T.put d av) (st'.show st ids)):ADr P E ops ids Q (i::rest) listed T st:=by
  subst hd
  simp only [ADr,hi]
  refine ⟨hf,?_⟩
  rw [if_neg (by rw [hef];simp),hw]
  simp only [hph,if_true,he,ADrK]
  exact ⟨hr,fun _=>hl,h⟩
theorem ADr.skp{P:Program}{E:Env}{ops:Array Oper}{ids:List Nat}{Q:Exit→Tm→St→Prop}{i:Nat}{rest:List Nat}{listed:Array Bool}{T:Tm}{st st':St}{o:Oper}{d:Option Nat}(hd:o.dst=d)(hi:ops[i]? =some o)(hf:T.fits d=true)(hw:wantedA ops o T=some true)(hef:effOp o.op=true)
    (hr:Region.ready MD ops listed= [i]) (hph:phase ops (listed.setIfInBounds i true)=true) (hl:ids.all (fun id=>(st.get id).isSome)=true) (he:evOp E o.op T (st.hide ids)=some (.skip st'))
    (h:ADr P E ops ids Q rest (listed.setIfInBounds i true) (T.put d (.tup [])) (st'.show st ids)):ADr P E ops ids Q (i::rest) listed T st:=by
  subst hd
  simp only [ADr,hi]
  refine ⟨hf,?_⟩
  rw [if_neg (by rw [hef];simp),hw]
  simp only [hph,if_true,he,ADrK]
  exact ⟨hr,fun _=>hl,h⟩
theorem ADr.skp0{P:Program}{E:Env}{ops:Array Oper}{ids:List Nat}{Q:Exit→Tm→St→Prop}{i:Nat}{rest:List Nat}{listed:Array Bool}{T:Tm}{st st':St}{o:Oper}{d:Option Nat}(hd:o.dst=d)(hi:ops[i]? =some o)(hf:T.fits d=true)(hw:wantedA ops o T=some true)(hef:effOp o.op=true)
    (hr:Region.ready MD ops listed= [i]) (hph:phase ops (listed.setIfInBounds i true)=false) (he:evOp E o.op T st=some (.skip st'))
    (h:ADr P E ops ids Q rest (listed.setIfInBounds i true) (T.put d (.tup [])) st'):ADr P E ops ids Q (i::rest) listed T st:=by
  subst hd
  simp only [ADr,hi]
  refine ⟨hf,?_⟩
  rw [if_neg (by rw [hef];simp),hw]
  simp only [hph,Bool.false_eq_true,if_false,he,ADrK]
  exact ⟨hr,fun h=>(by cases h),h⟩
theorem ADr.fin{P:Program}{E:Env}{ops:Array Oper}{ids:List Nat}{Q:Exit→Tm→St→Prop}{listed:Array Bool}{T:Tm}{st:St}(hr:Region.ready MD ops listed= [])(h:Q .normal T st):ADr P E ops ids Q [] listed T st:=by
  simp only [ADr]
  exact ⟨hr,h⟩
/-- a store beside what is hidden -/
theorem hide_set{st:St}(hw:st.wf)(I:List Nat){id:Nat}{o:AObj}(hid:id<st.next)(hI:id∉I):Rest st (((st.hide I).set id o).show st I) [id]∧(((st.hide I).set id o).show st I).get id=some o∧(((st.hide I).set id o).show st I).next=st.next:=by
  refine ⟨⟨fun i p hi hp=> ?_,by rw [St.show_next];exact Nat.le_refl _,rfl,by rw [St.show_gl];rfl,fun i p hp=> ?_⟩,by rw [St.show_get,if_neg (fun h=>hI h.1),St.get_set,if_pos rfl],by rw [St.show_next];rfl⟩
  · rw [St.show_get]
    split
    · exact hp
    · rw [St.get_set,if_neg (by simpa using hi)];exact hp
  · rw [St.show_next]
    show i<st.next
    rw [St.show_get] at hp
    split at hp
    · exact hw _ _ hp
    · rw [St.get_set] at hp
      split at hp
      · rename_i h;rw [h];exact hid
      · exact hw _ _ hp
theorem hide_new{st:St}(hw:st.wf)(I:List Nat)(hI:I.all (fun id=>(st.get id).isSome)=true)(o:AObj):(((st.hide I).push o).show st I).get st.next=some o∧(((st.hide I).push o).show st I).next=st.next+1:=by
  refine ⟨?_,by rw [St.show_next];rfl⟩
  rw [St.show_get,if_neg (fun h=> ?_),St.get_push]
  · exact if_pos rfl
  obtain ⟨p,hp⟩:=Option.isSome_iff_exists.1 h.2
  have:=hw _ _ hp
  omega
theorem all_rest{st st':St}{I:List Nat}{S:List Nat}(h:I.all (fun id=>(st.get id).isSome)=true)(r:Rest st st' S)(hS:∀i∈I,i∉S):I.all (fun id=>(st'.get id).isSome)=true:=by
  rw [List.all_eq_true] at h⊢
  intro i hi
  obtain ⟨o,ho⟩:=Option.isSome_iff_exists.1 (h i hi)
  rw [r.keep i o (hS i hi) ho];rfl

noncomputable def ops12:Array Oper:=match f12P 4 with| .region _ ops _=>ops|_=> #[]
theorem ops12_P:f12P 4= .region 6 ops12 true:=by kernel_rfl
theorem st58{st:St}{a:Nat}{vs cs:List AV}(h:st.get a=some (.row vs 58))(hv:vs.length=5)(hc:cs.length=5)(hl:a∉st.lock):storeA E0 st 58 (.ptr a 0) (.agg cs)=some (st.set a (.row cs 58)):=by
  have z:tySize E0 58=some 5:=by kernel_rfl
  unfold storeA
  simp only [avCells,St.wget_of h hl]
  rw [if_pos ⟨by rw [z,hc],by omega⟩]
  rw [List.take_zero,List.nil_append,Nat.zero_add,List.drop_eq_nil_of_le (by omega),List.append_nil]
theorem f12_fork8{x y:AV}{n5:Int}{A B oA oB:Nat}{cA cB:List AV}{st:St}(hw:st.wf)(hl:st.lock= [])(hI: [A,B].all (fun id=>(st.get id).isSome)=true)(hcA:cA.length=5)(hcB:cB.length=5):
    ADe Tryz.prog E0 ops12 [A,B] (fun ex T' z=>ex= .normal∧∃a b,f12L4 T' x y (i64 n5) (.ptr a 0) (.ptr b 0)∧Rest st z []∧z.get a=some (.row cA 58)∧z.get b=some (.row cB 58)∧a≠b∧z.next=st.next+2) 8 [9,10,11] (((((((((Array.replicate ops12.size false).setIfInBounds 0 true).setIfInBounds 1 true).setIfInBounds 2 true).setIfInBounds 3 true).setIfInBounds 4 true).setIfInBounds 5 true).setIfInBounds 6 true).setIfInBounds 7 true) (((((((((⟨83,[(0,x),(1,y),(5,i64 n5)],[]⟩:Tm).put (some 20) x).put (some 21) (i64 n5)).put (some 22) (.ptr A oA)).put (some 23) (.agg cA)).put (some 24) y).put (some 25) (i64 n5)).put (some 26) (.ptr B oB)).put (some 27) (.agg cB)) st:=by
  have hn:∀i∈ [A,B],i<st.next:=fun i hi=>by
    obtain ⟨o,ho⟩:=Option.isSome_iff_exists.1 (List.all_eq_true.1 hI i hi)
    exact hw _ _ ho
  refine ADe.mk (o:=opAt ops12 8) (d:=(some 6)) (by kernel_rfl) (by kernel_rfl) (by kernel_rfl) (by kernel_rfl) (by kernel_rfl) hI (show evOp E0 (opAt ops12 8).op (((((((((⟨83,[(0,x),(1,y),(5,i64 n5)],[]⟩:Tm).put (some 20) x).put (some 21) (i64 n5)).put (some 22) (.ptr A oA)).put (some 23) (.agg cA)).put (some 24) y).put (some 25) (i64 n5)).put (some 26) (.ptr B oB)).put (some 27) (.agg cB)) (st.hide [A,B])=some (.val (.ptr st.next 0) ((st.hide [A,B]).push (.row [i64 0,i64 0,i64 0,.nils,.nils] 58))) from by kernel_rfl) ?_
  have r1:=hide_push hw [A,B] (.row [i64 0,i64 0,i64 0,.nils,.nils] 58)
  obtain ⟨g1,n1⟩:=hide_new hw [A,B] hI (.row [i64 0,i64 0,i64 0,.nils,.nils] 58)
  have I1:=all_rest hI r1 (by simp)
  generalize ((st.hide [A,B]).push (.row [i64 0,i64 0,i64 0,.nils,.nils] 58)).show st [A,B]=s1 at r1 g1 n1 I1⊢
  refine ADr.val (o:=opAt ops12 9) (d:=(some 7)) (by kernel_rfl) (by kernel_rfl) (by kernel_rfl) (by kernel_rfl) (by kernel_rfl) (by kernel_rfl) (by kernel_rfl) I1 (show evOp E0 (opAt ops12 9).op ((((((((((⟨83,[(0,x),(1,y),(5,i64 n5)],[]⟩:Tm).put (some 20) x).put (some 21) (i64 n5)).put (some 22) (.ptr A oA)).put (some 23) (.agg cA)).put (some 24) y).put (some 25) (i64 n5)).put (some 26) (.ptr B oB)).put (some 27) (.agg cB)).put (some 6) (.ptr st.next 0)) (s1.hide [A,B])=some (.val (.ptr s1.next 0) ((s1.hide [A,B]).push (.row [i64 0,i64 0,i64 0,.nils,.nils] 58))) from by kernel_rfl) ?_
  have r2:=hide_push r1.wf [A,B] (.row [i64 0,i64 0,i64 0,.nils,.nils] 58)
  obtain ⟨g2,n2⟩:=hide_new r1.wf [A,B] I1 (.row [i64 0,i64 0,i64 0,.nils,.nils] 58)
  have I2:=all_rest I1 r2 (by simp)
  rw [n1] at g2 n2⊢
  have g1':=r2.keep _ _ (by simp) g1
  generalize ((s1.hide [A,B]).push (.row [i64 0,i64 0,i64 0,.nils,.nils] 58)).show s1 [A,B]=s2 at r2 g1' g2 n2 I2⊢
  have l2:s2.lock= []:=r2.lock.trans (r1.lock.trans hl)
  have hA:=hn A (by simp)
  have hB:=hn B (by simp)
  have p6:s2.get st.next=some (.row [i64 0,i64 0,i64 0,.nils,.nils] 58):=g1'
  have p7:s2.get (st.next+1)=some (.row [i64 0,i64 0,i64 0,.nils,.nils] 58):=g2
  have nI:st.next∉ [A,B]:=by simp;omega
  have e10:evOp E0 (opAt ops12 10).op (((((((((((⟨83,[(0,x),(1,y),(5,i64 n5)],[]⟩:Tm).put (some 20) x).put (some 21) (i64 n5)).put (some 22) (.ptr A oA)).put (some 23) (.agg cA)).put (some 24) y).put (some 25) (i64 n5)).put (some 26) (.ptr B oB)).put (some 27) (.agg cB)).put (some 6) (.ptr st.next 0)).put (some 7) (.ptr (st.next+1) 0)) (s2.hide [A,B])=some (.skip ((s2.hide [A,B]).set st.next (.row cA 58))):=
    (show evOp E0 (opAt ops12 10).op (((((((((((⟨83,[(0,x),(1,y),(5,i64 n5)],[]⟩:Tm).put (some 20) x).put (some 21) (i64 n5)).put (some 22) (.ptr A oA)).put (some 23) (.agg cA)).put (some 24) y).put (some 25) (i64 n5)).put (some 26) (.ptr B oB)).put (some 27) (.agg cB)).put (some 6) (.ptr st.next 0)).put (some 7) (.ptr (st.next+1) 0)) (s2.hide [A,B])=(storeA E0 (s2.hide [A,B]) 58 (.ptr st.next 0) (.agg cA)).map .skip from by kernel_rfl).trans (by rw [st58 (st:=s2.hide [A,B]) p6 rfl hcA (by show _∉ [A,B]++s2.lock;rw [l2,List.append_nil];exact nI)];rfl)
  refine ADr.skp (o:=opAt ops12 10) (d:=none) (by kernel_rfl) (by kernel_rfl) (by kernel_rfl) (by kernel_rfl) (by kernel_rfl) (by kernel_rfl) (by kernel_rfl) I2 e10 ?_
  obtain ⟨r3,g3,n3⟩:=hide_set (o:= .row cA 58) r2.wf [A,B] (r2.wf _ _ p6) nI
  have p7':=r3.keep _ _ (by simp) p7
  generalize ((s2.hide [A,B]).set st.next (.row cA 58)).show s2 [A,B]=s3 at r3 g3 p7' n3⊢
  have l3:s3.lock= []:=r3.lock.trans l2
  have e11:evOp E0 (opAt ops12 11).op ((((((((((((⟨83,[(0,x),(1,y),(5,i64 n5)],[]⟩:Tm).put (some 20) x).put (some 21) (i64 n5)).put (some 22) (.ptr A oA)).put (some 23) (.agg cA)).put (some 24) y).put (some 25) (i64 n5)).put (some 26) (.ptr B oB)).put (some 27) (.agg cB)).put (some 6) (.ptr st.next 0)).put (some 7) (.ptr (st.next+1) 0)).put none (.tup [])) s3=some (.skip (s3.set (st.next+1) (.row cB 58))):=
    (show evOp E0 (opAt ops12 11).op ((((((((((((⟨83,[(0,x),(1,y),(5,i64 n5)],[]⟩:Tm).put (some 20) x).put (some 21) (i64 n5)).put (some 22) (.ptr A oA)).put (some 23) (.agg cA)).put (some 24) y).put (some 25) (i64 n5)).put (some 26) (.ptr B oB)).put (some 27) (.agg cB)).put (some 6) (.ptr st.next 0)).put (some 7) (.ptr (st.next+1) 0)).put none (.tup [])) s3=(storeA E0 s3 58 (.ptr (st.next+1) 0) (.agg cB)).map .skip from by kernel_rfl).trans (by rw [st58 p7' rfl hcB (by rw [l3];simp)];rfl)
  refine ADr.skp0 (o:=opAt ops12 11) (d:=none) (by kernel_rfl) (by kernel_rfl) (by kernel_rfl) (by kernel_rfl) (by kernel_rfl) (by kernel_rfl) (by kernel_rfl) e11 ?_
  have r4:=Rest.set r3.wf (r3.wf _ _ p7') (.row cB 58) (S:= [(st.next+1)]) (by simp)
  refine ADr.fin (by kernel_rfl) ⟨rfl,st.next,(st.next+1),⟨rfl,rfl,rfl,rfl,rfl,rfl⟩,?_,?_,by rw [St.get_set,if_pos rfl],by omega,by show s3.next=_;omega⟩
  · exact (((r1.trans r2).fresh r3 hw (by simp)).fresh r4 hw (by simp))
  · rw [St.get_set,if_neg (by omega)];exact g3
theorem f12_fork9{x y:AV}{n5:Int}{A B oA oB:Nat}{cA cB:List AV}{st:St}(hw:st.wf)(hl:st.lock= [])(hI: [A,B].all (fun id=>(st.get id).isSome)=true)(hcA:cA.length=5)(hcB:cB.length=5):
    ADe Tryz.prog E0 ops12 [A,B] (fun ex T' z=>ex= .normal∧∃a b,f12L4 T' x y (i64 n5) (.ptr a 0) (.ptr b 0)∧Rest st z []∧z.get a=some (.row cA 58)∧z.get b=some (.row cB 58)∧a≠b∧z.next=st.next+2) 9 [8,10,11] (((((((((Array.replicate ops12.size false).setIfInBounds 0 true).setIfInBounds 1 true).setIfInBounds 2 true).setIfInBounds 3 true).setIfInBounds 4 true).setIfInBounds 5 true).setIfInBounds 6 true).setIfInBounds 7 true) (((((((((⟨83,[(0,x),(1,y),(5,i64 n5)],[]⟩:Tm).put (some 20) x).put (some 21) (i64 n5)).put (some 22) (.ptr A oA)).put (some 23) (.agg cA)).put (some 24) y).put (some 25) (i64 n5)).put (some 26) (.ptr B oB)).put (some 27) (.agg cB)) st:=by
  have hn:∀i∈ [A,B],i<st.next:=fun i hi=>by
    obtain ⟨o,ho⟩:=Option.isSome_iff_exists.1 (List.all_eq_true.1 hI i hi)
    exact hw _ _ ho
  refine ADe.mk (o:=opAt ops12 9) (d:=(some 7)) (by kernel_rfl) (by kernel_rfl) (by kernel_rfl) (by kernel_rfl) (by kernel_rfl) hI (show evOp E0 (opAt ops12 9).op (((((((((⟨83,[(0,x),(1,y),(5,i64 n5)],[]⟩:Tm).put (some 20) x).put (some 21) (i64 n5)).put (some 22) (.ptr A oA)).put (some 23) (.agg cA)).put (some 24) y).put (some 25) (i64 n5)).put (some 26) (.ptr B oB)).put (some 27) (.agg cB)) (st.hide [A,B])=some (.val (.ptr st.next 0) ((st.hide [A,B]).push (.row [i64 0,i64 0,i64 0,.nils,.nils] 58))) from by kernel_rfl) ?_
  have r1:=hide_push hw [A,B] (.row [i64 0,i64 0,i64 0,.nils,.nils] 58)
  obtain ⟨g1,n1⟩:=hide_new hw [A,B] hI (.row [i64 0,i64 0,i64 0,.nils,.nils] 58)
  have I1:=all_rest hI r1 (by simp)
  generalize ((st.hide [A,B]).push (.row [i64 0,i64 0,i64 0,.nils,.nils] 58)).show st [A,B]=s1 at r1 g1 n1 I1⊢
  refine ADr.val (o:=opAt ops12 8) (d:=(some 6)) (by kernel_rfl) (by kernel_rfl) (by kernel_rfl) (by kernel_rfl) (by kernel_rfl) (by kernel_rfl) (by kernel_rfl) I1 (show evOp E0 (opAt ops12 8).op ((((((((((⟨83,[(0,x),(1,y),(5,i64 n5)],[]⟩:Tm).put (some 20) x).put (some 21) (i64 n5)).put (some 22) (.ptr A oA)).put (some 23) (.agg cA)).put (some 24) y).put (some 25) (i64 n5)).put (some 26) (.ptr B oB)).put (some 27) (.agg cB)).put (some 7) (.ptr st.next 0)) (s1.hide [A,B])=some (.val (.ptr s1.next 0) ((s1.hide [A,B]).push (.row [i64 0,i64 0,i64 0,.nils,.nils] 58))) from by kernel_rfl) ?_
  have r2:=hide_push r1.wf [A,B] (.row [i64 0,i64 0,i64 0,.nils,.nils] 58)
  obtain ⟨g2,n2⟩:=hide_new r1.wf [A,B] I1 (.row [i64 0,i64 0,i64 0,.nils,.nils] 58)
  have I2:=all_rest I1 r2 (by simp)
  rw [n1] at g2 n2⊢
  have g1':=r2.keep _ _ (by simp) g1
  generalize ((s1.hide [A,B]).push (.row [i64 0,i64 0,i64 0,.nils,.nils] 58)).show s1 [A,B]=s2 at r2 g1' g2 n2 I2⊢
  have l2:s2.lock= []:=r2.lock.trans (r1.lock.trans hl)
  have hA:=hn A (by simp)
  have hB:=hn B (by simp)
  have p6:s2.get (st.next+1)=some (.row [i64 0,i64 0,i64 0,.nils,.nils] 58):=g2
  have p7:s2.get st.next=some (.row [i64 0,i64 0,i64 0,.nils,.nils] 58):=g1'
  have nI:(st.next+1)∉ [A,B]:=by simp;omega
  have e10:evOp E0 (opAt ops12 10).op (((((((((((⟨83,[(0,x),(1,y),(5,i64 n5)],[]⟩:Tm).put (some 20) x).put (some 21) (i64 n5)).put (some 22) (.ptr A oA)).put (some 23) (.agg cA)).put (some 24) y).put (some 25) (i64 n5)).put (some 26) (.ptr B oB)).put (some 27) (.agg cB)).put (some 7) (.ptr st.next 0)).put (some 6) (.ptr (st.next+1) 0)) (s2.hide [A,B])=some (.skip ((s2.hide [A,B]).set (st.next+1) (.row cA 58))):=
    (show evOp E0 (opAt ops12 10).op (((((((((((⟨83,[(0,x),(1,y),(5,i64 n5)],[]⟩:Tm).put (some 20) x).put (some 21) (i64 n5)).put (some 22) (.ptr A oA)).put (some 23) (.agg cA)).put (some 24) y).put (some 25) (i64 n5)).put (some 26) (.ptr B oB)).put (some 27) (.agg cB)).put (some 7) (.ptr st.next 0)).put (some 6) (.ptr (st.next+1) 0)) (s2.hide [A,B])=(storeA E0 (s2.hide [A,B]) 58 (.ptr (st.next+1) 0) (.agg cA)).map .skip from by kernel_rfl).trans (by rw [st58 (st:=s2.hide [A,B]) p6 rfl hcA (by show _∉ [A,B]++s2.lock;rw [l2,List.append_nil];exact nI)];rfl)
  refine ADr.skp (o:=opAt ops12 10) (d:=none) (by kernel_rfl) (by kernel_rfl) (by kernel_rfl) (by kernel_rfl) (by kernel_rfl) (by kernel_rfl) (by kernel_rfl) I2 e10 ?_
  obtain ⟨r3,g3,n3⟩:=hide_set (o:= .row cA 58) r2.wf [A,B] (r2.wf _ _ p6) nI
  have p7':=r3.keep _ _ (by simp) p7
  generalize ((s2.hide [A,B]).set (st.next+1) (.row cA 58)).show s2 [A,B]=s3 at r3 g3 p7' n3⊢
  have l3:s3.lock= []:=r3.lock.trans l2
  have e11:evOp E0 (opAt ops12 11).op ((((((((((((⟨83,[(0,x),(1,y),(5,i64 n5)],[]⟩:Tm).put (some 20) x).put (some 21) (i64 n5)).put (some 22) (.ptr A oA)).put (some 23) (.agg cA)).put (some 24) y).put (some 25) (i64 n5)).put (some 26) (.ptr B oB)).put (some 27) (.agg cB)).put (some 7) (.ptr st.next 0)).put (some 6) (.ptr (st.next+1) 0)).put none (.tup [])) s3=some (.skip (s3.set st.next (.row cB 58))):=
    (show evOp E0 (opAt ops12 11).op ((((((((((((⟨83,[(0,x),(1,y),(5,i64 n5)],[]⟩:Tm).put (some 20) x).put (some 21) (i64 n5)).put (some 22) (.ptr A oA)).put (some 23) (.agg cA)).put (some 24) y).put (some 25) (i64 n5)).put (some 26) (.ptr B oB)).put (some 27) (.agg cB)).put (some 7) (.ptr st.next 0)).put (some 6) (.ptr (st.next+1) 0)).put none (.tup [])) s3=(storeA E0 s3 58 (.ptr st.next 0) (.agg cB)).map .skip from by kernel_rfl).trans (by rw [st58 p7' rfl hcB (by rw [l3];simp)];rfl)
  refine ADr.skp0 (o:=opAt ops12 11) (d:=none) (by kernel_rfl) (by kernel_rfl) (by kernel_rfl) (by kernel_rfl) (by kernel_rfl) (by kernel_rfl) (by kernel_rfl) e11 ?_
  have r4:=Rest.set r3.wf (r3.wf _ _ p7') (.row cB 58) (S:= [st.next]) (by simp)
  refine ADr.fin (by kernel_rfl) ⟨rfl,(st.next+1),st.next,⟨rfl,rfl,rfl,rfl,rfl,rfl⟩,?_,?_,by rw [St.get_set,if_pos rfl],by omega,by show s3.next=_;omega⟩
  · exact (((r1.trans r2).fresh r3 hw (by simp)).fresh r4 hw (by simp))
  · rw [St.get_set,if_neg (by omega)];exact g3
theorem f12_4{x y:AV}{n5:Int}{A B oA oB:Nat}{cA cB:List AV}{st:St}(hw:st.wf)(hl:st.lock= [])(hI: [A,B].all (fun id=>(st.get id).isSome)=true)(hcA:cA.length=5)(hcB:cB.length=5)
    (hx:indexAddrA E0 28 x (i64 n5)=some (.ptr A oA)) (lx:loadA E0 st 58 (.ptr A oA)=some (.agg cA)) (hy:indexAddrA E0 28 y (i64 n5)=some (.ptr B oB)) (ly:loadA E0 st 58 (.ptr B oB)=some (.agg cB)) {T:Tm} (hT:f12L2 T x y (i64 n5)):
    AW Tryz.prog (f12P 4) (fun ex T' z=>ex= .normal∧∃a b,f12L4 T' x y (i64 n5) (.ptr a 0) (.ptr b 0)∧Rest st z []∧z.get a=some (.row cA 58)∧z.get b=some (.row cB 58)∧a≠b∧z.next=st.next+2) T st:=by
  obtain ⟨hn,q0,q1,q5⟩:=hT
  have hlt: [A,B].all (· <st.next)=true:=by
    rw [List.all_eq_true] at hI⊢
    intro i hi
    obtain ⟨o,ho⟩:=Option.isSome_iff_exists.1 (hI i hi)
    have:=hw _ _ ho
    exact decide_eq_true this
  refine AW.temps (T0:=⟨83,[(0,x),(1,y),(5,i64 n5)],[]⟩) ?_ hn (look_or T [(0,x),(1,y),(5,i64 n5)] (conz q0 (conz q1 (one q5)))) rfl
  rw [ops12_P]
  refine AW.drawnF hE (by kernel_rfl) (by kernel_rfl) [0,1,2,3,4,5,6,7] [10,11] 8 9 hlt (by kernel_rfl) ?_
  refine ADt.step (av:=x) (o:=opAt ops12 0) (d:=(some 20)) (by kernel_rfl) (by kernel_rfl) (by kernel_rfl) (by kernel_rfl) (by kernel_rfl) (by kernel_rfl) ?_
  refine ADt.step (av:=(i64 n5)) (o:=opAt ops12 1) (d:=(some 21)) (by kernel_rfl) (by kernel_rfl) (by kernel_rfl) (by kernel_rfl) (by kernel_rfl) (by kernel_rfl) ?_
  refine ADt.step (av:=(.ptr A oA)) (o:=opAt ops12 2) (d:=(some 22)) (by kernel_rfl) (by kernel_rfl) (by kernel_rfl) (by kernel_rfl) (by kernel_rfl) ((show heldA E0 st [A,B] (opAt ops12 2).op (((⟨83,[(0,x),(1,y),(5,i64 n5)],[]⟩:Tm).put (some 20) x).put (some 21) (i64 n5))=(match indexAddrA E0 28 x (i64 n5) with|some av=>some av|none=>none) from by kernel_rfl).trans (by rw [hx])) ?_
  refine ADt.step (av:=(.agg cA)) (o:=opAt ops12 3) (d:=(some 23)) (by kernel_rfl) (by kernel_rfl) (by kernel_rfl) (by kernel_rfl) (by kernel_rfl) ((show heldA E0 st [A,B] (opAt ops12 3).op ((((⟨83,[(0,x),(1,y),(5,i64 n5)],[]⟩:Tm).put (some 20) x).put (some 21) (i64 n5)).put (some 22) (.ptr A oA))=(if [A,B].contains A then loadA E0 st 58 (.ptr A oA) else none) from by kernel_rfl).trans (by rw [if_pos (by simp),lx])) ?_
  refine ADt.step (av:=y) (o:=opAt ops12 4) (d:=(some 24)) (by kernel_rfl) (by kernel_rfl) (by kernel_rfl) (by kernel_rfl) (by kernel_rfl) (by kernel_rfl) ?_
  refine ADt.step (av:=(i64 n5)) (o:=opAt ops12 5) (d:=(some 25)) (by kernel_rfl) (by kernel_rfl) (by kernel_rfl) (by kernel_rfl) (by kernel_rfl) (by kernel_rfl) ?_
  refine ADt.step (av:=(.ptr B oB)) (o:=opAt ops12 6) (d:=(some 26)) (by kernel_rfl) (by kernel_rfl) (by kernel_rfl) (by kernel_rfl) (by kernel_rfl) ((show heldA E0 st [A,B] (opAt ops12 6).op (((((((⟨83,[(0,x),(1,y),(5,i64 n5)],[]⟩:Tm).put (some 20) x).put (some 21) (i64 n5)).put (some 22) (.ptr A oA)).put (some 23) (.agg cA)).put (some 24) y).put (some 25) (i64 n5))=(match indexAddrA E0 28 y (i64 n5) with|some av=>some av|none=>none) from by kernel_rfl).trans (by rw [hy])) ?_
  refine ADt.step (av:=(.agg cB)) (o:=opAt ops12 7) (d:=(some 27)) (by kernel_rfl) (by kernel_rfl) (by kernel_rfl) (by kernel_rfl) (by kernel_rfl) ((show heldA E0 st [A,B] (opAt ops12 7).op ((((((((⟨83,[(0,x),(1,y),(5,i64 n5)],[]⟩:Tm).put (some 20) x).put (some 21) (i64 n5)).put (some 22) (.ptr A oA)).put (some 23) (.agg cA)).put (some 24) y).put (some 25) (i64 n5)).put (some 26) (.ptr B oB))=(if [A,B].contains B then loadA E0 st 58 (.ptr B oB) else none) from by kernel_rfl).trans (by rw [if_pos (by simp),ly])) ?_
  exact ⟨by kernel_rfl,f12_fork8 hw hl hI hcA hcB,f12_fork9 hw hl hI hcA hcB⟩
noncomputable def ops19:Array Oper:=match f19P 4 with| .region _ ops _=>ops|_=> #[]
theorem ops19_P:f19P 4= .region 6 ops19 true:=by kernel_rfl
theorem st76{st:St}{a:Nat}{vs cs:List AV}(h:st.get a=some (.row vs 76))(hv:vs.length=6)(hc:cs.length=6)(hl:a∉st.lock):storeA E0 st 76 (.ptr a 0) (.agg cs)=some (st.set a (.row cs 76)):=by
  have z:tySize E0 76=some 6:=by kernel_rfl
  unfold storeA
  simp only [avCells,St.wget_of h hl]
  rw [if_pos ⟨by rw [z,hc],by omega⟩]
  rw [List.take_zero,List.nil_append,Nat.zero_add,List.drop_eq_nil_of_le (by omega),List.append_nil]
theorem f19_fork8{x y:AV}{n5:Int}{A B oA oB:Nat}{cA cB:List AV}{st:St}(hw:st.wf)(hl:st.lock= [])(hI: [A,B].all (fun id=>(st.get id).isSome)=true)(hcA:cA.length=6)(hcB:cB.length=6):
    ADe Tryz.prog E0 ops19 [A,B] (fun ex T' z=>ex= .normal∧∃a b,f19L4 T' x y (i64 n5) (.ptr a 0) (.ptr b 0)∧Rest st z []∧z.get a=some (.row cA 76)∧z.get b=some (.row cB 76)∧a≠b∧z.next=st.next+2) 8 [9,10,11] (((((((((Array.replicate ops19.size false).setIfInBounds 0 true).setIfInBounds 1 true).setIfInBounds 2 true).setIfInBounds 3 true).setIfInBounds 4 true).setIfInBounds 5 true).setIfInBounds 6 true).setIfInBounds 7 true) (((((((((⟨69,[(0,x),(1,y),(5,i64 n5)],[]⟩:Tm).put (some 19) x).put (some 20) (i64 n5)).put (some 21) (.ptr A oA)).put (some 22) (.agg cA)).put (some 23) y).put (some 24) (i64 n5)).put (some 25) (.ptr B oB)).put (some 26) (.agg cB)) st:=by
  have hn:∀i∈ [A,B],i<st.next:=fun i hi=>by
    obtain ⟨o,ho⟩:=Option.isSome_iff_exists.1 (List.all_eq_true.1 hI i hi)
    exact hw _ _ ho
  refine ADe.mk (o:=opAt ops19 8) (d:=(some 6)) (by kernel_rfl) (by kernel_rfl) (by kernel_rfl) (by kernel_rfl) (by kernel_rfl) hI (show evOp E0 (opAt ops19 8).op (((((((((⟨69,[(0,x),(1,y),(5,i64 n5)],[]⟩:Tm).put (some 19) x).put (some 20) (i64 n5)).put (some 21) (.ptr A oA)).put (some 22) (.agg cA)).put (some 23) y).put (some 24) (i64 n5)).put (some 25) (.ptr B oB)).put (some 26) (.agg cB)) (st.hide [A,B])=some (.val (.ptr st.next 0) ((st.hide [A,B]).push (.row [i64 0,i64 0,i64 0,i64 0,.nils,FF] 76))) from by kernel_rfl) ?_
  have r1:=hide_push hw [A,B] (.row [i64 0,i64 0,i64 0,i64 0,.nils,FF] 76)
  obtain ⟨g1,n1⟩:=hide_new hw [A,B] hI (.row [i64 0,i64 0,i64 0,i64 0,.nils,FF] 76)
  have I1:=all_rest hI r1 (by simp)
  generalize ((st.hide [A,B]).push (.row [i64 0,i64 0,i64 0,i64 0,.nils,FF] 76)).show st [A,B]=s1 at r1 g1 n1 I1⊢
  refine ADr.val (o:=opAt ops19 9) (d:=(some 7)) (by kernel_rfl) (by kernel_rfl) (by kernel_rfl) (by kernel_rfl) (by kernel_rfl) (by kernel_rfl) (by kernel_rfl) I1 (show evOp E0 (opAt ops19 9).op ((((((((((⟨69,[(0,x),(1,y),(5,i64 n5)],[]⟩:Tm).put (some 19) x).put (some 20) (i64 n5)).put (some 21) (.ptr A oA)).put (some 22) (.agg cA)).put (some 23) y).put (some 24) (i64 n5)).put (some 25) (.ptr B oB)).put (some 26) (.agg cB)).put (some 6) (.ptr st.next 0)) (s1.hide [A,B])=some (.val (.ptr s1.next 0) ((s1.hide [A,B]).push (.row [i64 0,i64 0,i64 0,i64 0,.nils,FF] 76))) from by kernel_rfl) ?_
  have r2:=hide_push r1.wf [A,B] (.row [i64 0,i64 0,i64 0,i64 0,.nils,FF] 76)
  obtain ⟨g2,n2⟩:=hide_new r1.wf [A,B] I1 (.row [i64 0,i64 0,i64 0,i64 0,.nils,FF] 76)
  have I2:=all_rest I1 r2 (by simp)
  rw [n1] at g2 n2⊢
  have g1':=r2.keep _ _ (by simp) g1
  generalize ((s1.hide [A,B]).push (.row [i64 0,i64 0,i64 0,i64 0,.nils,FF] 76)).show s1 [A,B]=s2 at r2 g1' g2 n2 I2⊢
  have l2:s2.lock= []:=r2.lock.trans (r1.lock.trans hl)
  have hA:=hn A (by simp)
  have hB:=hn B (by simp)
  have p6:s2.get st.next=some (.row [i64 0,i64 0,i64 0,i64 0,.nils,FF] 76):=g1'
  have p7:s2.get (st.next+1)=some (.row [i64 0,i64 0,i64 0,i64 0,.nils,FF] 76):=g2
  have nI:st.next∉ [A,B]:=by simp;omega
  have e10:evOp E0 (opAt ops19 10).op (((((((((((⟨69,[(0,x),(1,y),(5,i64 n5)],[]⟩:Tm).put (some 19) x).put (some 20) (i64 n5)).put (some 21) (.ptr A oA)).put (some 22) (.agg cA)).put (some 23) y).put (some 24) (i64 n5)).put (some 25) (.ptr B oB)).put (some 26) (.agg cB)).put (some 6) (.ptr st.next 0)).put (some 7) (.ptr (st.next+1) 0)) (s2.hide [A,B])=some (.skip ((s2.hide [A,B]).set st.next (.row cA 76))):=
    (show evOp E0 (opAt ops19 10).op (((((((((((⟨69,[(0,x),(1,y),(5,i64 n5)],[]⟩:Tm).put (some 19) x).put (some 20) (i64 n5)).put (some 21) (.ptr A oA)).put (some 22) (.agg cA)).put (some 23) y).put (some 24) (i64 n5)).put (some 25) (.ptr B oB)).put (some 26) (.agg cB)).put (some 6) (.ptr st.next 0)).put (some 7) (.ptr (st.next+1) 0)) (s2.hide [A,B])=(storeA E0 (s2.hide [A,B]) 76 (.ptr st.next 0) (.agg cA)).map .skip from by kernel_rfl).trans (by rw [st76 (st:=s2.hide [A,B]) p6 rfl hcA (by show _∉ [A,B]++s2.lock;rw [l2,List.append_nil];exact nI)];rfl)
  refine ADr.skp (o:=opAt ops19 10) (d:=none) (by kernel_rfl) (by kernel_rfl) (by kernel_rfl) (by kernel_rfl) (by kernel_rfl) (by kernel_rfl) (by kernel_rfl) I2 e10 ?_
  obtain ⟨r3,g3,n3⟩:=hide_set (o:= .row cA 76) r2.wf [A,B] (r2.wf _ _ p6) nI
  have p7':=r3.keep _ _ (by simp) p7
  generalize ((s2.hide [A,B]).set st.next (.row cA 76)).show s2 [A,B]=s3 at r3 g3 p7' n3⊢
  have l3:s3.lock= []:=r3.lock.trans l2
  have e11:evOp E0 (opAt ops19 11).op ((((((((((((⟨69,[(0,x),(1,y),(5,i64 n5)],[]⟩:Tm).put (some 19) x).put (some 20) (i64 n5)).put (some 21) (.ptr A oA)).put (some 22) (.agg cA)).put (some 23) y).put (some 24) (i64 n5)).put (some 25) (.ptr B oB)).put (some 26) (.agg cB)).put (some 6) (.ptr st.next 0)).put (some 7) (.ptr (st.next+1) 0)).put none (.tup [])) s3=some (.skip (s3.set (st.next+1) (.row cB 76))):=
    (show evOp E0 (opAt ops19 11).op ((((((((((((⟨69,[(0,x),(1,y),(5,i64 n5)],[]⟩:Tm).put (some 19) x).put (some 20) (i64 n5)).put (some 21) (.ptr A oA)).put (some 22) (.agg cA)).put (some 23) y).put (some 24) (i64 n5)).put (some 25) (.ptr B oB)).put (some 26) (.agg cB)).put (some 6) (.ptr st.next 0)).put (some 7) (.ptr (st.next+1) 0)).put none (.tup [])) s3=(storeA E0 s3 76 (.ptr (st.next+1) 0) (.agg cB)).map .skip from by kernel_rfl).trans (by rw [st76 p7' rfl hcB (by rw [l3];simp)];rfl)
  refine ADr.skp0 (o:=opAt ops19 11) (d:=none) (by kernel_rfl) (by kernel_rfl) (by kernel_rfl) (by kernel_rfl) (by kernel_rfl) (by kernel_rfl) (by kernel_rfl) e11 ?_
  have r4:=Rest.set r3.wf (r3.wf _ _ p7') (.row cB 76) (S:= [(st.next+1)]) (by simp)
  refine ADr.fin (by kernel_rfl) ⟨rfl,st.next,(st.next+1),⟨rfl,rfl,rfl,rfl,rfl,rfl⟩,?_,?_,by rw [St.get_set,if_pos rfl],by omega,by show s3.next=_;omega⟩
  · exact (((r1.trans r2).fresh r3 hw (by simp)).fresh r4 hw (by simp))
  · rw [St.get_set,if_neg (by omega)];exact g3
theorem f19_fork9{x y:AV}{n5:Int}{A B oA oB:Nat}{cA cB:List AV}{st:St}(hw:st.wf)(hl:st.lock= [])(hI: [A,B].all (fun id=>(st.get id).isSome)=true)(hcA:cA.length=6)(hcB:cB.length=6):
    ADe Tryz.prog E0 ops19 [A,B] (fun ex T' z=>ex= .normal∧∃a b,f19L4 T' x y (i64 n5) (.ptr a 0) (.ptr b 0)∧Rest st z []∧z.get a=some (.row cA 76)∧z.get b=some (.row cB 76)∧a≠b∧z.next=st.next+2) 9 [8,10,11] (((((((((Array.replicate ops19.size false).setIfInBounds 0 true).setIfInBounds 1 true).setIfInBounds 2 true).setIfInBounds 3 true).setIfInBounds 4 true).setIfInBounds 5 true).setIfInBounds 6 true).setIfInBounds 7 true) (((((((((⟨69,[(0,x),(1,y),(5,i64 n5)],[]⟩:Tm).put (some 19) x).put (some 20) (i64 n5)).put (some 21) (.ptr A oA)).put (some 22) (.agg cA)).put (some 23) y).put (some 24) (i64 n5)).put (some 25) (.ptr B oB)).put (some 26) (.agg cB)) st:=by
  have hn:∀i∈ [A,B],i<st.next:=fun i hi=>by
    obtain ⟨o,ho⟩:=Option.isSome_iff_exists.1 (List.all_eq_true.1 hI i hi)
    exact hw _ _ ho
  refine ADe.mk (o:=opAt ops19 9) (d:=(some 7)) (by kernel_rfl) (by kernel_rfl) (by kernel_rfl) (by kernel_rfl) (by kernel_rfl) hI (show evOp E0 (opAt ops19 9).op (((((((((⟨69,[(0,x),(1,y),(5,i64 n5)],[]⟩:Tm).put (some 19) x).put (some 20) (i64 n5)).put (some 21) (.ptr A oA)).put (some 22) (.agg cA)).put (some 23) y).put (some 24) (i64 n5)).put (some 25) (.ptr B oB)).put (some 26) (.agg cB)) (st.hide [A,B])=some (.val (.ptr st.next 0) ((st.hide [A,B]).push (.row [i64 0,i64 0,i64 0,i64 0,.nils,FF] 76))) from by kernel_rfl) ?_
  have r1:=hide_push hw [A,B] (.row [i64 0,i64 0,i64 0,i64 0,.nils,FF] 76)
  obtain ⟨g1,n1⟩:=hide_new hw [A,B] hI (.row [i64 0,i64 0,i64 0,i64 0,.nils,FF] 76)
  have I1:=all_rest hI r1 (by simp)
  generalize ((st.hide [A,B]).push (.row [i64 0,i64 0,i64 0,i64 0,.nils,FF] 76)).show st [A,B]=s1 at r1 g1 n1 I1⊢
  refine ADr.val (o:=opAt ops19 8) (d:=(some 6)) (by kernel_rfl) (by kernel_rfl) (by kernel_rfl) (by kernel_rfl) (by kernel_rfl) (by kernel_rfl) (by kernel_rfl) I1 (show evOp E0 (opAt ops19 8).op ((((((((((⟨69,[(0,x),(1,y),(5,i64 n5)],[]⟩:Tm).put (some 19) x).put (some 20) (i64 n5)).put (some 21) (.ptr A oA)).put (some 22) (.agg cA)).put (some 23) y).put (some 24) (i64 n5)).put (some 25) (.ptr B oB)).put (some 26) (.agg cB)).put (some 7) (.ptr st.next 0)) (s1.hide [A,B])=some (.val (.ptr s1.next 0) ((s1.hide [A,B]).push (.row [i64 0,i64 0,i64 0,i64 0,.nils,FF] 76))) from by kernel_rfl) ?_
  have r2:=hide_push r1.wf [A,B] (.row [i64 0,i64 0,i64 0,i64 0,.nils,FF] 76)
  obtain ⟨g2,n2⟩:=hide_new r1.wf [A,B] I1 (.row [i64 0,i64 0,i64 0,i64 0,.nils,FF] 76)
  have I2:=all_rest I1 r2 (by simp)
  rw [n1] at g2 n2⊢
  have g1':=r2.keep _ _ (by simp) g1
  generalize ((s1.hide [A,B]).push (.row [i64 0,i64 0,i64 0,i64 0,.nils,FF] 76)).show s1 [A,B]=s2 at r2 g1' g2 n2 I2⊢
  have l2:s2.lock= []:=r2.lock.trans (r1.lock.trans hl)
  have hA:=hn A (by simp)
  have hB:=hn B (by simp)
  have p6:s2.get (st.next+1)=some (.row [i64 0,i64 0,i64 0,i64 0,.nils,FF] 76):=g2
  have p7:s2.get st.next=some (.row [i64 0,i64 0,i64 0,i64 0,.nils,FF] 76):=g1'
  have nI:(st.next+1)∉ [A,B]:=by simp;omega
  have e10:evOp E0 (opAt ops19 10).op (((((((((((⟨69,[(0,x),(1,y),(5,i64 n5)],[]⟩:Tm).put (some 19) x).put (some 20) (i64 n5)).put (some 21) (.ptr A oA)).put (some 22) (.agg cA)).put (some 23) y).put (some 24) (i64 n5)).put (some 25) (.ptr B oB)).put (some 26) (.agg cB)).put (some 7) (.ptr st.next 0)).put (some 6) (.ptr (st.next+1) 0)) (s2.hide [A,B])=some (.skip ((s2.hide [A,B]).set (st.next+1) (.row cA 76))):=
    (show evOp E0 (opAt ops19 10).op (((((((((((⟨69,[(0,x),(1,y),(5,i64 n5)],[]⟩:Tm).put (some 19) x).put (some 20) (i64 n5)).put (some 21) (.ptr A oA)).put (some 22) (.agg cA)).put (some 23) y).put (some 24) (i64 n5)).put (some 25) (.ptr B oB)).put (some 26) (.agg cB)).put (some 7) (.ptr st.next 0)).put (some 6) (.ptr (st.next+1) 0)) (s2.hide [A,B])=(storeA E0 (s2.hide [A,B]) 76 (.ptr (st.next+1) 0) (.agg cA)).map .skip from by kernel_rfl).trans (by rw [st76 (st:=s2.hide [A,B]) p6 rfl hcA (by show _∉ [A,B]++s2.lock;rw [l2,List.append_nil];exact nI)];rfl)
  refine ADr.skp (o:=opAt ops19 10) (d:=none) (by kernel_rfl) (by kernel_rfl) (by kernel_rfl) (by kernel_rfl) (by kernel_rfl) (by kernel_rfl) (by kernel_rfl) I2 e10 ?_
  obtain ⟨r3,g3,n3⟩:=hide_set (o:= .row cA 76) r2.wf [A,B] (r2.wf _ _ p6) nI
  have p7':=r3.keep _ _ (by simp) p7
  generalize ((s2.hide [A,B]).set (st.next+1) (.row cA 76)).show s2 [A,B]=s3 at r3 g3 p7' n3⊢
  have l3:s3.lock= []:=r3.lock.trans l2
  have e11:evOp E0 (opAt ops19 11).op ((((((((((((⟨69,[(0,x),(1,y),(5,i64 n5)],[]⟩:Tm).put (some 19) x).put (some 20) (i64 n5)).put (some 21) (.ptr A oA)).put (some 22) (.agg cA)).put (some 23) y).put (some 24) (i64 n5)).put (some 25) (.ptr B oB)).put (some 26) (.agg cB)).put (some 7) (.ptr st.next 0)).put (some 6) (.ptr (st.next+1) 0)).put none (.tup [])) s3=some (.skip (s3.set st.next (.row cB 76))):=
    (show evOp E0 (opAt ops19 11).op ((((((((((((⟨69,[(0,x),(1,y),(5,i64 n5)],[]⟩:Tm).put (some 19) x).put (some 20) (i64 n5)).put (some 21) (.ptr A oA)).put (some 22) (.agg cA)).put (some 23) y).put (some 24) (i64 n5)).put (some 25) (.ptr B oB)).put (some 26) (.agg cB)).put (some 7) (.ptr st.next 0)).put (some 6) (.ptr (st.next+1) 0)).put none (.tup [])) s3=(storeA E0 s3 76 (.ptr st.next 0) (.agg cB)).map .skip from by kernel_rfl).trans (by rw [st76 p7' rfl hcB (by rw [l3];simp)];rfl)
  refine ADr.skp0 (o:=opAt ops19 11) (d:=none) (by kernel_rfl) (by kernel_rfl) (by kernel_rfl) (by kernel_rfl) (by kernel_rfl) (by kernel_rfl) (by kernel_rfl) e11 ?_
  have r4:=Rest.set r3.wf (r3.wf _ _ p7') (.row cB 76) (S:= [st.next]) (by simp)
  refine ADr.fin (by kernel_rfl) ⟨rfl,(st.next+1),st.next,⟨rfl,rfl,rfl,rfl,rfl,rfl⟩,?_,?_,by rw [St.get_set,if_pos rfl],by omega,by show s3.next=_;omega⟩
  · exact (((r1.trans r2).fresh r3 hw (by simp)).fresh r4 hw (by simp))
  · rw [St.get_set,if_neg (by omega)];exact g3
theorem f19_4{x y:AV}{n5:Int}{A B oA oB:Nat}{cA cB:List AV}{st:St}(hw:st.wf)(hl:st.lock= [])(hI: [A,B].all (fun id=>(st.get id).isSome)=true)(hcA:cA.length=6)(hcB:cB.length=6)
    (hx:indexAddrA E0 40 x (i64 n5)=some (.ptr A oA)) (lx:loadA E0 st 76 (.ptr A oA)=some (.agg cA)) (hy:indexAddrA E0 40 y (i64 n5)=some (.ptr B oB)) (ly:loadA E0 st 76 (.ptr B oB)=some (.agg cB)) {T:Tm} (hT:f19L2 T x y (i64 n5)):
    AW Tryz.prog (f19P 4) (fun ex T' z=>ex= .normal∧∃a b,f19L4 T' x y (i64 n5) (.ptr a 0) (.ptr b 0)∧Rest st z []∧z.get a=some (.row cA 76)∧z.get b=some (.row cB 76)∧a≠b∧z.next=st.next+2) T st:=by
  obtain ⟨hn,q0,q1,q5⟩:=hT
  have hlt: [A,B].all (· <st.next)=true:=by
    rw [List.all_eq_true] at hI⊢
    intro i hi
    obtain ⟨o,ho⟩:=Option.isSome_iff_exists.1 (hI i hi)
    have:=hw _ _ ho
    exact decide_eq_true this
  refine AW.temps (T0:=⟨69,[(0,x),(1,y),(5,i64 n5)],[]⟩) ?_ hn (look_or T [(0,x),(1,y),(5,i64 n5)] (conz q0 (conz q1 (one q5)))) rfl
  rw [ops19_P]
  refine AW.drawnF hE (by kernel_rfl) (by kernel_rfl) [0,1,2,3,4,5,6,7] [10,11] 8 9 hlt (by kernel_rfl) ?_
  refine ADt.step (av:=x) (o:=opAt ops19 0) (d:=(some 19)) (by kernel_rfl) (by kernel_rfl) (by kernel_rfl) (by kernel_rfl) (by kernel_rfl) (by kernel_rfl) ?_
  refine ADt.step (av:=(i64 n5)) (o:=opAt ops19 1) (d:=(some 20)) (by kernel_rfl) (by kernel_rfl) (by kernel_rfl) (by kernel_rfl) (by kernel_rfl) (by kernel_rfl) ?_
  refine ADt.step (av:=(.ptr A oA)) (o:=opAt ops19 2) (d:=(some 21)) (by kernel_rfl) (by kernel_rfl) (by kernel_rfl) (by kernel_rfl) (by kernel_rfl) ((show heldA E0 st [A,B] (opAt ops19 2).op (((⟨69,[(0,x),(1,y),(5,i64 n5)],[]⟩:Tm).put (some 19) x).put (some 20) (i64 n5))=(match indexAddrA E0 40 x (i64 n5) with|some av=>some av|none=>none) from by kernel_rfl).trans (by rw [hx])) ?_
  refine ADt.step (av:=(.agg cA)) (o:=opAt ops19 3) (d:=(some 22)) (by kernel_rfl) (by kernel_rfl) (by kernel_rfl) (by kernel_rfl) (by kernel_rfl) ((show heldA E0 st [A,B] (opAt ops19 3).op ((((⟨69,[(0,x),(1,y),(5,i64 n5)],[]⟩:Tm).put (some 19) x).put (some 20) (i64 n5)).put (some 21) (.ptr A oA))=(if [A,B].contains A then loadA E0 st 76 (.ptr A oA) else none) from by kernel_rfl).trans (by rw [if_pos (by simp),lx])) ?_
  refine ADt.step (av:=y) (o:=opAt ops19 4) (d:=(some 23)) (by kernel_rfl) (by kernel_rfl) (by kernel_rfl) (by kernel_rfl) (by kernel_rfl) (by kernel_rfl) ?_
  refine ADt.step (av:=(i64 n5)) (o:=opAt ops19 5) (d:=(some 24)) (by kernel_rfl) (by kernel_rfl) (by kernel_rfl) (by kernel_rfl) (by kernel_rfl) (by kernel_rfl) ?_
  refine ADt.step (av:=(.ptr B oB)) (o:=opAt ops19 6) (d:=(some 25)) (by kernel_rfl) (by kernel_rfl) (by kernel_rfl) (by kernel_rfl) (by kernel_rfl) ((show heldA E0 st [A,B] (opAt ops19 6).op (((((((⟨69,[(0,x),(1,y),(5,i64 n5)],[]⟩:Tm).put (some 19) x).put (some 20) (i64 n5)).put (some 21) (.ptr A oA)).put (some 22) (.agg cA)).put (some 23) y).put (some 24) (i64 n5))=(match indexAddrA E0 40 y (i64 n5) with|some av=>some av|none=>none) from by kernel_rfl).trans (by rw [hy])) ?_
  refine ADt.step (av:=(.agg cB)) (o:=opAt ops19 7) (d:=(some 26)) (by kernel_rfl) (by kernel_rfl) (by kernel_rfl) (by kernel_rfl) (by kernel_rfl) ((show heldA E0 st [A,B] (opAt ops19 7).op ((((((((⟨69,[(0,x),(1,y),(5,i64 n5)],[]⟩:Tm).put (some 19) x).put (some 20) (i64 n5)).put (some 21) (.ptr A oA)).put (some 22) (.agg cA)).put (some 23) y).put (some 24) (i64 n5)).put (some 25) (.ptr B oB))=(if [A,B].contains B then loadA E0 st 76 (.ptr B oB) else none) from by kernel_rfl).trans (by rw [if_pos (by simp),ly])) ?_
  exact ⟨by kernel_rfl,f19_fork8 hw hl hI hcA hcB,f19_fork9 hw hl hI hcA hcB⟩
/-! picks of both, in any order -/
theorem ADq.step{E:Env}{ops:Array Oper}{Q:Exit→Tm→St→Prop}{i:Nat}{rest:List Nat}{listed:Array Bool}{T:Tm}{st:St}{o:Oper}{av:AV}{d:Option Nat}(hd:o.dst=d)(hi:ops[i]? =some o)(hf:T.fits d=true)(hc:mayTake ops listed i=true)(hw:wantedA ops o T=some true)(hh:readB E st o.op T=some av)
    (h:ADq E ops Q rest (listed.setIfInBounds i true) (T.put d av) st):ADq E ops Q (i::rest) listed T st:=by
  subst hd
  simp only [ADq,hi,hw,hh]
  exact ⟨hf,hc,trivial,h⟩
theorem read_load{E:Env}{st:St}{t:Nat}{y:Operand}{T:Tm}{q a:AV}(hy:T.eval y=q)(h:loadA E st t q=some a):readB E st (.load t y) T=some a:=by
  unfold readB readA
  simp only [pureA,hy]
  cases q<;>first|exact h|(simp only [h];done)|(exfalso;simp [loadA] at h;done)
noncomputable def ops12b:Array Oper:=match f12P 8 with| .region _ ops _=>ops|_=> #[]
theorem ops12b_P:f12P 8= .region 12 ops12b true:=by kernel_rfl
theorem f12_8{x y p q p' q':AV}{n5 n8:Int}{a b m m':Nat}{c:Bool}{st:St}(h1:loadA E0 st 52 (.ptr a 4)=some p)(h2:indexAddrA E0 52 p (i64 n8)=some q)(h3:loadA E0 st 66 q=some (u16 m))(h4:loadA E0 st 52 (.ptr b 4)=some p')(h5:indexAddrA E0 52 p' (i64 n8)=some q')(h6:loadA E0 st 66 q'=some (u16 m'))
    (h7:binA E0 .neq 66 (u16 m) (u16 m')=some (bo c)) {T:Tm} (hT:f12L5 T x y (i64 n5) (.ptr a 0) (.ptr b 0) (i64 n8)):AW Tryz.prog (f12P 8) (fun ex T' z=>ex= .normal∧f12L6 T' x y (i64 n5) (.ptr a 0) (.ptr b 0) (i64 n8) (bo c)∧z=st) T st:=by
  obtain ⟨hn,q0,q1,q5,q6,q7,q8⟩:=hT
  refine AW.temps (T0:=⟨83,[(0,x),(1,y),(5,i64 n5),(6,.ptr a 0),(7,.ptr b 0),(8,i64 n8)],[]⟩) ?_ hn (look_or T [(0,x),(1,y),(5,i64 n5),(6,.ptr a 0),(7,.ptr b 0),(8,i64 n8)] (conz q0 (conz q1 (conz q5 (conz q6 (conz q7 (one q8))))))) rfl
  rw [ops12b_P]
  refine AW.drawnQ hE (by kernel_rfl) (by kernel_rfl) [0,1,2,3,4,5,6,7,8,9,10] (by kernel_rfl) ?_
  refine ADq.step (av:=(.ptr a 4)) (o:=opAt ops12b 0) (d:=some 72) (by kernel_rfl) (by kernel_rfl) (by kernel_rfl) (by kernel_rfl) (by kernel_rfl) (by kernel_rfl) ?_
  refine ADq.step (av:=p) (o:=opAt ops12b 1) (d:=some 73) (by kernel_rfl) (by kernel_rfl) (by kernel_rfl) (by kernel_rfl) (by kernel_rfl) ((show readB E0 st (opAt ops12b 1).op ((⟨83,[(0,x),(1,y),(5,i64 n5),(6,.ptr a 0),(7,.ptr b 0),(8,i64 n8)],[]⟩:Tm).put (some 72) (.ptr a 4))=readB E0 st (.load 52 (.tmp 72)) ((⟨83,[(0,x),(1,y),(5,i64 n5),(6,.ptr a 0),(7,.ptr b 0),(8,i64 n8)],[]⟩:Tm).put (some 72) (.ptr a 4)) from by kernel_rfl).trans (read_load (q:=(.ptr a 4)) (by kernel_rfl) h1)) ?_
  refine ADq.step (av:=(i64 n8)) (o:=opAt ops12b 2) (d:=some 74) (by kernel_rfl) (by kernel_rfl) (by kernel_rfl) (by kernel_rfl) (by kernel_rfl) (by kernel_rfl) ?_
  refine ADq.step (av:=q) (o:=opAt ops12b 3) (d:=some 75) (by kernel_rfl) (by kernel_rfl) (by kernel_rfl) (by kernel_rfl) (by kernel_rfl) ((show readB E0 st (opAt ops12b 3).op ((((⟨83,[(0,x),(1,y),(5,i64 n5),(6,.ptr a 0),(7,.ptr b 0),(8,i64 n8)],[]⟩:Tm).put (some 72) (.ptr a 4)).put (some 73) p).put (some 74) (i64 n8))=(match (match indexAddrA E0 52 p (i64 n8) with|some av=>some av|none=>none) with|some av=>some av|none=>none) from by kernel_rfl).trans (by rw [h2])) ?_
  refine ADq.step (av:=(u16 m)) (o:=opAt ops12b 4) (d:=some 76) (by kernel_rfl) (by kernel_rfl) (by kernel_rfl) (by kernel_rfl) (by kernel_rfl) ((show readB E0 st (opAt ops12b 4).op (((((⟨83,[(0,x),(1,y),(5,i64 n5),(6,.ptr a 0),(7,.ptr b 0),(8,i64 n8)],[]⟩:Tm).put (some 72) (.ptr a 4)).put (some 73) p).put (some 74) (i64 n8)).put (some 75) q)=readB E0 st (.load 66 (.tmp 75)) (((((⟨83,[(0,x),(1,y),(5,i64 n5),(6,.ptr a 0),(7,.ptr b 0),(8,i64 n8)],[]⟩:Tm).put (some 72) (.ptr a 4)).put (some 73) p).put (some 74) (i64 n8)).put (some 75) q) from by kernel_rfl).trans (read_load (q:=q) (by kernel_rfl) h3)) ?_
  refine ADq.step (av:=(.ptr b 4)) (o:=opAt ops12b 5) (d:=some 77) (by kernel_rfl) (by kernel_rfl) (by kernel_rfl) (by kernel_rfl) (by kernel_rfl) (by kernel_rfl) ?_
  refine ADq.step (av:=p') (o:=opAt ops12b 6) (d:=some 78) (by kernel_rfl) (by kernel_rfl) (by kernel_rfl) (by kernel_rfl) (by kernel_rfl) ((show readB E0 st (opAt ops12b 6).op (((((((⟨83,[(0,x),(1,y),(5,i64 n5),(6,.ptr a 0),(7,.ptr b 0),(8,i64 n8)],[]⟩:Tm).put (some 72) (.ptr a 4)).put (some 73) p).put (some 74) (i64 n8)).put (some 75) q).put (some 76) (u16 m)).put (some 77) (.ptr b 4))=readB E0 st (.load 52 (.tmp 77)) (((((((⟨83,[(0,x),(1,y),(5,i64 n5),(6,.ptr a 0),(7,.ptr b 0),(8,i64 n8)],[]⟩:Tm).put (some 72) (.ptr a 4)).put (some 73) p).put (some 74) (i64 n8)).put (some 75) q).put (some 76) (u16 m)).put (some 77) (.ptr b 4)) from by kernel_rfl).trans (read_load (q:=(.ptr b 4)) (by kernel_rfl) h4)) ?_
  refine ADq.step (av:=(i64 n8)) (o:=opAt ops12b 7) (d:=some 79) (by kernel_rfl) (by kernel_rfl) (by kernel_rfl) (by kernel_rfl) (by kernel_rfl) (by kernel_rfl) ?_
  refine ADq.step (av:=q') (o:=opAt ops12b 8) (d:=some 80) (by kernel_rfl) (by kernel_rfl) (by kernel_rfl) (by kernel_rfl) (by kernel_rfl) ((show readB E0 st (opAt ops12b 8).op (((((((((⟨83,[(0,x),(1,y),(5,i64 n5),(6,.ptr a 0),(7,.ptr b 0),(8,i64 n8)],[]⟩:Tm).put (some 72) (.ptr a 4)).put (some 73) p).put (some 74) (i64 n8)).put (some 75) q).put (some 76) (u16 m)).put (some 77) (.ptr b 4)).put (some 78) p').put (some 79) (i64 n8))=(match (match indexAddrA E0 52 p' (i64 n8) with|some av=>some av|none=>none) with|some av=>some av|none=>none) from by kernel_rfl).trans (by rw [h5])) ?_
  refine ADq.step (av:=(u16 m')) (o:=opAt ops12b 9) (d:=some 81) (by kernel_rfl) (by kernel_rfl) (by kernel_rfl) (by kernel_rfl) (by kernel_rfl) ((show readB E0 st (opAt ops12b 9).op ((((((((((⟨83,[(0,x),(1,y),(5,i64 n5),(6,.ptr a 0),(7,.ptr b 0),(8,i64 n8)],[]⟩:Tm).put (some 72) (.ptr a 4)).put (some 73) p).put (some 74) (i64 n8)).put (some 75) q).put (some 76) (u16 m)).put (some 77) (.ptr b 4)).put (some 78) p').put (some 79) (i64 n8)).put (some 80) q')=readB E0 st (.load 66 (.tmp 80)) ((((((((((⟨83,[(0,x),(1,y),(5,i64 n5),(6,.ptr a 0),(7,.ptr b 0),(8,i64 n8)],[]⟩:Tm).put (some 72) (.ptr a 4)).put (some 73) p).put (some 74) (i64 n8)).put (some 75) q).put (some 76) (u16 m)).put (some 77) (.ptr b 4)).put (some 78) p').put (some 79) (i64 n8)).put (some 80) q') from by kernel_rfl).trans (read_load (q:=q') (by kernel_rfl) h6)) ?_
  refine ADq.step (av:=(bo c)) (o:=opAt ops12b 10) (d:=some 82) (by kernel_rfl) (by kernel_rfl) (by kernel_rfl) (by kernel_rfl) (by kernel_rfl) ((show readB E0 st (opAt ops12b 10).op (((((((((((⟨83,[(0,x),(1,y),(5,i64 n5),(6,.ptr a 0),(7,.ptr b 0),(8,i64 n8)],[]⟩:Tm).put (some 72) (.ptr a 4)).put (some 73) p).put (some 74) (i64 n8)).put (some 75) q).put (some 76) (u16 m)).put (some 77) (.ptr b 4)).put (some 78) p').put (some 79) (i64 n8)).put (some 80) q').put (some 81) (u16 m'))=(match (match binA E0 .neq 66 (u16 m) (u16 m') with|some av=>some av|none=>none) with|some av=>some av|none=>none) from by kernel_rfl).trans (by rw [h7])) ?_
  exact ⟨by kernel_rfl,rfl,⟨rfl,rfl,rfl,rfl,rfl,rfl,rfl,rfl⟩,rfl⟩
end
section
set_option maxRecDepth 8000
/-! ### theirs, told -/
theorem el28:ElT 28 58 5:=⟨elT_of (by kernel_rfl),by kernel_rfl,fun st x=>by
  have:(E0.ty 28).map (·.desc)=some (.slice 58):=by kernel_rfl
  obtain ⟨i,h1,h2⟩:=Option.map_eq_some_iff.1 this
  simp only [srcA,h1,h2],fun a b c n f=>by
  have:(E0.ty 28).map (·.desc)=some (.slice 58):=by kernel_rfl
  obtain ⟨i,h1,h2⟩:=Option.map_eq_some_iff.1 this
  simp only [lenA,h1,h2],by kernel_rfl⟩
theorem el40r:ElT 40 76 6:=⟨elT_of (by kernel_rfl),by kernel_rfl,fun st x=>by
  have:(E0.ty 40).map (·.desc)=some (.slice 76):=by kernel_rfl
  obtain ⟨i,h1,h2⟩:=Option.map_eq_some_iff.1 this
  simp only [srcA,h1,h2],fun a b c n f=>by
  have:(E0.ty 40).map (·.desc)=some (.slice 76):=by kernel_rfl
  obtain ⟨i,h1,h2⟩:=Option.map_eq_some_iff.1 this
  simp only [lenA,h1,h2],by kernel_rfl⟩
theorem a28:AgT 28 58 5:=agT_of (by kernel_rfl) (by kernel_rfl) (by kernel_rfl) (by decide)
theorem a40r:AgT 40 76 6:=agT_of (by kernel_rfl) (by kernel_rfl) (by kernel_rfl) (by decide)
theorem bs28(st:St)(a b c d e:AV):buildSliceA E0 st 28 1 [(0,.agg [a,b,c,d,e])]=some (.sl st.next 5 0 1 true,st.push (.row [a,b,c,d,e] 58)):=by kernel_rfl
theorem bs40r(st:St)(a b c d e f:AV):buildSliceA E0 st 40 1 [(0,.agg [a,b,c,d,e,f])]=some (.sl st.next 6 0 1 true,st.push (.row [a,b,c,d,e,f] 76)):=by kernel_rfl
def SlA(d:AV):Prop:=d= .nils∨(∃a b f c,d= .imm a b f c)∨∃a b c n f,d= .sl a b c n f
theorem bd76a(k e c n:Int)(en:Bool):buildA E0 76 [(0,i64 k),(1,i64 e),(2,i64 c),(3,i64 n),(4,.nils),(5,bo en)]=some (.agg [i64 k,i64 e,i64 c,i64 n,.nils,bo en]):=by kernel_rfl
theorem bd76b(k e c n:Int)(en:Bool)(x y:Nat)(f:Bool)(l:List AV):buildA E0 76 [(0,i64 k),(1,i64 e),(2,i64 c),(3,i64 n),(4,.imm x y f l),(5,bo en)]=some (.agg [i64 k,i64 e,i64 c,i64 n,.imm x y f l,bo en]):=by kernel_rfl
theorem bd76c(k e c n:Int)(en:Bool)(x y z m:Nat)(f:Bool):buildA E0 76 [(0,i64 k),(1,i64 e),(2,i64 c),(3,i64 n),(4,.sl x y z m f),(5,bo en)]=some (.agg [i64 k,i64 e,i64 c,i64 n,.sl x y z m f,bo en]):=by kernel_rfl
theorem bd76(k e c n:Int){d:AV}(en:Bool)(hd:SlA d):buildA E0 76 [(0,i64 k),(1,i64 e),(2,i64 c),(3,i64 n),(4,d),(5,bo en)]=some (.agg [i64 k,i64 e,i64 c,i64 n,d,bo en]):=by
  rcases hd with rfl|⟨x,y,f,l,rfl⟩|⟨x,y,z,m,f,rfl⟩
  · exact bd76a ..
  · exact bd76b ..
  · exact bd76c ..
theorem BS.sla{st:St}{v:AV}{bs:List UInt8}(h:BS st v bs):SlA v:=by
  rcases h with ⟨rfl,_⟩|⟨f,rfl⟩|⟨_,_,_,_,rfl,_⟩
  · exact .inl rfl
  · exact .inr (.inl ⟨_,_,_,_,rfl⟩)
  · exact .inr (.inr ⟨_,_,_,_,_,rfl⟩)
theorem len5{c:List AV}(h:c.length=5):∃x1 x2 x3 x4 x5,c= [x1,x2,x3,x4,x5]:=by
  match c,h with
  | [x1,x2,x3,x4,x5],_=>exact ⟨x1,x2,x3,x4,x5,rfl⟩
theorem take_at{α:Type}{l:List (List α)}{k:Nat}{c:List α}(h:l[k]? =some c):(l.take (k+1)).flatten=(l.take k).flatten++c:=by
  obtain ⟨h1,h2⟩:=List.getElem?_eq_some_iff.1 h
  rw [List.take_succ_eq_append_getElem h1,h2]
  simp
theorem theirs_loop{st0:St}{x:AV}{css:List (List AV)}(hw0:st0.wf)(hl0:st0.lock= [])(hx:IL st0 54 5 x css)(hb:css.length≤2000000000):
    ∀(n k:Nat) (σ:St) (o:AV),css.length- k=n→k≤css.length→Rest st0 σ []→Ls σ 58 5 o k (css.take k).flatten→(∀j∈fid o,st0.next≤j)→
    ∃sf o',Rest st0 sf []∧Ls sf 58 5 o' css.length css.flatten∧(∀j∈fid o',st0.next≤j)∧∀T,f9L2 T x o (i64 k)→LoopIn Tryz.prog (f9P 3) (fun ex T' z=>ex= .exit 0∧f9L3 T' o'∧z=sf) (n+1) T σ:=by
  intro n
  induction n with
  |zero=>
    intro k σ o hn hk hr ho hf
    have e:k=css.length:=by omega
    subst e
    rw [List.take_length] at ho
    exact ⟨σ,o,hr,ho,hf,fun T hT=>LoopIn.out (by simp) (f9_3_F ((hx.rg hr.rg).len a40) (lssF (by omega)) hT) fun T' hT'=>⟨rfl,hT',rfl⟩⟩
  |succ n ih=>
    intro k σ o hn hk hr ho hf
    obtain ⟨c,hck⟩:∃c,css[k]? =some c:=⟨css[k]'(by omega),List.getElem?_eq_getElem (by omega)⟩
    have hi:=hx.rg hr.rg
    obtain ⟨q,a1,a2⟩:=hi.at a40 hck
    have hc5:c.length=5:=hx.1 c (List.mem_of_getElem? hck)
    obtain ⟨x1,x2,x3,x4,x5,rfl⟩:=len5 hc5
    have r1:=Rest.push hr.wf (.row [x1,x2,x3,x4,x5] 58) []
    have l1:(σ.push (.row [x1,x2,x3,x4,x5] 58)).lock= []:=hr.lock.trans hl0
    have ho1:=ho.rest r1 (fun i _=>by simp)
    have hsl:sliceCells (σ.push (.row [x1,x2,x3,x4,x5] 58)) (.sl σ.next 5 0 1 true)=some (1,[x1,x2,x3,x4,x5]):=by
      simp only [sliceCells,St.get_push,if_true]
      rfl
    obtain ⟨s6,b1,b2,b3,_⟩:=app_gen el28 ho1 r1.wf (fun i _=>by rw [l1];simp) (by omega) rfl (by decide) hsl
    have hr6:=(hr.trans r1).fresh b3 hw0 hf
    have hadd:binA E0 .add 3 (i64 k) (i64 1)=some (i64 ((k+1:Nat):Int)):=add3 (a:=k) (b:=1) (by omega)
    obtain ⟨sf,o',u1,u2,u3,u4⟩:=ih (k+1) s6 _ (by omega) (by omega) hr6 (by rw [take_at hck];exact b2) (fun j hj=>by
      simp only [fid,List.mem_singleton] at hj
      subst hj
      have:=hr.next
      show st0.next≤σ.next+1
      omega)
    exact ⟨sf,o',u1,u2,u3,fun T hT=>LoopIn.go (f9_3_T (hi.len a40) (lssT (by omega)) a1 a2 (bs28 σ x1 x2 x3 x4 x5) b1 hadd hT) u4⟩
theorem theirs_ok{st:St}{x:AV}{css:List (List AV)}(hw:st.wf)(hl:st.lock= [])(hx:IL st 54 5 x css)(hb:css.length≤2000000000):
    ∃o z,obC 9 [x] st o z∧Rest st z []∧Ls z 58 5 o css.length css.flatten∧∀j∈fid o,st.next≤j:=by
  obtain ⟨sf,o,u1,u2,u3,u4⟩:=theirs_loop hw hl hx hb css.length 0 st .nils (by omega) (by omega) (.refl hw _) (.inl ⟨rfl,rfl,rfl⟩) (fun j hj=>by cases hj)
  refine ⟨o,sf,?_,u1,u2,u3⟩
  refine ACalls.body (E:=E0) hE Tryz.func9 f9body ?_
  refine AW.andThen (f9_0 (x:=x) ⟨rfl,rfl⟩) fun T1 q1=> ?_
  refine AW.andThen (f9_1 q1) fun T2 q2=> ?_
  refine AW.andThen (L:=fun T=>f9L3 T o) (s:=sf) (AW.andThen (f9_2 q2) fun T3 q3=>AW.block ((AW.loopIn (u4 T3 q3)).mono fun ex T4 z ⟨e1,e2,e3⟩=> ?_)) fun T4 q4=> ?_
  · subst e1;subst e3
    exact ⟨rfl,e2,rfl⟩
  · exact AW.atRet (f9_4 q4) fun T' q=>⟨[T'.get 2],rfl,q.2,rfl⟩
theorem told_loop{st0:St}{x:AV}{css:List (List AV)}(hw0:st0.wf)(hl0:st0.lock= [])(hx:IL st0 70 6 x css)(hv:∀c∈css,∃(k e c' n:Int) (d:AV) (en:Bool),c= [i64 k,i64 e,i64 c',i64 n,d,bo en]∧SlA d)(hb:css.length≤2000000000):
    ∀(n k:Nat) (σ:St) (o:AV),css.length- k=n→k≤css.length→Rest st0 σ []→Ls σ 76 6 o k (css.take k).flatten→(∀j∈fid o,st0.next≤j)→
    ∃sf o',Rest st0 sf []∧Ls sf 76 6 o' css.length css.flatten∧(∀j∈fid o',st0.next≤j)∧∀T,f16L2 T x o (i64 k)→LoopIn Tryz.prog (f16P 3) (fun ex T' z=>ex= .exit 0∧f16L3 T' o'∧z=sf) (n+1) T σ:=by
  intro n
  induction n with
  |zero=>
    intro k σ o hn hk hr ho hf
    have e:k=css.length:=by omega
    subst e
    rw [List.take_length] at ho
    exact ⟨σ,o,hr,ho,hf,fun T hT=>LoopIn.out (by simp) (f16_3_F ((hx.rg hr.rg).len a44) (lssF (by omega)) hT) fun T' hT'=>⟨rfl,hT',rfl⟩⟩
  |succ n ih=>
    intro k σ o hn hk hr ho hf
    obtain ⟨c,hck⟩:∃c,css[k]? =some c:=⟨css[k]'(by omega),List.getElem?_eq_getElem (by omega)⟩
    have hi:=hx.rg hr.rg
    obtain ⟨q,a1,a2⟩:=hi.at a44 hck
    obtain ⟨k',e',c',n',d,en,rfl,hd⟩:=hv c (List.mem_of_getElem? hck)
    have lσ:σ.lock= []:=hr.lock.trans hl0
    have r1:=Rest.push hr.wf (.row [i64 0,i64 0,i64 0,i64 0,.nils,FF] 70) []
    have r2:=Rest.set (st:=σ.push (.row [i64 0,i64 0,i64 0,i64 0,.nils,FF] 70)) r1.wf (id:=σ.next) (by simp) (.row [i64 k',i64 e',i64 c',i64 n',d,bo en] 70) (S:= [σ.next]) (by simp)
    have r12:Rest σ ((σ.push (.row [i64 0,i64 0,i64 0,i64 0,.nils,FF] 70)).set σ.next (.row [i64 k',i64 e',i64 c',i64 n',d,bo en] 70)) []:=r1.fresh r2 hr.wf (by simp)
    have h5:storeA E0 (σ.push (.row [i64 0,i64 0,i64 0,i64 0,.nils,FF] 70)) 70 (.ptr σ.next 0) (.agg [i64 k',i64 e',i64 c',i64 n',d,bo en])=some ((σ.push (.row [i64 0,i64 0,i64 0,i64 0,.nils,FF] 70)).set σ.next (.row [i64 k',i64 e',i64 c',i64 n',d,bo en] 70)):=
      st43 (vs:= [i64 0,i64 0,i64 0,i64 0,.nils,FF]) (by rw [St.get_push,if_pos rfl]) rfl rfl (by rw [St.lock_push,lσ];simp)
    have hg2:((σ.push (.row [i64 0,i64 0,i64 0,i64 0,.nils,FF] 70)).set σ.next (.row [i64 k',i64 e',i64 c',i64 n',d,bo en] 70)).get σ.next=some (.row [i64 k',i64 e',i64 c',i64 n',d,bo en] 70):=by rw [St.get_set,if_pos rfl]
    have hr2:=hr.trans r12
    have ho2:=ho.rest r12 (fun i _=>by simp)
    have n2:((σ.push (.row [i64 0,i64 0,i64 0,i64 0,.nils,FF] 70)).set σ.next (.row [i64 k',i64 e',i64 c',i64 n',d,bo en] 70)).next=σ.next+1:=rfl
    generalize (σ.push (.row [i64 0,i64 0,i64 0,i64 0,.nils,FF] 70)).set σ.next (.row [i64 k',i64 e',i64 c',i64 n',d,bo en] 70)=s2 at r12 h5 hg2 hr2 ho2 n2
    have r3:=Rest.push hr2.wf (.row [i64 k',i64 e',i64 c',i64 n',d,bo en] 76) []
    have l3:(s2.push (.row [i64 k',i64 e',i64 c',i64 n',d,bo en] 76)).lock= []:=hr2.lock.trans hl0
    have ho3:=ho2.rest r3 (fun i _=>by simp)
    have hsl:sliceCells (s2.push (.row [i64 k',i64 e',i64 c',i64 n',d,bo en] 76)) (.sl s2.next 6 0 1 true)=some (1,[i64 k',i64 e',i64 c',i64 n',d,bo en]):=by
      simp only [sliceCells,St.get_push,if_true]
      rfl
    obtain ⟨s6,b1,b2,b3,_⟩:=app_gen el40r ho3 r3.wf (fun i _=>by rw [l3];simp) (by omega) rfl (by decide) hsl
    have hr6:=(hr2.trans r3).fresh b3 hw0 hf
    have hadd:binA E0 .add 3 (i64 k) (i64 1)=some (i64 ((k+1:Nat):Int)):=add3 (a:=k) (b:=1) (by omega)
    obtain ⟨sf,o',u1,u2,u3,u4⟩:=ih (k+1) s6 _ (by omega) (by omega) hr6 (by rw [take_at hck];exact b2) (fun j hj=>by
      simp only [fid,List.mem_singleton] at hj
      subst hj
      have:=hr.next
      show st0.next≤s2.next+1
      omega)
    exact ⟨sf,o',u1,u2,u3,fun T hT=>LoopIn.go (f16_3_T (hi.len a44) (lssT (by omega)) a1 a2 (al43 σ) h5 (ldf (j:=0) k3 hg2 rfl) (ldf (j:=1) k33 hg2 rfl) (ldf (j:=2) k3 hg2 rfl) (ldf (j:=3) k3 hg2 rfl) (ldf (j:=4) k22 hg2 rfl) (ldf (j:=5) k4 hg2 rfl) (bd76 k' e' c' n' en hd) (bs40r s2 _ _ _ _ _ _) b1 hadd hT) u4⟩
theorem told_ok{st:St}{x:AV}{css:List (List AV)}(hw:st.wf)(hl:st.lock= [])(hx:IL st 70 6 x css)(hv:∀c∈css,∃(k e c' n:Int) (d:AV) (en:Bool),c= [i64 k,i64 e,i64 c',i64 n,d,bo en]∧SlA d)(hb:css.length≤2000000000):
    ∃o z,obC 16 [x] st o z∧Rest st z []∧Ls z 76 6 o css.length css.flatten∧∀j∈fid o,st.next≤j:=by
  obtain ⟨sf,o,u1,u2,u3,u4⟩:=told_loop hw hl hx hv hb css.length 0 st .nils (by omega) (by omega) (.refl hw _) (.inl ⟨rfl,rfl,rfl⟩) (fun j hj=>by cases hj)
  refine ⟨o,sf,?_,u1,u2,u3⟩
  refine ACalls.body (E:=E0) hE Tryz.func16 f16body ?_
  refine AW.andThen (f16_0 (x:=x) ⟨rfl,rfl⟩) fun T1 q1=> ?_
  refine AW.andThen (f16_1 q1) fun T2 q2=> ?_
  refine AW.andThen (L:=fun T=>f16L3 T o) (s:=sf) (AW.andThen (f16_2 q2) fun T3 q3=>AW.block ((AW.loopIn (u4 T3 q3)).mono fun ex T4 z ⟨e1,e2,e3⟩=> ?_)) fun T4 q4=> ?_
  · subst e1;subst e3
    exact ⟨rfl,e2,rfl⟩
  · exact AW.atRet (f16_4 q4) fun T' q=>⟨[T'.get 2],rfl,q.2,rfl⟩
end
section
set_option maxRecDepth 8000
/-! ### equal lists are told equal -/
theorem Ls.il{st:St}{e sz:Nat}{v:AV}{css:List (List AV)}(h:Ls st e sz v css.length css.flatten)(hc:∀c∈css,c.length=sz):IL st e sz v css:=by
  refine ⟨hc,?_⟩
  rcases h with ⟨h1,_,rfl⟩|⟨h2,id,f,rfl,h4⟩
  · exact .inl ⟨rfl,List.length_eq_zero_iff.1 h1⟩
  · exact .inr (.inr ⟨id,0,f,css.flatten,rfl,h4,by rw [List.drop_zero,List.take_of_length_le (by omega)],by omega⟩)
theorem Ls.at{t e sz:Nat}(hA:AgT t e sz){st:St}{v:AV}{css:List (List AV)}(h:Ls st e sz v css.length css.flatten)(hcl:∀c∈css,c.length=sz){i:Nat}{c:List AV}(hc:css[i]? =some c):
    ∃id off,indexAddrA E0 t v (i64 i)=some (.ptr id off)∧loadA E0 st e (.ptr id off)=some (.agg c)∧(st.get id).isSome=true:=by
  obtain ⟨q,h1,h2⟩:=(h.il hcl).at hA hc
  have hi:i<css.length:=(List.getElem?_eq_some_iff.1 hc).1
  rcases h with ⟨h0,_,rfl⟩|⟨_,id,f,rfl,h4⟩
  · omega
  · obtain ⟨ti,g1,g2⟩:=hA.sl
    have e1:indexAddrA E0 t (.sl id sz 0 css.length f) (i64 i)=some (.ptr id (0+i*sz)):=by
      simp only [indexAddrA,g1,g2]
      rw [if_pos ⟨hA.hs,by omega,by omega⟩];rfl
    rw [e1] at h1
    cases h1
    exact ⟨id,0+i*sz,e1,h2,by rw [h4];rfl⟩
def EvV(st:St)(cs:List AV)(e:EvR):Prop:=∃d p,cs= [i64 e.k,i64 e.c,i64 e.n,d,p]∧BS st d e.d∧NS st p e.ps
theorem EvV.rest{a b:St}{cs:List AV}{e:EvR}(h:EvV a cs e)(r:Rest a b []):EvV b cs e:=by
  obtain ⟨d,p,h1,h2,h3⟩:=h
  exact ⟨d,p,h1,h2.rest r (fun i _=>by simp),h3.rest r (fun i _=>by simp)⟩
theorem EvV.len{st:St}{cs:List AV}{e:EvR}(h:EvV st cs e):cs.length=5:=by
  obtain ⟨d,p,rfl,_⟩:=h;rfl
def RwV(st:St)(cs:List AV)(e:RwR):Prop:=∃d,cs= [i64 e.k,i64 e.e,i64 e.c,i64 e.n,d,bo e.en]∧BS st d e.d
theorem RwV.rest{a b:St}{cs:List AV}{e:RwR}(h:RwV a cs e)(r:Rest a b []):RwV b cs e:=by
  obtain ⟨d,h1,h2⟩:=h
  exact ⟨d,h1,h2.rest r (fun i _=>by simp)⟩
theorem RwV.len{st:St}{cs:List AV}{e:RwR}(h:RwV st cs e):cs.length=6:=by
  obtain ⟨d,rfl,_⟩:=h;rfl
/-- a list, each thing with what it says -/
def AllV{α:Type}(V:St→List AV→α→Prop)(st:St)(css:List (List AV))(es:List α):Prop:=css.length=es.length∧∀(i:Nat) c e,css[i]? =some c→es[i]? =some e→V st c e
theorem AllV.get{α:Type}{V:St→List AV→α→Prop}{st:St}{css:List (List AV)}{es:List α}(h:AllV V st css es){i:Nat}{c:List AV}(hc:css[i]? =some c):∃e,es[i]? =some e∧V st c e:=by
  have hi:=(List.getElem?_eq_some_iff.1 hc).1
  have e1:es[i]? =some (es[i]'(by rw [←h.1];exact hi)):=List.getElem?_eq_getElem _
  exact ⟨_,e1,h.2 i _ _ hc e1⟩
theorem AllV.mono{α:Type}{V:St→List AV→α→Prop}{a b:St}{css:List (List AV)}{es:List α}(h:AllV V a css es)(hk:∀c e,V a c e→V b c e):AllV V b css es:=⟨h.1,fun i c e h1 h2=>hk _ _ (h.2 i c e h1 h2)⟩
theorem AllV.all{α:Type}{V:St→List AV→α→Prop}{st:St}{css:List (List AV)}{es:List α}(h:AllV V st css es){c:List AV}(hc:c∈css):∃e,V st c e:=by
  obtain ⟨i,hi⟩:=List.mem_iff_getElem?.1 hc
  obtain ⟨e,_,he⟩:=h.get hi
  exact ⟨e,he⟩
noncomputable def inner12:Code:= .seq (f12P 7) (.seq (.block 3 (.seq (f12P 8) (f12P 9))) (f12P 10))
noncomputable def outer12:Code:= .seq (f12P 3) (.seq (.block 1 (.seq (f12P 4) (.seq (f12P 5) (.seq (f12P 6) (.block 2 (.loop inner12)))))) (f12P 11))
theorem picks_same{σ:St}{x y p p':AV}{n5:Int}{a b:Nat}{ca cb:List AV}{ps:List Nat}(ha:σ.get a=some (.row ca 58))(hb:σ.get b=some (.row cb 58))(h4:ca[4]? =some p)(h4':cb[4]? =some p')(hp:NS σ p ps)(hp':NS σ p' ps)(hl:ps.length≤2000000000):
    ∀(n i:Nat),ps.length- i=n→i≤ps.length→∀T,f12L5 T x y (i64 n5) (.ptr a 0) (.ptr b 0) (i64 i)→LoopIn Tryz.prog inner12 (fun ex T' z=>ex= .exit 2∧f12L2 T' x y (i64 n5)∧z=σ) (n+1) T σ:=by
  intro n
  have l1:=ldf (t:=52) (j:=4) k36 ha h4
  have l2:=ldf (t:=52) (j:=4) k36 hb h4'
  induction n with
  |zero=>
    intro i hn hi T hT
    refine LoopIn.out (e:= .exit 2) (L:=fun T'=>f12L2 T' x y (i64 n5)) (s:=σ) (by simp) (AW.seq ((f12_7_F l1 hp.len (lssF (by omega)) hT).mono fun ex T' z ⟨e1,e2,e3⟩=> ?_)) fun T' h=>⟨rfl,h,rfl⟩
    subst e1;subst e3
    exact ⟨rfl,e2,rfl⟩
  |succ n ih=>
    intro i hn hi T hT
    obtain ⟨m,hm⟩:∃m,ps[i]? =some m:=⟨ps[i]'(by omega),List.getElem?_eq_getElem (by omega)⟩
    obtain ⟨q,a1,a2⟩:=hp.at hm
    obtain ⟨q',b1,b2⟩:=hp'.at hm
    have hadd:binA E0 .add 3 (i64 i) (i64 1)=some (i64 ((i+1:Nat):Int)):=add3 (a:=i) (b:=1) (by omega)
    refine LoopIn.go (L:=fun T'=>f12L5 T' x y (i64 n5) (.ptr a 0) (.ptr b 0) (i64 ((i+1:Nat):Int))) (s:=σ) ?_ (ih (i+1) (by omega) (by omega))
    refine AW.andThen (f12_7_T l1 hp.len (lssT (by omega)) hT) fun T1 q1=> ?_
    refine AW.andThen (L:=fun T'=>f12L5 T' x y (i64 n5) (.ptr a 0) (.ptr b 0) (i64 i)) (s:=σ) (AW.block ?_) fun T2 q2=>f12_10 hadd q2
    refine AW.andThen (f12_8 (c:=false) l1 a1 a2 l2 b1 b2 (neqF rfl) q1) fun T3 q3=> ?_
    exact (f12_9_F q3).mono fun ex T' z ⟨e1,e2,e3⟩=>by
      subst e1;subst e3
      exact ⟨rfl,e2,rfl⟩
theorem events_loop{st0:St}{x y:AV}{css css':List (List AV)}{es:List EvR}(hw0:st0.wf)(hl0:st0.lock= [])(hx:Ls st0 58 5 x css.length css.flatten)(hy:Ls st0 58 5 y css'.length css'.flatten)(vx:AllV EvV st0 css es)(vy:AllV EvV st0 css' es)
    (hb:css.length≤2000000000) (hps:∀e∈es,e.ps.length≤2000000000):
    ∀(n k:Nat) (σ:St),css.length- k=n→k≤css.length→Rest st0 σ []→σ.next=st0.next+2*k→∀T,f12L2 T x y (i64 k)→
      LoopIn Tryz.prog outer12 (fun ex T' z=>ex= .exit 0∧f12L3 T'∧Rest st0 z []∧z.next=st0.next+2*css.length) (n+1) T σ:=by
  intro n
  have hll:css'.length=css.length:=by rw [vx.1,vy.1]
  have cx:∀c∈css,c.length=5:=fun c hc=>by obtain ⟨e,he⟩:=vx.all hc;exact he.len
  have cy:∀c∈css',c.length=5:=fun c hc=>by obtain ⟨e,he⟩:=vy.all hc;exact he.len
  induction n with
  |zero=>
    intro k σ hn hk hr hnx T hT
    have e:k=css.length:=by omega
    subst e
    have hxσ:=hx.rest hr (fun i _=>by simp)
    refine LoopIn.out (e:= .exit 0) (L:=fun T'=>f12L3 T') (s:=σ) (by simp) (AW.seq ((f12_3_F (hxσ.len el28) (lssF (by omega)) hT).mono fun ex T' z ⟨e1,e2,e3⟩=> ?_)) fun T' h=>⟨rfl,h,hr,hnx⟩
    subst e1;subst e3
    exact ⟨rfl,e2,rfl⟩
  |succ n ih=>
    intro k σ hn hk hr hnx T hT
    have hxσ:=hx.rest hr (fun i _=>by simp)
    have hyσ:=hy.rest hr (fun i _=>by simp)
    obtain ⟨c,hc⟩:∃c,css[k]? =some c:=⟨css[k]'(by omega),List.getElem?_eq_getElem (by omega)⟩
    obtain ⟨c',hc'⟩:∃c,css'[k]? =some c:=⟨css'[k]'(by omega),List.getElem?_eq_getElem (by omega)⟩
    obtain ⟨e,he,hv⟩:=vx.get hc
    have hv':=vy.2 k c' e hc' he
    have hep:=hps e (List.mem_of_getElem? he)
    obtain ⟨A,oA,a1,a2,a3⟩:=hxσ.at a28 cx hc
    obtain ⟨B,oB,b1,b2,b3⟩:=hyσ.at a28 cy hc'
    have hadd:binA E0 .add 3 (i64 k) (i64 1)=some (i64 ((k+1:Nat):Int)):=add3 (a:=k) (b:=1) (by omega)
    have ls:σ.lock= []:=hr.lock.trans hl0
    show AW _ _ _ _ _
    refine AW.andThen (f12_3_T (hxσ.len el28) (lssT (by omega)) hT) fun T1 q1=> ?_
    refine AW.seq (AW.block (AW.seq ((f12_4 hr.wf ls (by simp [a3,b3]) hv.len hv'.len a1 a2 b1 b2 q1).mono fun ex T2 z ⟨e1,a,b,q2,r2,ga,gb,_,nz⟩=> ?_)))
    subst e1
    have vz:=(hv.rest hr).rest r2
    have vz':=(hv'.rest hr).rest r2
    obtain ⟨d,p,rfl,hd,hp⟩:=vz
    obtain ⟨d',p',rfl,hd',hp'⟩:=vz'
    refine AW.andThen (f12_5_FFFFF (ldf (j:=0) k3 ga rfl) (ldf (j:=0) k3 gb rfl) (neqF rfl) (ldf (j:=1) k3 ga rfl) (ldf (j:=1) k3 gb rfl) (neqF rfl) (ldf (j:=2) k3 ga rfl) (ldf (j:=2) k3 gb rfl) (neqF rfl) (ldf (j:=3) k22 ga rfl) hd.str (ldf (j:=3) k22 gb rfl) hd'.str (ne_sbF rfl) (ldf (j:=4) k36 ga rfl) hp.len (ldf (j:=4) k36 gb rfl) hp'.len (neqF rfl) q2) fun T3 q3=> ?_
    refine AW.andThen (f12_6 q3) fun T4 q4=> ?_
    refine AW.block ((AW.loopIn (picks_same ga gb rfl rfl hp hp' hep e.ps.length 0 (by omega) (by omega) T4 q4)).mono fun ex T5 z5 ⟨e1,e2,e3⟩=> ?_)
    subst e1;subst e3
    show AW _ _ _ _ _
    refine (f12_11 hadd e2).mono fun ex T6 z6 ⟨e1,e2,e3⟩=> ?_
    subst e1;subst e3
    exact ih (k+1) _ (by omega) (by omega) (hr.trans r2) (by omega) T6 e2
/-- with so many more objects -/
def St.up(st:St)(n:Nat):St:={st with next:=st.next+n}
theorem St.up_rest{st:St}(hw:st.wf)(n:Nat):Rest st (st.up n) []:=⟨fun i o _ h=>h,Nat.le_add_right _ _,rfl,rfl,fun i o h=>Nat.lt_of_lt_of_le (hw i o h) (Nat.le_add_right _ _)⟩
theorem events_ok{st:St}{x y:AV}{css css':List (List AV)}{es:List EvR}(hw:st.wf)(hl:st.lock= [])(hx:Ls st 58 5 x css.length css.flatten)(hy:Ls st 58 5 y css'.length css'.flatten)(vx:AllV EvV st css es)(vy:AllV EvV st css' es)
    (hb:css.length≤2000000000) (hps:∀e∈es,e.ps.length≤2000000000):obC 12 [x,y] st TT (st.up (2*css.length)):=by
  have main:ACalls Tryz.prog 12 [x,y] (fun a s=>a=TT∧Rest st s []∧s.next=st.next+2*css.length) st:=by
    refine ACalls.body (E:=E0) hE Tryz.func12 f12body ?_
    refine AW.andThen (f12_0 (x:=x) (y:=y) ⟨rfl,rfl,rfl⟩) fun T1 q1=> ?_
    have hll:css'.length=css.length:=by rw [vx.1,vy.1]
    refine AW.andThen (f12_1_F (hx.len el28) (hy.len el28) (neqF (by rw [hll])) q1) fun T2 q2=> ?_
    refine AW.seq (AW.andThen (f12_2 q2) fun T3 q3=>AW.block ((AW.loopIn (events_loop hw hl hx hy vx vy hb hps css.length 0 st (by omega) (by omega) (.refl hw _) rfl T3 q3)).mono fun ex T4 z ⟨e1,e2,e3,e4⟩=> ?_))
    subst e1
    show AW _ _ _ _ _
    refine (f12_12 e2).mono fun ex T5 z5 ⟨w1,w2,w3⟩=> ?_
    subst w1;subst w3
    exact ⟨[T5.get 4],rfl,w2.2,e3,e4⟩
  exact main.forget fun r s ⟨h1,h2,h3⟩ _=>⟨st.up (2*css.length),⟨h1,rfl⟩,fun i o hi=>h2.keep i o (by simp) hi,h3.symm,h2.lock.symm,h2.gl.symm⟩
noncomputable def outer19:Code:= .seq (f19P 3) (.seq (.block 1 (.seq (f19P 4) (f19P 5))) (f19P 6))
theorem rows_loop{st0:St}{x y:AV}{css css':List (List AV)}{es:List RwR}(hw0:st0.wf)(hl0:st0.lock= [])(hx:Ls st0 76 6 x css.length css.flatten)(hy:Ls st0 76 6 y css'.length css'.flatten)(vx:AllV RwV st0 css es)(vy:AllV RwV st0 css' es)
    (hb:css.length≤2000000000):
    ∀(n k:Nat) (σ:St),css.length- k=n→k≤css.length→Rest st0 σ []→σ.next=st0.next+2*k→∀T,f19L2 T x y (i64 k)→
      LoopIn Tryz.prog outer19 (fun ex T' z=>ex= .exit 0∧f19L3 T'∧Rest st0 z []∧z.next=st0.next+2*css.length) (n+1) T σ:=by
  intro n
  have hll:css'.length=css.length:=by rw [vx.1,vy.1]
  have cx:∀c∈css,c.length=6:=fun c hc=>by obtain ⟨e,he⟩:=vx.all hc;exact he.len
  have cy:∀c∈css',c.length=6:=fun c hc=>by obtain ⟨e,he⟩:=vy.all hc;exact he.len
  induction n with
  |zero=>
    intro k σ hn hk hr hnx T hT
    have e:k=css.length:=by omega
    subst e
    have hxσ:=hx.rest hr (fun i _=>by simp)
    refine LoopIn.out (e:= .exit 0) (L:=fun T'=>f19L3 T') (s:=σ) (by simp) (AW.seq ((f19_3_F (hxσ.len el40r) (lssF (by omega)) hT).mono fun ex T' z ⟨e1,e2,e3⟩=> ?_)) fun T' h=>⟨rfl,h,hr,hnx⟩
    subst e1;subst e3
    exact ⟨rfl,e2,rfl⟩
  |succ n ih=>
    intro k σ hn hk hr hnx T hT
    have hxσ:=hx.rest hr (fun i _=>by simp)
    have hyσ:=hy.rest hr (fun i _=>by simp)
    obtain ⟨c,hc⟩:∃c,css[k]? =some c:=⟨css[k]'(by omega),List.getElem?_eq_getElem (by omega)⟩
    obtain ⟨c',hc'⟩:∃c,css'[k]? =some c:=⟨css'[k]'(by omega),List.getElem?_eq_getElem (by omega)⟩
    obtain ⟨e,he,hv⟩:=vx.get hc
    have hv':=vy.2 k c' e hc' he
    obtain ⟨A,oA,a1,a2,a3⟩:=hxσ.at a40r cx hc
    obtain ⟨B,oB,b1,b2,b3⟩:=hyσ.at a40r cy hc'
    have hadd:binA E0 .add 3 (i64 k) (i64 1)=some (i64 ((k+1:Nat):Int)):=add3 (a:=k) (b:=1) (by omega)
    have ls:σ.lock= []:=hr.lock.trans hl0
    show AW _ _ _ _ _
    refine AW.andThen (f19_3_T (hxσ.len el40r) (lssT (by omega)) hT) fun T1 q1=> ?_
    refine AW.seq (AW.block (AW.seq ((f19_4 hr.wf ls (by simp [a3,b3]) hv.len hv'.len a1 a2 b1 b2 q1).mono fun ex T2 z ⟨e1,a,b,q2,r2,ga,gb,_,nz⟩=> ?_)))
    subst e1
    have vz:=(hv.rest hr).rest r2
    have vz':=(hv'.rest hr).rest r2
    obtain ⟨d,rfl,hd⟩:=vz
    obtain ⟨d',rfl,hd'⟩:=vz'
    have hbo:binA E0 .neq 4 (bo e.en) (bo e.en)=some FF:=by cases e.en<;>kernel_rfl
    refine (f19_5_FFFFFF (ldf (j:=0) k3 ga rfl) (ldf (j:=0) k3 gb rfl) (neqF rfl) (ldf (j:=1) k3 ga rfl) (ldf (j:=1) k3 gb rfl) (neqF rfl) (ldf (j:=2) k3 ga rfl) (ldf (j:=2) k3 gb rfl) (neqF rfl) (ldf (j:=3) k3 ga rfl) (ldf (j:=3) k3 gb rfl) (neqF rfl) (ldf (j:=4) k22 ga rfl) hd.str (ldf (j:=4) k22 gb rfl) hd'.str (ne_sbF rfl) (ldf (j:=5) k4 ga rfl) (ldf (j:=5) k4 gb rfl) hbo q2).mono fun ex T3 z3 ⟨e1,e2,e3⟩=> ?_
    subst e1;subst e3
    show AW _ _ _ _ _
    refine (f19_6 hadd e2).mono fun ex T6 z6 ⟨e1,e2,e3⟩=> ?_
    subst e1;subst e3
    exact ih (k+1) _ (by omega) (by omega) (hr.trans r2) (by omega) T6 e2
theorem rows_ok{st:St}{x y:AV}{css css':List (List AV)}{es:List RwR}(hw:st.wf)(hl:st.lock= [])(hx:Ls st 76 6 x css.length css.flatten)(hy:Ls st 76 6 y css'.length css'.flatten)(vx:AllV RwV st css es)(vy:AllV RwV st css' es)
    (hb:css.length≤2000000000):obC 19 [x,y] st TT (st.up (2*css.length)):=by
  have main:ACalls Tryz.prog 19 [x,y] (fun a s=>a=TT∧Rest st s []∧s.next=st.next+2*css.length) st:=by
    refine ACalls.body (E:=E0) hE Tryz.func19 f19body ?_
    refine AW.andThen (f19_0 (x:=x) (y:=y) ⟨rfl,rfl,rfl⟩) fun T1 q1=> ?_
    have hll:css'.length=css.length:=by rw [vx.1,vy.1]
    refine AW.andThen (f19_1_F (hx.len el40r) (hy.len el40r) (neqF (by rw [hll])) q1) fun T2 q2=> ?_
    refine AW.seq (AW.andThen (f19_2 q2) fun T3 q3=>AW.block ((AW.loopIn (rows_loop hw hl hx hy vx vy hb css.length 0 st (by omega) (by omega) (.refl hw _) rfl T3 q3)).mono fun ex T4 z ⟨e1,e2,e3,e4⟩=> ?_))
    subst e1
    show AW _ _ _ _ _
    refine (f19_7 e2).mono fun ex T5 z5 ⟨w1,w2,w3⟩=> ?_
    subst w1;subst w3
    exact ⟨[T5.get 4],rfl,w2.2,e3,e4⟩
  exact main.forget fun r s ⟨h1,h2,h3⟩ _=>⟨st.up (2*css.length),⟨h1,rfl⟩,fun i o hi=>h2.keep i o (by simp) hi,h3.symm,h2.lock.symm,h2.gl.symm⟩
end
section
set_option maxRecDepth 8000
/-! ### texts of lines: plain laws -/
def joinL(bs:List (List UInt8)):List UInt8:=bs.flatMap (· ++ [10])
theorem joinL_cons(b:List UInt8)(bs:List (List UInt8)):joinL (b::bs)=b++10::joinL bs:=by simp [joinL]
theorem lineOf_app{l r:List UInt8}(h:(10:UInt8)∉l):lineOf (l++10::r)=(l,true,r):=by
  obtain ⟨h1,h2⟩:=takeWhile_at (r:=r) h
  unfold lineOf
  rw [if_pos (by simp),h1,h2,List.drop_succ_cons,List.drop_zero]
theorem tw_10:∀s:List UInt8,(10:UInt8)∉s.takeWhile (· ≠10)
  | []=>by simp
  |c::r=>by
    rw [List.takeWhile_cons]
    by_cases hc:c=10
    · simp [hc]
    · have hd:decide (c≠10)=true:=decide_eq_true hc
      rw [if_pos hd]
      intro hm
      rcases List.mem_cons.1 hm with e|hm
      · exact hc e.symm
      · exact tw_10 r hm
theorem lineOf_true{s:List UInt8}(h:(lineOf s).2.1=true):(10:UInt8)∉(lineOf s).1∧s=(lineOf s).1++10::(lineOf s).2.2:=by
  unfold lineOf at h⊢
  by_cases h10:(10:UInt8)∈s
  · rw [if_pos h10]
    exact ⟨tw_10 s,split_ten h10⟩
  · rw [if_neg h10] at h;cases h
/-- what goes in front of the lines that come -/
def addF(A:List (List UInt8)):List (List UInt8)⊕Nat→List (List UInt8)⊕Nat
  | .inl bs=> .inl (A++bs)
  | .inr k=> .inr (A.length+k)
theorem addF_add(A B:List (List UInt8))(x:List (List UInt8)⊕Nat):addF A (addF B x)=addF (A++B) x:=by
  cases x with
  |inl bs=>simp [addF]
  |inr k=>simp only [addF,List.length_append];congr 1;omega
theorem parseF_acc(ev:List UInt8→Bool):∀(n:Nat) (s:List UInt8) (A:List (List UInt8)) (m:Nat),s.length<n→s.length<m→parseF ev n s A=addF A (parseF ev m s [])
  |0,s,A,m,h,_=>absurd h (Nat.not_lt_zero _)
  |n+1,s,A,0,_,h=>absurd h (Nat.not_lt_zero _)
  |n+1,[],A,m+1,_,_=>by simp [parseF,addF]
  |n+1,c::r,A,m+1,h,h'=>by
    have hlt:=lineOf_lt (s:=c::r) (by simp)
    simp only [parseF]
    split
    · rw [parseF_acc ev n _ (A++ [(lineOf (c::r)).1]) ((lineOf (c::r)).2.2.length+1) (by omega) (Nat.lt_succ_self _),parseF_acc ev m _ ([]++ [(lineOf (c::r)).1]) ((lineOf (c::r)).2.2.length+1) (by omega) (Nat.lt_succ_self _),addF_add]
      simp
    · simp [addF]
def parseT(ev:List UInt8→Bool)(s:List UInt8):List (List UInt8)⊕Nat:=parseF ev (s.length+1) s []
theorem parseT_line{ev:List UInt8→Bool}{l r:List UInt8}(h:(10:UInt8)∉l)(he:ev l=true):parseT ev (l++10::r)=addF [l] (parseT ev r):=by
  unfold parseT
  have hlo:=lineOf_app (r:=r) h
  cases hs:l++10::r with
  |nil=>simp at hs
  |cons c q=>
    rw [hs] at hlo
    have hl:(c::q).length=l.length+r.length+1:=by rw [←hs];simp;omega
    simp only [parseF,hlo,he,and_self,if_true]
    rw [parseF_acc ev _ r _ (r.length+1) (by omega) (Nat.lt_succ_self _)]
    simp
theorem parseT_join{ev:List UInt8→Bool}(t:List UInt8):∀bs:List (List UInt8),(∀b∈bs,(10:UInt8)∉b∧ev b=true)→parseT ev (joinL bs++t)=addF bs (parseT ev t)
  | [],_=>by
    show parseT ev t=_
    cases parseT ev t<;>simp [addF]
  |b::bs,h=>by
    obtain ⟨h1,h2⟩:=h b (by simp)
    rw [joinL_cons,List.append_assoc,List.cons_append,parseT_line h1 h2,parseT_join t bs (fun c hc=>h c (List.mem_cons_of_mem _ hc)),addF_add]
    rfl
theorem parseT_nil(ev:List UInt8→Bool):parseT ev []= .inl []:=rfl
theorem parseT_all{ev:List UInt8→Bool}{bs:List (List UInt8)}(h:∀b∈bs,(10:UInt8)∉b∧ev b=true):parseT ev (joinL bs)= .inl bs:=by
  have:=parseT_join (ev:=ev) [] bs h
  rw [List.append_nil,parseT_nil] at this
  simpa [addF] using this
theorem parseF_inl{ev:List UInt8→Bool}:∀(n:Nat) (s:List UInt8) (A R:List (List UInt8)),s.length<n→parseF ev n s A= .inl R→∃bs,R=A++bs∧s=joinL bs∧∀b∈bs,(10:UInt8)∉b∧ev b=true
  |0,s,A,R,h,_=>absurd h (Nat.not_lt_zero _)
  |n+1,[],A,R,_,h=>by
    simp only [parseF,Sum.inl.injEq] at h
    exact ⟨[],by rw [h,List.append_nil],rfl,fun b hb=>by cases hb⟩
  |n+1,c::r,A,R,hl,h=>by
    have hlt:=lineOf_lt (s:=c::r) (by simp)
    simp only [parseF] at h
    split at h
    · rename_i hc
      obtain ⟨e1,e2⟩:=lineOf_true hc.1
      obtain ⟨bs,h1,h2,h3⟩:=parseF_inl n _ _ _ (by simp only [List.length_cons] at hl hlt⊢;omega) h
      refine ⟨(lineOf (c::r)).1::bs,by rw [h1];simp,?_,fun b hb=> ?_⟩
      · rw [joinL_cons,←h2];exact e2
      · rcases List.mem_cons.1 hb with rfl|hb
        · exact ⟨e1,hc.2⟩
        · exact h3 b hb
    · cases h
theorem parseT_inl{ev:List UInt8→Bool}{s:List UInt8}{bs:List (List UInt8)}(h:parseT ev s= .inl bs):s=joinL bs∧∀b∈bs,(10:UInt8)∉b∧ev b=true:=by
  obtain ⟨bs',h1,h2,h3⟩:=parseF_inl _ _ _ _ (Nat.lt_succ_self _) h
  rw [List.nil_append] at h1
  subst h1
  exact ⟨h2,h3⟩
theorem join_count:∀bs:List (List UInt8),bs.length≤(joinL bs).length
  | []=>Nat.zero_le _
  |c::bs=>by
    have:=join_count bs
    rw [joinL_cons,List.length_append,List.length_cons,List.length_cons];omega
theorem wrF_some:∀(ls:List (List UInt8)),wrF (ls.map some)=some (joinL ls)
  | []=>rfl
  |l::ls=>by
    simp only [List.map_cons,wrF,wrF_some ls,Option.map_some,joinL_cons]
theorem wrF_inv:∀{os:List (Option (List UInt8))} {t:List UInt8},wrF os=some t→∃ls,os=ls.map some∧t=joinL ls
  | [],t,h=>by
    simp only [wrF,Option.some.injEq] at h
    exact ⟨[],rfl,by rw [←h];rfl⟩
  |none::os,t,h=>by simp [wrF] at h
  |some l::os,t,h=>by
    simp only [wrF] at h
    obtain ⟨t',h1,rfl⟩:=Option.map_eq_some_iff.1 h
    obtain ⟨ls,h2,rfl⟩:=wrF_inv h1
    exact ⟨l::ls,by rw [h2];rfl,by rw [joinL_cons]⟩
theorem print_10{x:UInt8}(h:32≤x.toNat∧x.toNat≤126):x≠10:=fun e=>by subst e;exact absurd h.1 (by decide)
theorem quote_10(d:List UInt8):(10:UInt8)∉quoteF d:=fun h=>print_10 (quote_print h) rfl
theorem pickF_10(p:List Nat):(10:UInt8)∉pickF p:=fun h=>by
  unfold pickF at h
  obtain ⟨x,_,hx⟩:=List.mem_flatMap.1 h
  rcases List.mem_cons.1 hx with e|hx
  · exact absurd e (by decide)
  · exact itoa_10 _ hx
theorem sp_10{l:List UInt8}(h:(10:UInt8)∉l):(10:UInt8)∉(32::l:List UInt8):=fun hm=>by
  rcases List.mem_cons.1 hm with e|hm
  · exact absurd e (by decide)
  · exact h hm
theorem app_10{a b:List UInt8}(h:(10:UInt8)∉a)(k:(10:UInt8)∉b):(10:UInt8)∉a++b:=fun hm=>(List.mem_append.1 hm).elim h k
theorem if_10{c:Prop} [Decidable c]{a:List UInt8}(h:(10:UInt8)∉a):(10:UInt8)∉(if c then a else []):=by
  split
  · exact h
  · simp
theorem ev_10{e:EvR}{s:List UInt8}(h:evLineR e=some s):(10:UInt8)∉s:=by
  obtain ⟨hb,rfl⟩:=ev_parts h
  obtain ⟨hk,_⟩:=badEv_false hb
  obtain ⟨_,_,n3,_⟩:=nm_ok hk
  exact app_10 (app_10 (app_10 (app_10 n3 (if_10 (sp_10 (itoa_10 _)))) (if_10 (sp_10 (itoa_10 _)))) (if_10 (sp_10 (quote_10 _)))) (pickF_10 _)
theorem tail_10(k c n:Int)(d:List UInt8)(en:Bool):(10:UInt8)∉rowTail k c n d en:=by
  have hend:(10:UInt8)∉endB en:=by cases en<;>decide
  unfold rowTail
  split
  · exact sp_10 (itoa_10 _)
  · split
    · exact sp_10 (itoa_10 _)
    · split
      · exact sp_10 (app_10 (quote_10 _) (sp_10 hend))
      · simp
theorem row_10{x:RwR}{s:List UInt8}(h:rowFR x=some s):(10:UInt8)∉s:=by
  unfold rowFR rowF at h
  split at h
  · cases h
  · rename_i hb
    obtain ⟨hk,_⟩:=badRow_false (by simpa using hb)
    obtain ⟨_,_,n3,_⟩:=nm_ok hk
    split at h
    · simp only [Option.some.injEq] at h
      rw [←h]
      have hok:(10:UInt8)∉okB:=by decide
      exact app_10 (app_10 n3 (sp_10 hok)) (tail_10 _ _ _ _ _)
    · simp only [Option.some.injEq] at h
      rw [←h]
      have herr:(10:UInt8)∉errB:=by decide
      exact app_10 n3 (sp_10 (app_10 herr (sp_10 (itoa_10 _))))
/-- events as they are made of arguments -/
def EvR.up(e:EvR):EvR:={e with bad:=false}
theorem read_ev{e:EvR}{s:List UInt8}(hg:EvGood e)(h:evLineR e=some s):evRead s=e.up∧evOK s=true:=by
  obtain ⟨h1,h2,h3,h4,h5,h6⟩:=read_line hg h
  have e1:evRead s=e.up:=by
    cases hr:evRead s with
    |mk k c n d ps bad=>
      rw [hr] at h1 h2 h3 h4 h5 h6
      simp only at h1 h2 h3 h4 h5 h6
      subst h1;subst h2;subst h3;subst h4;subst h5;subst h6
      rfl
  refine ⟨e1,?_⟩
  simp only [evOK,e1,EvR.up,Bool.not_false,Bool.true_and,decide_eq_true_eq]
  exact h
def RwR.up(e:RwR):RwR:={e with bad:=false}
theorem read_rw{e:RwR}{s:List UInt8}(hg:RwGood e)(h:rowFR e=some s):rowRead s=e.up∧rowOK s=true:=by
  obtain ⟨h1,h2,h3,h4,h5,h6,h7⟩:=read_row hg h
  have e1:rowRead s=e.up:=by
    cases hr:rowRead s with
    |mk k e c n d en bad=>
      rw [hr] at h1 h2 h3 h4 h5 h6 h7
      simp only at h1 h2 h3 h4 h5 h6 h7
      subst h1;subst h2;subst h3;subst h4;subst h5;subst h6;subst h7
      rfl
  refine ⟨e1,?_⟩
  simp only [rowOK,e1,RwR.up,Bool.not_false,Bool.true_and,decide_eq_true_eq]
  exact h
theorem evOK_line{b:List UInt8}(h:evOK b=true):evLineR (evRead b)=some b∧(evRead b).bad=false:=by
  unfold evOK at h
  simp only [Bool.and_eq_true,Bool.not_eq_true',decide_eq_true_eq] at h
  exact ⟨h.2,h.1⟩
theorem rowOK_line{b:List UInt8}(h:rowOK b=true):rowFR (rowRead b)=some b∧(rowRead b).bad=false:=by
  unfold rowOK at h
  simp only [Bool.and_eq_true,Bool.not_eq_true',decide_eq_true_eq] at h
  exact ⟨h.2,h.1⟩
/-- what is written is read: a whole text -/
theorem text_back{es:List EvR}{t:List UInt8}(hg:∀e∈es,EvGood e)(hb:∀e∈es,e.bad=false)(h:wrF (es.map evLineR)=some t):∃bs,parseT evOK t= .inl bs∧bs.map evRead=es:=by
  obtain ⟨ls,h1,rfl⟩:=wrF_inv h
  have key:∀(es:List EvR) (ls:List (List UInt8)),(∀e∈es,EvGood e)→(∀e∈es,e.bad=false)→es.map evLineR=ls.map some→(∀b∈ls,(10:UInt8)∉b∧evOK b=true)∧ls.map evRead=es:=by
    intro es
    induction es with
    |nil=>
      intro ls _ _ h
      cases ls with
      |nil=>exact ⟨fun b hb=>by (cases hb),rfl⟩
      |cons a r=>simp at h
    |cons e es ih=>
      intro ls hg hb h
      cases ls with
      |nil=>simp at h
      |cons l ls=>
        simp only [List.map_cons,List.cons.injEq] at h
        obtain ⟨k1,k2⟩:=ih ls (fun x hx=>hg x (List.mem_cons_of_mem _ hx)) (fun x hx=>hb x (List.mem_cons_of_mem _ hx)) h.2
        obtain ⟨r1,r2⟩:=read_ev (hg e (by simp)) h.1
        have r3:e.up=e:=by
          have:=hb e (by simp)
          obtain ⟨k,c,n,d,ps,bad⟩:=e
          simp only at this
          subst this;rfl
        refine ⟨fun b hbm=> ?_,by rw [List.map_cons,k2,r1,r3]⟩
        rcases List.mem_cons.1 hbm with rfl|hbm
        · exact ⟨ev_10 h.1,r2⟩
        · exact k1 b hbm
  obtain ⟨k1,k2⟩:=key es ls hg hb h1
  exact ⟨ls,parseT_all k1,k2⟩
theorem rows_back{es:List RwR}{t:List UInt8}(hg:∀e∈es,RwGood e)(hb:∀e∈es,e.bad=false)(h:wrF (es.map rowFR)=some t):∃bs,parseT rowOK t= .inl bs∧bs.map rowRead=es:=by
  obtain ⟨ls,h1,rfl⟩:=wrF_inv h
  have key:∀(es:List RwR) (ls:List (List UInt8)),(∀e∈es,RwGood e)→(∀e∈es,e.bad=false)→es.map rowFR=ls.map some→(∀b∈ls,(10:UInt8)∉b∧rowOK b=true)∧ls.map rowRead=es:=by
    intro es
    induction es with
    |nil=>
      intro ls _ _ h
      cases ls with
      |nil=>exact ⟨fun b hb=>by (cases hb),rfl⟩
      |cons a r=>simp at h
    |cons e es ih=>
      intro ls hg hb h
      cases ls with
      |nil=>simp at h
      |cons l ls=>
        simp only [List.map_cons,List.cons.injEq] at h
        obtain ⟨k1,k2⟩:=ih ls (fun x hx=>hg x (List.mem_cons_of_mem _ hx)) (fun x hx=>hb x (List.mem_cons_of_mem _ hx)) h.2
        obtain ⟨r1,r2⟩:=read_rw (hg e (by simp)) h.1
        have r3:e.up=e:=by
          have:=hb e (by simp)
          obtain ⟨k,e,c,n,d,en,bad⟩:=e
          simp only at this
          subst this;rfl
        refine ⟨fun b hbm=> ?_,by rw [List.map_cons,k2,r1,r3]⟩
        rcases List.mem_cons.1 hbm with rfl|hbm
        · exact ⟨row_10 h.1,r2⟩
        · exact k1 b hbm
  obtain ⟨k1,k2⟩:=key es ls hg hb h1
  exact ⟨ls,parseT_all k1,k2⟩
/-- what is read is written -/
theorem text_fore{s:List UInt8}{bs:List (List UInt8)}(h:parseT evOK s= .inl bs):wrF ((bs.map evRead).map evLineR)=some s:=by
  obtain ⟨rfl,h2⟩:=parseT_inl h
  rw [List.map_map,←wrF_some]
  congr 1
  exact List.map_congr_left fun b hb=>(evOK_line (h2 b hb).2).1
theorem rows_fore{s:List UInt8}{bs:List (List UInt8)}(h:parseT rowOK s= .inl bs):wrF ((bs.map rowRead).map rowFR)=some s:=by
  obtain ⟨rfl,h2⟩:=parseT_inl h
  rw [List.map_map,←wrF_some]
  congr 1
  exact List.map_congr_left fun b hb=>(rowOK_line (h2 b hb).2).1
theorem ev_sizes(s:List UInt8):(evRead s).d.length≤s.length∧(evRead s).ps.length≤s.length+1:=by
  have q0:=(cutB_le s).2
  unfold evRead
  simp only
  generalize hA:stN _ (cutB s).2 _ 0=A
  have q1:A.2.1.length≤(cutB s).2.length:=by rw [←hA];exact stN_le _ _ _ _
  generalize hB:stN _ A.2.1 A.2.2 0=B
  have q2:B.2.1.length≤A.2.1.length:=by rw [←hB];exact stN_le _ _ _ _
  generalize hC:stW _ B.2.1 B.2.2 []=C
  have q3:C.1.length≤B.2.1.length∧C.2.1.length≤B.2.1.length:=by rw [←hC];exact stW_le _ _ _
  refine ⟨by omega,?_⟩
  split
  · have:=picksF_le (C.2.1.length+1) C.2.1 C.2.2 []
    simp only [List.length_nil] at this
    omega
  · simp
theorem row_sizes(s:List UInt8):(rowRead s).d.length≤s.length:=by
  have hread:rowRead s=rowRest (idxN (cutB s).1) (cutB (cutB s).2).1 (cutB (cutB s).2).2 (decide (idxN (cutB s).1<1)):=rfl
  rw [hread]
  have q1:=(cutB_le s).2
  have q2:=(cutB_le (cutB s).2).2
  have q3:=(wordR_le (cutB (cutB s).2).2).1
  unfold rowRest
  split
  · simp
  · split
    · simp
    · split
      · simp
      · split
        · simp
        · split
          · simp only;omega
          · simp
end
section
set_option maxRecDepth 100000
noncomputable def f32P(i:Nat):Code:=match Tryz.f32.body with
  |some (.seq x0 (.seq x1 (.seq x2 (.seq (.seq x3 (.block 0 (.rangeFunc _ _ x4 x5))) x6))))=> [x0,x1,x2,x3,x4,x5,x6].getD i .skip
  |_=> .skip
theorem f32body:Tryz.f32.body=some (.seq (f32P 0) (.seq (f32P 1) (.seq (f32P 2) (.seq (.seq (f32P 3) (.block 0 (.rangeFunc (.tmp 17) #[18] (f32P 4) (f32P 5)))) (f32P 6))))):=by kernel_rfl
def f32L0(T:Tm)(a0 a1:AV):Prop:=T.n=44∧T.get 0=a0∧T.get 1=a1
def f32L1(T:Tm)(a0 a3 a4 a5 a6:AV):Prop:=T.n=44∧T.get 0=a0∧T.get 3=a3∧T.get 4=a4∧T.get 5=a5∧T.get 6=a6
theorem f32_0_e(w0:ByteArray)(st s1 s2 s3 s4:St)(a3 a4 a5 a6:Nat):((evS Tryz.prog E0 noOv noS 100000 [2003,2004,2005,2006] (f32P 0) ⟨44,[(0,(str w0)),(1,(.fn (.func 33) [] []))],[]⟩ st [.eff (.ptr a3 0) (fun _=>s1),.eff (.ptr a4 0) (fun _=>s2),.eff (.ptr a5 0) (fun _=>s3),.eff (.ptr a6 0) (fun _=>s4)]).map fun q=>(q.1,q.2.1.n,([q.2.1.get 0,q.2.1.get 3,q.2.1.get 4,q.2.1.get 5,q.2.1.get 6]:List AV),q.2.2.1,q.2.2.2.2))=some (.normal,44,[(str w0),(.ptr a3 0),(.ptr a4 0),(.ptr a5 0),(.ptr a6 0)],s4,[boxA st 78 (.fn (.func 33) [] [])=some ((.ptr a3 0),s1),allocA E0 s1 37=some ((.ptr a4 0),s2),allocA E0 s2 3=some ((.ptr a5 0),s3),allocA E0 s3 23=some ((.ptr a6 0),s4)]):=by kernel_rfl
theorem f32_0{w0:ByteArray}{st s1 s2 s3 s4:St}{a3 a4 a5 a6:Nat}(h1:boxA st 78 (.fn (.func 33) [] [])=some ((.ptr a3 0),s1))(h2:allocA E0 s1 37=some ((.ptr a4 0),s2))(h3:allocA E0 s2 3=some ((.ptr a5 0),s3))(h4:allocA E0 s3 23=some ((.ptr a6 0),s4)){T:Tm}(hT:f32L0 T (str w0) (.fn (.func 33) [] [])):AW Tryz.prog (f32P 0) (fun ex T' st'=>ex= .normal∧f32L1 T' (str w0) (.ptr a3 0) (.ptr a4 0) (.ptr a5 0) (.ptr a6 0)∧st'=s4) T st:=by
  obtain ⟨hn,g0,g1⟩:=hT
  exact (gen_run (G:=fun T=>([T.get 0,T.get 3,T.get 4,T.get 5,T.get 6]:List AV)) hE (f32_0_e w0 st s1 s2 s3 s4 a3 a4 a5 a6) (Ob.ok_cons.2 ⟨h1,(Ob.ok_cons.2 ⟨h2,(Ob.ok_cons.2 ⟨h3,(Ob.ok_cons.2 ⟨h4,Ob.ok_nil⟩)⟩)⟩)⟩) hn (conz g0 (one g1))).mono fun ex T' st' ⟨q1,q2,q3,q4⟩=>by simp only [List.cons.injEq,and_true] at q3;exact ⟨q1,⟨q2,q3⟩,q4⟩
def f32L2(T:Tm)(a4 a5 a6:AV):Prop:=T.n=44∧T.get 4=a4∧T.get 5=a5∧T.get 6=a6
theorem f32_1_T_e(w0:ByteArray)(p3 p4 p5 p6:Nat)(st s1 s2 s3:St)(n14:Int):((evS Tryz.prog E0 noOv noS 100000 [5000,7014,7015] (f32P 1) ⟨44,[(0,(str w0)),(3,(.ptr p3 0)),(4,(.ptr p4 0)),(5,(.ptr p5 0)),(6,(.ptr p6 0))],[]⟩ st [.av (i64 n14),.av TT,.eff .undef (fun _=>s1),.eff .undef (fun _=>s2),.eff .undef (fun _=>s3)]).map fun q=>(q.1,q.2.1.n,([q.2.1.get 4,q.2.1.get 5,q.2.1.get 6]:List AV),q.2.2.1,q.2.2.2.2))=some (.ret,44,[(.ptr p4 0),(.ptr p5 0),(.ptr p6 0)],s3,[lenA E0 9 (str w0)=some (i64 n14),binA E0 .gtr 3 (i64 n14) (i64 65536)=some TT,storeA E0 st 37 (.ptr p4 0) .nils=some s1,storeA E0 s1 3 (.ptr p5 0) (i64 0)=some s2,storeA E0 s2 23 (.ptr p6 0) (i64 3)=some s3]):=by kernel_rfl
theorem f32_1_T{w0:ByteArray}{p3 p4 p5 p6:Nat}{st s1 s2 s3:St}{n14:Int}(h1:lenA E0 9 (str w0)=some (i64 n14))(h2:binA E0 .gtr 3 (i64 n14) (i64 65536)=some TT)(h3:storeA E0 st 37 (.ptr p4 0) .nils=some s1)(h4:storeA E0 s1 3 (.ptr p5 0) (i64 0)=some s2)(h5:storeA E0 s2 23 (.ptr p6 0) (i64 3)=some s3){T:Tm}(hT:f32L1 T (str w0) (.ptr p3 0) (.ptr p4 0) (.ptr p5 0) (.ptr p6 0)):AW Tryz.prog (f32P 1) (fun ex T' st'=>ex= .ret∧f32L2 T' (.ptr p4 0) (.ptr p5 0) (.ptr p6 0)∧st'=s3) T st:=by
  obtain ⟨hn,g0,g3,g4,g5,g6⟩:=hT
  exact (gen_run (G:=fun T=>([T.get 4,T.get 5,T.get 6]:List AV)) hE (f32_1_T_e w0 p3 p4 p5 p6 st s1 s2 s3 n14) (Ob.ok_cons.2 ⟨h1,(Ob.ok_cons.2 ⟨h2,(Ob.ok_cons.2 ⟨h3,(Ob.ok_cons.2 ⟨h4,(Ob.ok_cons.2 ⟨h5,Ob.ok_nil⟩)⟩)⟩)⟩)⟩) hn (conz g0 (conz g3 (conz g4 (conz g5 (one g6)))))).mono fun ex T' st' ⟨q1,q2,q3,q4⟩=>by simp only [List.cons.injEq,and_true] at q3;exact ⟨q1,⟨q2,q3⟩,q4⟩
theorem f32_1_F_e(w0:ByteArray)(p3 p4 p5 p6:Nat)(st:St)(n14:Int):((evS Tryz.prog E0 noOv noS 100000 [5000,7014,7015] (f32P 1) ⟨44,[(0,(str w0)),(3,(.ptr p3 0)),(4,(.ptr p4 0)),(5,(.ptr p5 0)),(6,(.ptr p6 0))],[]⟩ st [.av (i64 n14),.av FF]).map fun q=>(q.1,q.2.1.n,([q.2.1.get 0,q.2.1.get 3,q.2.1.get 4,q.2.1.get 5,q.2.1.get 6]:List AV),q.2.2.1,q.2.2.2.2))=some (.normal,44,[(str w0),(.ptr p3 0),(.ptr p4 0),(.ptr p5 0),(.ptr p6 0)],st,[lenA E0 9 (str w0)=some (i64 n14),binA E0 .gtr 3 (i64 n14) (i64 65536)=some FF]):=by kernel_rfl
theorem f32_1_F{w0:ByteArray}{p3 p4 p5 p6:Nat}{st:St}{n14:Int}(h1:lenA E0 9 (str w0)=some (i64 n14))(h2:binA E0 .gtr 3 (i64 n14) (i64 65536)=some FF){T:Tm}(hT:f32L1 T (str w0) (.ptr p3 0) (.ptr p4 0) (.ptr p5 0) (.ptr p6 0)):AW Tryz.prog (f32P 1) (fun ex T' st'=>ex= .normal∧f32L1 T' (str w0) (.ptr p3 0) (.ptr p4 0) (.ptr p5 0) (.ptr p6 0)∧st'=st) T st:=by
  obtain ⟨hn,g0,g3,g4,g5,g6⟩:=hT
  exact (gen_run (G:=fun T=>([T.get 0,T.get 3,T.get 4,T.get 5,T.get 6]:List AV)) hE (f32_1_F_e w0 p3 p4 p5 p6 st n14) (Ob.ok_cons.2 ⟨h1,(Ob.ok_cons.2 ⟨h2,Ob.ok_nil⟩)⟩) hn (conz g0 (conz g3 (conz g4 (conz g5 (one g6)))))).mono fun ex T' st' ⟨q1,q2,q3,q4⟩=>by simp only [List.cons.injEq,and_true] at q3;exact ⟨q1,⟨q2,q3⟩,q4⟩
def f32L3(T:Tm)(a0 a3 a4 a5 a6 a7:AV):Prop:=T.n=44∧T.get 0=a0∧T.get 3=a3∧T.get 4=a4∧T.get 5=a5∧T.get 6=a6∧T.get 7=a7
theorem f32_2_e(w0:ByteArray)(p3 p4 p5 p6 a7:Nat)(st s1:St):((evS Tryz.prog E0 noOv noS 100000 [2007] (f32P 2) ⟨44,[(0,(str w0)),(3,(.ptr p3 0)),(4,(.ptr p4 0)),(5,(.ptr p5 0)),(6,(.ptr p6 0))],[]⟩ st [.eff (.ptr a7 0) (fun _=>s1)]).map fun q=>(q.1,q.2.1.n,([q.2.1.get 0,q.2.1.get 3,q.2.1.get 4,q.2.1.get 5,q.2.1.get 6,q.2.1.get 7]:List AV),q.2.2.1,q.2.2.2.2))=some (.normal,44,[(str w0),(.ptr p3 0),(.ptr p4 0),(.ptr p5 0),(.ptr p6 0),(.ptr a7 0)],s1,[allocA E0 st 37=some ((.ptr a7 0),s1)]):=by kernel_rfl
theorem f32_2{w0:ByteArray}{p3 p4 p5 p6 a7:Nat}{st s1:St}(h1:allocA E0 st 37=some ((.ptr a7 0),s1)){T:Tm}(hT:f32L1 T (str w0) (.ptr p3 0) (.ptr p4 0) (.ptr p5 0) (.ptr p6 0)):AW Tryz.prog (f32P 2) (fun ex T' st'=>ex= .normal∧f32L3 T' (str w0) (.ptr p3 0) (.ptr p4 0) (.ptr p5 0) (.ptr p6 0) (.ptr a7 0)∧st'=s1) T st:=by
  obtain ⟨hn,g0,g3,g4,g5,g6⟩:=hT
  exact (gen_run (G:=fun T=>([T.get 0,T.get 3,T.get 4,T.get 5,T.get 6,T.get 7]:List AV)) hE (f32_2_e w0 p3 p4 p5 p6 a7 st s1) (Ob.ok_cons.2 ⟨h1,Ob.ok_nil⟩) hn (conz g0 (conz g3 (conz g4 (conz g5 (one g6)))))).mono fun ex T' st' ⟨q1,q2,q3,q4⟩=>by simp only [List.cons.injEq,and_true] at q3;exact ⟨q1,⟨q2,q3⟩,q4⟩
def f32L4(T:Tm)(a3 a4 a5 a6 a7 a17:AV):Prop:=T.n=44∧T.get 3=a3∧T.get 4=a4∧T.get 5=a5∧T.get 6=a6∧T.get 7=a7∧T.get 17=a17
theorem f32_3_e(w0:ByteArray)(p3 p4 p5 p6 p7 p:Nat)(st s1:St):((evS Tryz.prog E0 noOv noS 100000 [6044] (f32P 3) ⟨44,[(0,(str w0)),(3,(.ptr p3 0)),(4,(.ptr p4 0)),(5,(.ptr p5 0)),(6,(.ptr p6 0)),(7,(.ptr p7 0))],[]⟩ st [.eff (.fn (.func 67) [] [(.ptr p 0)]) (fun _=>s1)]).map fun q=>(q.1,q.2.1.n,([q.2.1.get 3,q.2.1.get 4,q.2.1.get 5,q.2.1.get 6,q.2.1.get 7,q.2.1.get 17]:List AV),q.2.2.1,q.2.2.2.2))=some (.normal,44,[(.ptr p3 0),(.ptr p4 0),(.ptr p5 0),(.ptr p6 0),(.ptr p7 0),(.fn (.func 67) [] [(.ptr p 0)])],s1,[obC 44 [(str w0)] st (.fn (.func 67) [] [(.ptr p 0)]) s1]):=by kernel_rfl
theorem f32_3{w0:ByteArray}{p3 p4 p5 p6 p7 p:Nat}{st s1:St}(h1:obC 44 [(str w0)] st (.fn (.func 67) [] [(.ptr p 0)]) s1){T:Tm}(hT:f32L3 T (str w0) (.ptr p3 0) (.ptr p4 0) (.ptr p5 0) (.ptr p6 0) (.ptr p7 0)):AW Tryz.prog (f32P 3) (fun ex T' st'=>ex= .normal∧f32L4 T' (.ptr p3 0) (.ptr p4 0) (.ptr p5 0) (.ptr p6 0) (.ptr p7 0) (.fn (.func 67) [] [(.ptr p 0)])∧st'=s1) T st:=by
  obtain ⟨hn,g0,g3,g4,g5,g6,g7⟩:=hT
  exact (gen_run (G:=fun T=>([T.get 3,T.get 4,T.get 5,T.get 6,T.get 7,T.get 17]:List AV)) hE (f32_3_e w0 p3 p4 p5 p6 p7 p st s1) (Ob.ok_cons.2 ⟨h1,Ob.ok_nil⟩) hn (conz g0 (conz g3 (conz g4 (conz g5 (conz g6 (one g7))))))).mono fun ex T' st' ⟨q1,q2,q3,q4⟩=>by simp only [List.cons.injEq,and_true] at q3;exact ⟨q1,⟨q2,q3⟩,q4⟩
def f32L5(T:Tm)(a3 a4 a5 a6 a7 a18:AV):Prop:=T.n=44∧T.get 3=a3∧T.get 4=a4∧T.get 5=a5∧T.get 6=a6∧T.get 7=a7∧T.get 18=a18
def f32L6(T:Tm)(a3 a4 a5 a6 a7 a8:AV):Prop:=T.n=44∧T.get 3=a3∧T.get 4=a4∧T.get 5=a5∧T.get 6=a6∧T.get 7=a7∧T.get 8=a8
theorem f32_4_e(p3 p4 p5 p6 p7:Nat)(ln:ByteArray)(st:St):((evR Tryz.prog E0 noOv noS 100000 [] (f32P 4) ⟨44,[(3,(.ptr p3 0)),(4,(.ptr p4 0)),(5,(.ptr p5 0)),(6,(.ptr p6 0)),(7,(.ptr p7 0)),(18,(str ln))],[]⟩ st []).map fun q=>(q.1,q.2.1.n,([q.2.1.get 3,q.2.1.get 4,q.2.1.get 5,q.2.1.get 6,q.2.1.get 7,q.2.1.get 8]:List AV),q.2.2.1,q.2.2.2.2))=some (.normal,44,[(.ptr p3 0),(.ptr p4 0),(.ptr p5 0),(.ptr p6 0),(.ptr p7 0),(str ln)],st,[]):=by kernel_rfl
theorem f32_4{p3 p4 p5 p6 p7:Nat}{ln:ByteArray}{st:St}{T:Tm}{ro:Option Nat}(hT:f32L5 T (.ptr p3 0) (.ptr p4 0) (.ptr p5 0) (.ptr p6 0) (.ptr p7 0) (str ln)):AWR ro Tryz.prog (f32P 4) (fun ex T' st'=>ex= .normal∧f32L6 T' (.ptr p3 0) (.ptr p4 0) (.ptr p5 0) (.ptr p6 0) (.ptr p7 0) (str ln)∧st'=st) T st:=by
  obtain ⟨hn,g3,g4,g5,g6,g7,g18⟩:=hT
  exact (gen_runR (G:=fun T=>([T.get 3,T.get 4,T.get 5,T.get 6,T.get 7,T.get 8]:List AV)) hE (f32_4_e p3 p4 p5 p6 p7 ln st) Ob.ok_nil hn (conz g3 (conz g4 (conz g5 (conz g6 (conz g7 (one g18))))))).mono fun ex T' st' ⟨q1,q2,q3,q4⟩=>by simp only [List.cons.injEq,and_true] at q3;exact ⟨q1,⟨q2,q3⟩,q4⟩
def f32L7(T:Tm):Prop:=T.n=44
theorem f32_5_TT_e(p3 p4 p5 p6 p7 a11:Nat)(ln w21a:ByteArray)(st s1 s2 s3 s4 s5 s6 s7:St)(v27a v39 v40 v41 v42:AV):((evR Tryz.prog E0 noOv noS 100000 [2011,2025,2039,2040,2041,2042,5000,6033,6045,7037,7038,8000] (f32P 5) ⟨44,[(3,(.ptr p3 0)),(4,(.ptr p4 0)),(5,(.ptr p5 0)),(6,(.ptr p6 0)),(7,(.ptr p7 0)),(8,(str ln))],[]⟩ st [.eff (.tup [(str w21a),TT]) (fun _=>s1),.eff (.fn (.func 33) [] []) id,.eff (.tup [v27a,TT]) (fun _=>s2),.eff (.ptr a11 0) (fun _=>s3),.eff .undef (fun _=>s4),.eff v39 id,.eff v40 id,.eff v41 (fun _=>s5),.eff v42 (fun _=>s6),.eff .undef (fun _=>s7)]).map fun q=>(q.1,q.2.1.n,([]:List AV),q.2.2.1,q.2.2.2.2))=some (.normal,44,[],s7,[obC 45 [(str ln),(str ⟨#[10]⟩)] st (.tup [(str w21a),TT]) s1,loadA E0 s1 78 (.ptr p3 0)=some (.fn (.func 33) [] [])∧s1=s1,obC 33 [(str w21a)] s1 (.tup [v27a,TT]) s2,allocA E0 s2 70=some ((.ptr a11 0),s3),storeA E0 s3 70 (.ptr a11 0) v27a=some s4,loadA E0 s4 37 (.ptr p7 0)=some v39∧s4=s4,loadA E0 s4 70 (.ptr a11 0)=some v40∧s4=s4,buildSliceA E0 s4 37 1 [(0,v40)]=some (v41,s5),appendA E0 s5 37 37 v39 v41=some (v42,s6),storeA E0 s6 37 (.ptr p7 0) v42=some s7]):=by kernel_rfl
theorem f32_5_TT{p3 p4 p5 p6 p7 a11:Nat}{ln w21a:ByteArray}{st s1 s2 s3 s4 s5 s6 s7:St}{v27a v39 v40 v41 v42:AV}(h1:obC 45 [(str ln),(str ⟨#[10]⟩)] st (.tup [(str w21a),TT]) s1)(h2:loadA E0 s1 78 (.ptr p3 0)=some (.fn (.func 33) [] []))(h3:obC 33 [(str w21a)] s1 (.tup [v27a,TT]) s2)(h4:allocA E0 s2 70=some ((.ptr a11 0),s3))(h5:storeA E0 s3 70 (.ptr a11 0) v27a=some s4)(h6:loadA E0 s4 37 (.ptr p7 0)=some v39)(h7:loadA E0 s4 70 (.ptr a11 0)=some v40)(h8:buildSliceA E0 s4 37 1 [(0,v40)]=some (v41,s5))(h9:appendA E0 s5 37 37 v39 v41=some (v42,s6))(h10:storeA E0 s6 37 (.ptr p7 0) v42=some s7){T:Tm}{ro:Option Nat}(hT:f32L6 T (.ptr p3 0) (.ptr p4 0) (.ptr p5 0) (.ptr p6 0) (.ptr p7 0) (str ln)):AWR ro Tryz.prog (f32P 5) (fun ex T' st'=>ex= .normal∧f32L7 T'∧st'=s7) T st:=by
  obtain ⟨hn,g3,g4,g5,g6,g7,g8⟩:=hT
  exact (gen_runR (G:=fun T=>([]:List AV)) hE (f32_5_TT_e p3 p4 p5 p6 p7 a11 ln w21a st s1 s2 s3 s4 s5 s6 s7 v27a v39 v40 v41 v42) (Ob.ok_cons.2 ⟨h1,(Ob.ok_cons.2 ⟨⟨h2,rfl⟩,(Ob.ok_cons.2 ⟨h3,(Ob.ok_cons.2 ⟨h4,(Ob.ok_cons.2 ⟨h5,(Ob.ok_cons.2 ⟨⟨h6,rfl⟩,(Ob.ok_cons.2 ⟨⟨h7,rfl⟩,(Ob.ok_cons.2 ⟨h8,(Ob.ok_cons.2 ⟨h9,(Ob.ok_cons.2 ⟨h10,Ob.ok_nil⟩)⟩)⟩)⟩)⟩)⟩)⟩)⟩)⟩)⟩) hn (conz g3 (conz g4 (conz g5 (conz g6 (conz g7 (one g8))))))).mono fun ex T' st' ⟨q1,q2,q3,q4⟩=>by exact ⟨q1,q2,q4⟩
theorem f32_5_TF_e(p3 p4 p5 p6 p7 a11:Nat)(ln w21a:ByteArray)(st s1 s2 s3 s4 s5 s6 s7:St)(v27a v36:AV)(n37 n38:Int):((evR Tryz.prog E0 noOv noS 100000 [2011,2025,2039,2040,2041,2042,5000,6033,6045,7037,7038,8000] (f32P 5) ⟨44,[(3,(.ptr p3 0)),(4,(.ptr p4 0)),(5,(.ptr p5 0)),(6,(.ptr p6 0)),(7,(.ptr p7 0)),(8,(str ln))],[]⟩ st [.eff (.tup [(str w21a),TT]) (fun _=>s1),.eff (.fn (.func 33) [] []) id,.eff (.tup [v27a,FF]) (fun _=>s2),.eff (.ptr a11 0) (fun _=>s3),.eff .undef (fun _=>s4),.eff v36 id,.eff (i64 n37) id,.eff (i64 n38) id,.eff (.tup []) (fun _=>s5),.eff (.tup []) (fun _=>s6),.eff (.tup []) (fun _=>s7)]).map fun q=>(q.1,q.2.1.n,([]:List AV),q.2.2.1,q.2.2.2.2))=some (.ret,44,[],s7,[obC 45 [(str ln),(str ⟨#[10]⟩)] st (.tup [(str w21a),TT]) s1,loadA E0 s1 78 (.ptr p3 0)=some (.fn (.func 33) [] [])∧s1=s1,obC 33 [(str w21a)] s1 (.tup [v27a,FF]) s2,allocA E0 s2 70=some ((.ptr a11 0),s3),storeA E0 s3 70 (.ptr a11 0) v27a=some s4,∀k∈ [p7],k<s4.next,[p7].contains p7=true∧loadA E0 s4 37 (.ptr p7 0)=some v36,lenA E0 37 v36=some (i64 n37),binA E0 .add 3 (i64 n37) (i64 1)=some (i64 n38),(true=true→ [p7].all (fun k=>(s4.get k).isSome)=true),storeA E0 (s4.hide [p7]) 37 (.ptr p4 0) .nils=some s5,(false=true→ [p7].all (fun k=>((s5.show s4 [p7]).get k).isSome)=true),storeA E0 (s5.show s4 [p7]) 3 (.ptr p5 0) (i64 n38)=some s6,(false=true→ [p7].all (fun k=>(s6.get k).isSome)=true),storeA E0 s6 23 (.ptr p6 0) (i64 5)=some s7]):=by kernel_rfl
theorem f32_5_TF{p3 p4 p5 p6 p7 a11:Nat}{ln w21a:ByteArray}{st s1 s2 s3 s4 s5 s6 s7:St}{v27a v36:AV}{n37 n38:Int}(h1:obC 45 [(str ln),(str ⟨#[10]⟩)] st (.tup [(str w21a),TT]) s1)(h2:loadA E0 s1 78 (.ptr p3 0)=some (.fn (.func 33) [] []))(h3:obC 33 [(str w21a)] s1 (.tup [v27a,FF]) s2)(h4:allocA E0 s2 70=some ((.ptr a11 0),s3))(h5:storeA E0 s3 70 (.ptr a11 0) v27a=some s4)(h6:∀k∈ [p7],k<s4.next)(h7:loadA E0 s4 37 (.ptr p7 0)=some v36)(h8:lenA E0 37 v36=some (i64 n37))(h9:binA E0 .add 3 (i64 n37) (i64 1)=some (i64 n38))(h10: [p7].all (fun k=>(s4.get k).isSome)=true)(h11:storeA E0 (s4.hide [p7]) 37 (.ptr p4 0) .nils=some s5)(h12:storeA E0 (s5.show s4 [p7]) 3 (.ptr p5 0) (i64 n38)=some s6)(h13:storeA E0 s6 23 (.ptr p6 0) (i64 5)=some s7){T:Tm}{ro:Option Nat}(hT:f32L6 T (.ptr p3 0) (.ptr p4 0) (.ptr p5 0) (.ptr p6 0) (.ptr p7 0) (str ln)):AWR ro Tryz.prog (f32P 5) (fun ex T' st'=>ex= .ret∧f32L7 T'∧st'=s7) T st:=by
  obtain ⟨hn,g3,g4,g5,g6,g7,g8⟩:=hT
  exact (gen_runR (G:=fun T=>([]:List AV)) hE (f32_5_TF_e p3 p4 p5 p6 p7 a11 ln w21a st s1 s2 s3 s4 s5 s6 s7 v27a v36 n37 n38) (Ob.ok_cons.2 ⟨h1,(Ob.ok_cons.2 ⟨⟨h2,rfl⟩,(Ob.ok_cons.2 ⟨h3,(Ob.ok_cons.2 ⟨h4,(Ob.ok_cons.2 ⟨h5,(Ob.ok_cons.2 ⟨h6,(Ob.ok_cons.2 ⟨⟨by simp,h7⟩,(Ob.ok_cons.2 ⟨h8,(Ob.ok_cons.2 ⟨h9,(Ob.ok_cons.2 ⟨(fun _=>h10),(Ob.ok_cons.2 ⟨h11,(Ob.ok_cons.2 ⟨(fun h=>by cases h),(Ob.ok_cons.2 ⟨h12,(Ob.ok_cons.2 ⟨(fun h=>by cases h),(Ob.ok_cons.2 ⟨h13,Ob.ok_nil⟩)⟩)⟩)⟩)⟩)⟩)⟩)⟩)⟩)⟩)⟩)⟩)⟩)⟩)⟩) hn (conz g3 (conz g4 (conz g5 (conz g6 (conz g7 (one g8))))))).mono fun ex T' st' ⟨q1,q2,q3,q4⟩=>by exact ⟨q1,q2,q4⟩
theorem f32_5_F_e(p3 p4 p5 p6 p7 a11:Nat)(ln w21a:ByteArray)(st s1 s2 s3 s4 s5 s6 s7:St)(v27a v36:AV)(b27b:Bool)(n37 n38:Int):((evR Tryz.prog E0 noOv noS 100000 [2011,2025,2039,2040,2041,2042,5000,6033,6045,7037,7038,8000] (f32P 5) ⟨44,[(3,(.ptr p3 0)),(4,(.ptr p4 0)),(5,(.ptr p5 0)),(6,(.ptr p6 0)),(7,(.ptr p7 0)),(8,(str ln))],[]⟩ st [.eff (.tup [(str w21a),FF]) (fun _=>s1),.eff (.fn (.func 33) [] []) id,.eff (.tup [v27a,(bo b27b)]) (fun _=>s2),.eff (.ptr a11 0) (fun _=>s3),.eff .undef (fun _=>s4),.eff v36 id,.eff (i64 n37) id,.eff (i64 n38) id,.eff (.tup []) (fun _=>s5),.eff (.tup []) (fun _=>s6),.eff (.tup []) (fun _=>s7)]).map fun q=>(q.1,q.2.1.n,([]:List AV),q.2.2.1,q.2.2.2.2))=some (.ret,44,[],s7,[obC 45 [(str ln),(str ⟨#[10]⟩)] st (.tup [(str w21a),FF]) s1,loadA E0 s1 78 (.ptr p3 0)=some (.fn (.func 33) [] [])∧s1=s1,obC 33 [(str w21a)] s1 (.tup [v27a,(bo b27b)]) s2,allocA E0 s2 70=some ((.ptr a11 0),s3),storeA E0 s3 70 (.ptr a11 0) v27a=some s4,∀k∈ [p7],k<s4.next,[p7].contains p7=true∧loadA E0 s4 37 (.ptr p7 0)=some v36,lenA E0 37 v36=some (i64 n37),binA E0 .add 3 (i64 n37) (i64 1)=some (i64 n38),(true=true→ [p7].all (fun k=>(s4.get k).isSome)=true),storeA E0 (s4.hide [p7]) 37 (.ptr p4 0) .nils=some s5,(false=true→ [p7].all (fun k=>((s5.show s4 [p7]).get k).isSome)=true),storeA E0 (s5.show s4 [p7]) 3 (.ptr p5 0) (i64 n38)=some s6,(false=true→ [p7].all (fun k=>(s6.get k).isSome)=true),storeA E0 s6 23 (.ptr p6 0) (i64 5)=some s7]):=by kernel_rfl
theorem f32_5_F{p3 p4 p5 p6 p7 a11:Nat}{ln w21a:ByteArray}{st s1 s2 s3 s4 s5 s6 s7:St}{v27a v36:AV}{b27b:Bool}{n37 n38:Int}(h1:obC 45 [(str ln),(str ⟨#[10]⟩)] st (.tup [(str w21a),FF]) s1)(h2:loadA E0 s1 78 (.ptr p3 0)=some (.fn (.func 33) [] []))(h3:obC 33 [(str w21a)] s1 (.tup [v27a,(bo b27b)]) s2)(h4:allocA E0 s2 70=some ((.ptr a11 0),s3))(h5:storeA E0 s3 70 (.ptr a11 0) v27a=some s4)(h6:∀k∈ [p7],k<s4.next)(h7:loadA E0 s4 37 (.ptr p7 0)=some v36)(h8:lenA E0 37 v36=some (i64 n37))(h9:binA E0 .add 3 (i64 n37) (i64 1)=some (i64 n38))(h10: [p7].all (fun k=>(s4.get k).isSome)=true)(h11:storeA E0 (s4.hide [p7]) 37 (.ptr p4 0) .nils=some s5)(h12:storeA E0 (s5.show s4 [p7]) 3 (.ptr p5 0) (i64 n38)=some s6)(h13:storeA E0 s6 23 (.ptr p6 0) (i64 5)=some s7){T:Tm}{ro:Option Nat}(hT:f32L6 T (.ptr p3 0) (.ptr p4 0) (.ptr p5 0) (.ptr p6 0) (.ptr p7 0) (str ln)):AWR ro Tryz.prog (f32P 5) (fun ex T' st'=>ex= .ret∧f32L7 T'∧st'=s7) T st:=by
  obtain ⟨hn,g3,g4,g5,g6,g7,g8⟩:=hT
  exact (gen_runR (G:=fun T=>([]:List AV)) hE (f32_5_F_e p3 p4 p5 p6 p7 a11 ln w21a st s1 s2 s3 s4 s5 s6 s7 v27a v36 b27b n37 n38) (Ob.ok_cons.2 ⟨h1,(Ob.ok_cons.2 ⟨⟨h2,rfl⟩,(Ob.ok_cons.2 ⟨h3,(Ob.ok_cons.2 ⟨h4,(Ob.ok_cons.2 ⟨h5,(Ob.ok_cons.2 ⟨h6,(Ob.ok_cons.2 ⟨⟨by simp,h7⟩,(Ob.ok_cons.2 ⟨h8,(Ob.ok_cons.2 ⟨h9,(Ob.ok_cons.2 ⟨(fun _=>h10),(Ob.ok_cons.2 ⟨h11,(Ob.ok_cons.2 ⟨(fun h=>by cases h),(Ob.ok_cons.2 ⟨h12,(Ob.ok_cons.2 ⟨(fun h=>by cases h),(Ob.ok_cons.2 ⟨h13,Ob.ok_nil⟩)⟩)⟩)⟩)⟩)⟩)⟩)⟩)⟩)⟩)⟩)⟩)⟩)⟩)⟩) hn (conz g3 (conz g4 (conz g5 (conz g6 (conz g7 (one g8))))))).mono fun ex T' st' ⟨q1,q2,q3,q4⟩=>by exact ⟨q1,q2,q4⟩
def f32L8(T:Tm)(a4 a5 a6 a7:AV):Prop:=T.n=44∧T.get 4=a4∧T.get 5=a5∧T.get 6=a6∧T.get 7=a7
theorem f32_6_e(p4 p5 p6 p7:Nat)(st s1 s2 s3:St)(v43:AV):((evG Tryz.prog E0 noOv noS 100000 [2043,5000] (f32P 6) ⟨44,[(4,(.ptr p4 0)),(5,(.ptr p5 0)),(6,(.ptr p6 0)),(7,(.ptr p7 0))],[]⟩ st [.eff v43 id,.eff .undef (fun _=>s1),.eff .undef (fun _=>s2),.eff .undef (fun _=>s3)]).map fun q=>(q.1,q.2.1.n,([q.2.1.get 4,q.2.1.get 5,q.2.1.get 6]:List AV),q.2.2.1,q.2.2.2.2))=some (.ret,44,[(.ptr p4 0),(.ptr p5 0),(.ptr p6 0)],s3,[loadA E0 st 37 (.ptr p7 0)=some v43∧st=st,storeA E0 st 37 (.ptr p4 0) v43=some s1,storeA E0 s1 3 (.ptr p5 0) (i64 0)=some s2,storeA E0 s2 23 (.ptr p6 0) (i64 0)=some s3]):=by kernel_rfl
theorem f32_6{p4 p5 p6 p7:Nat}{st s1 s2 s3:St}{v43:AV}(h1:loadA E0 st 37 (.ptr p7 0)=some v43)(h2:storeA E0 st 37 (.ptr p4 0) v43=some s1)(h3:storeA E0 s1 3 (.ptr p5 0) (i64 0)=some s2)(h4:storeA E0 s2 23 (.ptr p6 0) (i64 0)=some s3){T:Tm}{ro:Option Nat}(hT:f32L8 T (.ptr p4 0) (.ptr p5 0) (.ptr p6 0) (.ptr p7 0)):AWG ro Tryz.prog (f32P 6) (fun ex T' st'=>ex= .ret∧f32L2 T' (.ptr p4 0) (.ptr p5 0) (.ptr p6 0)∧st'=s3) T st:=by
  obtain ⟨hn,g4,g5,g6,g7⟩:=hT
  exact (gen_runG (G:=fun T=>([T.get 4,T.get 5,T.get 6]:List AV)) hE (f32_6_e p4 p5 p6 p7 st s1 s2 s3 v43) (Ob.ok_cons.2 ⟨⟨h1,rfl⟩,(Ob.ok_cons.2 ⟨h2,(Ob.ok_cons.2 ⟨h3,(Ob.ok_cons.2 ⟨h4,Ob.ok_nil⟩)⟩)⟩)⟩) hn (conz g4 (conz g5 (conz g6 (one g7))))).mono fun ex T' st' ⟨q1,q2,q3,q4⟩=>by simp only [List.cons.injEq,and_true] at q3;exact ⟨q1,⟨q2,q3⟩,q4⟩
theorem f17_e(st s1:St)(s:ByteArray)(v6a:AV)(n6b n6c:Int):evCallS Tryz.prog E0 noOv (fun _=> [6032]) 100000 17 [(str s)] st [.eff (.tup [v6a,(i64 n6b),(i64 n6c)]) (fun _=>s1)]=some ((.tup [v6a,(i64 n6b),(i64 n6c)]),s1,[],[obC 32 [(str s),(.fn (.func 33) [] [])] st (.tup [v6a,(i64 n6b),(i64 n6c)]) s1]):=by kernel_rfl
theorem f17{st s1:St}{s:ByteArray}{v6a:AV}{n6b n6c:Int}(h1:obC 32 [(str s),(.fn (.func 33) [] [])] st (.tup [v6a,(i64 n6b),(i64 n6c)]) s1):obC 17 [(str s)] st (.tup [v6a,(i64 n6b),(i64 n6c)]) s1:=ACalls.run hE noOv_ok (f17_e st s1 s v6a n6b n6c) (Ob.ok_cons.2 ⟨h1,Ob.ok_nil⟩)
end
section
set_option maxRecDepth 8000
/-! ### parsed, for rows (the texts for events, turned) -/
theorem k44:(E0.ty 37).map (fun i=>isAggD i.desc)=some false:=by kernel_rfl
theorem k52r:(E0.ty 78).map (fun i=>isAggD i.desc)=some false:=by kernel_rfl
theorem z44:tySize E0 37=some 1:=by kernel_rfl
theorem el44:ElT 37 70 6:=⟨elT_of (by kernel_rfl),by kernel_rfl,fun st x=>by
  have:(E0.ty 37).map (·.desc)=some (.slice 70):=by kernel_rfl
  obtain ⟨i,h1,h2⟩:=Option.map_eq_some_iff.1 this
  simp only [srcA,h1,h2],fun a b c n f=>by
  have:(E0.ty 37).map (·.desc)=some (.slice 70):=by kernel_rfl
  obtain ⟨i,h1,h2⟩:=Option.map_eq_some_iff.1 this
  simp only [lenA,h1,h2],by kernel_rfl⟩
theorem bs44(st:St)(a b c d e f:AV):buildSliceA E0 st 37 1 [(0,.agg [a,b,c,d,e,f])]=some (.sl st.next 6 0 1 true,st.push (.row [a,b,c,d,e,f] 70)):=by kernel_rfl
structure PJr (st0 st:St) (c:Ce) (p:Nat) (s:List UInt8) (L:AV) (n:Nat) (cells:List AV):Prop where
  rest:Rest st0 st []
  r3:st.get c.p3=some (.row [.fn (.func 33) [] []] 78)
  r4:∃v,st.get c.p4=some (.row [v] 37)
  r5:∃v,st.get c.p5=some (.row [v] 3)
  r6:∃v,st.get c.p6=some (.row [v] 23)
  r7:st.get c.p7=some (.row [L] 37)
  rp:st.get p=some (.row [sb s] 9)
  ls:Ls st 70 6 L n cells
  n4:st0.next≤c.p4
  n5:st0.next≤c.p5
  n6:st0.next≤c.p6
  n7:st0.next≤c.p7
  np:st0.next≤p
  fr:∀j∈fid L,st0.next≤j
  ne:c.p4≠c.p7
theorem PJr.keep{st0 st st':St}{c:Ce}{p:Nat}{s:List UInt8}{L:AV}{n:Nat}{cells:List AV}(h:PJr st0 st c p s L n cells)(hr:Rest st st' [])(hw0:st0.wf):PJr st0 st' c p s L n cells:=by
  have k:∀{i o},st.get i=some o→st'.get i=some o:=fun {i o} hg=>hr.keep i o (by simp) hg
  obtain ⟨v4,h4⟩:=h.r4
  obtain ⟨v5,h5⟩:=h.r5
  obtain ⟨v6,h6⟩:=h.r6
  exact ⟨h.rest.trans hr,k h.r3,⟨v4,k h4⟩,⟨v5,k h5⟩,⟨v6,k h6⟩,k h.r7,k h.rp,h.ls.rest hr (fun i _=>by simp),h.n4,h.n5,h.n6,h.n7,h.np,h.fr,h.ne⟩
/-- what an event's reading comes to -/
def EvCr(st0:St)(V:List UInt8→List AV→St→Prop)(ev:List UInt8→Bool)(b:List UInt8):Prop:=
  ∀σ,Rest st0 σ []→∃x1 x2 x3 x4 x5 x6 s',obC 33 [sb b] σ (.tup [.agg [x1,x2,x3,x4,x5,x6],bo (ev b)]) s'∧Rest σ s' []∧(ev b=true→V b [x1,x2,x3,x4,x5,x6] s')
theorem round_okr{st0 σ:St}{c:Ce}{p:Nat}{s0 s:List UInt8}{L:AV}{n:Nat}{cells:List AV}{V:List UInt8→List AV→St→Prop}{ev:List UInt8→Bool}(hw0:st0.wf)(hl0:st0.lock= [])(hJ:PJr st0 σ c p s L n cells)(h0:s0≠ [])(hb:s0.length≤2000000000)(hn:n≤2000000000)(hev:EvCr st0 V ev (lineOf s0).1):
    ∃bb z,(∀(T0:Tm) (yf:AV),f32L4 T0 (.ptr c.p3 0) (.ptr c.p4 0) (.ptr c.p5 0) (.ptr c.p6 0) (.ptr c.p7 0) yf→RoundA Tryz.prog 18 (f32P 4) (f32P 5) T0 (sb (lineB s0)) σ (fun b st2=>b=bb∧st2=z))∧
      ((bb=none∧(lineOf s0).2.1=true∧ev (lineOf s0).1=true∧∃L' cs,PJr st0 z c p s L' (n+1) (cells++cs)∧cs.length=6∧(∀V':St→Prop,(∀a b,V' a→Keep5 a b→V' b)→V' σ→V' z)∧∃s',V (lineOf s0).1 cs s'∧Keep5 s' z)∨
       (bb=some .ret∧¬((lineOf s0).2.1=true∧ev (lineOf s0).1=true)∧Rest st0 z []∧z.get c.p4=some (.row [.nils] 37)∧z.get c.p5=some (.row [i64 ((n+1:Nat):Int)] 3)∧z.get c.p6=some (.row [i64 5] 23))):=by
  have hlk:σ.lock= []:=hJ.rest.lock.trans hl0
  have hcut:=line_cut σ h0 hb
  obtain ⟨x1,x2,x3,x4,x5,x6,s2,e1,e2,e3⟩:=hev σ hJ.rest
  have hJ2:=hJ.keep e2 hw0
  have hw2:=e2.wf
  have hl2:s2.lock= []:=e2.lock.trans hlk
  have hr3:=Rest.push hw2 (.row [i64 0,i64 0,i64 0,i64 0,.nils,FF] 70) []
  have hr4:=Rest.set (st:=s2.push (.row [i64 0,i64 0,i64 0,i64 0,.nils,FF] 70)) hr3.wf (id:=s2.next) (by simp) (.row [x1,x2,x3,x4,x5,x6] 70) (S:= [s2.next]) (by simp)
  have hr24:Rest s2 ((s2.push (.row [i64 0,i64 0,i64 0,i64 0,.nils,FF] 70)).set s2.next (.row [x1,x2,x3,x4,x5,x6] 70)) []:=hr3.fresh hr4 hw2 (by simp)
  have hst4:storeA E0 (s2.push (.row [i64 0,i64 0,i64 0,i64 0,.nils,FF] 70)) 70 (.ptr s2.next 0) (.agg [x1,x2,x3,x4,x5,x6])=some ((s2.push (.row [i64 0,i64 0,i64 0,i64 0,.nils,FF] 70)).set s2.next (.row [x1,x2,x3,x4,x5,x6] 70)):=
    st43 (vs:= [i64 0,i64 0,i64 0,i64 0,.nils,FF]) (by rw [St.get_push,if_pos rfl]) rfl rfl (by rw [St.lock_push,hl2];simp)
  have hg4:((s2.push (.row [i64 0,i64 0,i64 0,i64 0,.nils,FF] 70)).set s2.next (.row [x1,x2,x3,x4,x5,x6] 70)).get s2.next=some (.row [x1,x2,x3,x4,x5,x6] 70):=by rw [St.get_set,if_pos rfl]
  generalize hs4:(s2.push (.row [i64 0,i64 0,i64 0,i64 0,.nils,FF] 70)).set s2.next (.row [x1,x2,x3,x4,x5,x6] 70)=s4 at hr4 hr24 hst4 hg4
  have hJ4:=hJ2.keep hr24 hw0
  have hw4:=hr24.wf
  have hl4:s4.lock= []:=hr24.lock.trans hl2
  have hn4:s4.next=s2.next+1:=by rw [←hs4];rfl
  have hlen:lenA E0 37 L=some (i64 n):=hJ4.ls.len el44
  have hT5:∀(T0:Tm) (yf:AV),f32L4 T0 (.ptr c.p3 0) (.ptr c.p4 0) (.ptr c.p5 0) (.ptr c.p6 0) (.ptr c.p7 0) yf→∀(x:ByteArray),f32L5 (T0.put (some 18) (str x)) (.ptr c.p3 0) (.ptr c.p4 0) (.ptr c.p5 0) (.ptr c.p6 0) (.ptr c.p7 0) (str x):=fun T0 yf hT0 x=>by
    obtain ⟨q0,q3,q4,q5,q6,q7,_⟩:=hT0
    exact ⟨q0,q3,q4,q5,q6,q7,rfl⟩
  have hfit:∀(T0:Tm) (yf:AV),f32L4 T0 (.ptr c.p3 0) (.ptr c.p4 0) (.ptr c.p5 0) (.ptr c.p6 0) (.ptr c.p7 0) yf→T0.fits (some 18)=true:=fun T0 yf hT0=>by
    have:=hT0.1
    simp [Tm.fits,this]
  by_cases hok:(lineOf s0).2.1=true∧ev (lineOf s0).1=true
  · obtain ⟨k1,k2⟩:=hok
    rw [k1] at hcut
    rw [k2] at e1
    have hr5:=Rest.push hw4 (.row [x1,x2,x3,x4,x5,x6] 70) []
    have hls5:=hJ4.ls.rest hr5 (fun i _=>by simp)
    have hx:sliceCells (s4.push (.row [x1,x2,x3,x4,x5,x6] 70)) (.sl s4.next 6 0 1 true)=some (1,[x1,x2,x3,x4,x5,x6]):=by
      simp only [sliceCells,St.get_push,if_true]
      rfl
    obtain ⟨s6,a1,a2,a3,a4⟩:=app_gen el44 hls5 hr5.wf (fun i _=>by rw [hr5.lock,hl4];simp) (by omega) rfl (by decide) hx
    have hJ5:=hJ4.keep hr5 hw0
    have hne7:c.p7∉fid L:=hJ5.ls.ne hJ5.r7 (by decide)
    have h67:s6.get c.p7=some (.row [L] 37):=a3.keep _ _ hne7 hJ5.r7
    have hl6:s6.lock= []:=a3.lock.trans (by rw [St.lock_push,hl4])
    have hst7:=sto1 (w:= .sl (s4.push (.row [x1,x2,x3,x4,x5,x6] 70)).next 6 0 (n+1) false) z44 h67 (by rw [hl6];simp) rfl
    have hlt7:c.p7<s6.next:=a3.wf _ _ h67
    have hr7:=Rest.set a3.wf hlt7 (.row [.sl (s4.push (.row [x1,x2,x3,x4,x5,x6] 70)).next 6 0 (n+1) false] 37) (S:= [c.p7]) (by simp)
    generalize hL':AV.sl (s4.push (.row [x1,x2,x3,x4,x5,x6] 70)).next 6 0 (n+1) false=L' at a1 a2 hst7 hr7
    have hfL':∀j∈fid L',j=s4.next+1:=fun j hj=>by rw [←hL'] at hj;simpa [fid] using hj
    have hrest6:Rest st0 s6 []:=hJ5.rest.fresh a3 hw0 hJ.fr
    have hrest7:Rest st0 (s6.set c.p7 (.row [L'] 37)) []:=hrest6.fresh hr7 hw0 (by simpa using hJ.n7)
    have kp:∀{i:Nat} {v:List AV} {t:Nat},(s4.push (.row [x1,x2,x3,x4,x5,x6] 70)).get i=some (.row v t)→t≠70→i≠c.p7→(s6.set c.p7 (.row [L'] 37)).get i=some (.row v t):=fun {i v t} hg ht hi=>hr7.keep _ _ (by simpa using hi) (a3.keep _ _ (hJ5.ls.ne hg ht) hg)
    obtain ⟨v4,q4⟩:=hJ5.r4
    obtain ⟨v5,q5⟩:=hJ5.r5
    obtain ⟨v6,q6⟩:=hJ5.r6
    have keep46:Keep5 (s4.push (.row [x1,x2,x3,x4,x5,x6] 70)) s6:= .restS a3 fun i hi=>by
      rcases hJ5.ls with ⟨_,_,rfl⟩|⟨_,id,f,rfl,hg⟩
      · cases hi
      · simp only [fid,List.mem_singleton] at hi;subst hi;exact ⟨_,_,hg,by decide,by decide⟩
    have keepz:Keep5 s2 (s6.set c.p7 (.row [L'] 37)):=(Keep5.rest hr24).trans ((Keep5.rest hr5).trans (keep46.trans (.set h67 (by decide) _)))
    refine ⟨none,s6.set c.p7 (.row [L'] 37),fun T0 yf hT0=>⟨hfit T0 yf hT0,fun l=>(f32_4 (hT5 T0 yf hT0 _)).mono fun e T1 z1 ⟨w1,w2,w3⟩=>⟨w1,?_⟩⟩,.inl ⟨rfl,k1,k2,L',[x1,x2,x3,x4,x5,x6],⟨hrest7,kp hJ5.r3 (by decide) (row_ne hJ5.r3 hJ5.r7 (by decide)),⟨v4,kp q4 (by decide) hJ.ne⟩,⟨v5,kp q5 (by decide) (row_ne q5 hJ5.r7 (by decide))⟩,⟨v6,kp q6 (by decide) (row_ne q6 hJ5.r7 (by decide))⟩,by rw [St.get_set,if_pos rfl],kp hJ5.rp (by decide) (row_ne hJ5.rp hJ5.r7 (by decide)),?_,hJ.n4,hJ.n5,hJ.n6,hJ.n7,hJ.np,fun j hj=> ?_,hJ.ne⟩,rfl,fun V' hV hv=>hV _ _ hv ((Keep5.rest e2).trans keepz),s2,e3 k2,keepz⟩⟩
    · subst w3
      refine (f32_5_TT hcut (ld1 k52r hJ.r3) e1 (al43 s2) hst4 (ld1 k44 hJ4.r7) (ld43 hg4 rfl) (bs44 s4 x1 x2 x3 x4 x5 x6) a1 hst7 w2).mono fun e2' T2 z2 ⟨y1,y2,y3⟩=> ?_
      subst y1
      exact ⟨rfl,y3⟩
    · exact a2.rest hr7 fun i hi hi7=>by
        have e1:=hfL' i hi
        simp only [List.mem_singleton] at hi7
        subst hi7
        have:=hw4 _ _ hJ4.r7
        omega
    · have e1:=hfL' j hj
      have:=hJ4.rest.next
      omega
  · -- the row of stores at an error
    have hlt7:c.p7<s4.next:=hw4 _ _ hJ4.r7
    obtain ⟨v4,q4⟩:=hJ4.r4
    obtain ⟨v5,q5⟩:=hJ4.r5
    obtain ⟨v6,q6⟩:=hJ4.r6
    have hs5:storeA E0 (s4.hide [c.p7]) 37 (.ptr c.p4 0) .nils=some ((s4.hide [c.p7]).set c.p4 (.row [.nils] 37)):=sto1 (v:=v4) z44 q4 (by
      show c.p4∉ [c.p7]++s4.lock
      rw [hl4];simpa using hJ.ne) rfl
    have g5:∀i,(((s4.hide [c.p7]).set c.p4 (.row [.nils] 37)).show s4 [c.p7]).get i=if i=c.p4 then some (.row [.nils] 37) else s4.get i:=fun i=>by
      rw [St.show_get,St.get_set,St.hide_get]
      by_cases hi:i=c.p7
      · subst hi
        rw [if_pos ⟨by simp,by rw [hJ4.r7];rfl⟩,if_neg (Ne.symm hJ.ne)]
      · rw [if_neg (fun q=>hi (by simpa using q.1))]
    have n5:(((s4.hide [c.p7]).set c.p4 (.row [.nils] 37)).show s4 [c.p7]).next=s4.next:=by rw [St.show_next];rfl
    have l5:(((s4.hide [c.p7]).set c.p4 (.row [.nils] 37)).show s4 [c.p7]).lock= []:=hl4
    have gl5:(((s4.hide [c.p7]).set c.p4 (.row [.nils] 37)).show s4 [c.p7]).gl=s4.gl:=by rw [St.show_gl];rfl
    generalize hS:((s4.hide [c.p7]).set c.p4 (.row [.nils] 37)).show s4 [c.p7]=S at g5 n5 l5 gl5
    have wS:S.wf:=fun i o hg=>by
      rw [g5] at hg
      rw [n5]
      split at hg
      · rename_i e;subst e;exact hw4 _ _ q4
      · exact hw4 _ _ hg
    have hrS:Rest s4 S [c.p4]:=⟨fun i o hi ho=>by rw [g5,if_neg (by simpa using hi)];exact ho,by omega,l5.trans hl4.symm,gl5,wS⟩
    have p45:c.p5≠c.p4:=row_ne q5 q4 (by decide)
    have p46:c.p6≠c.p4:=row_ne q6 q4 (by decide)
    have p65:c.p6≠c.p5:=row_ne q6 q5 (by decide)
    have t5:S.get c.p5=some (.row [v5] 3):=by rw [g5,if_neg p45];exact q5
    have h6:=sto1 (w:=i64 ((n+1:Nat):Int)) z3 t5 (by rw [l5];simp) rfl
    have r6:=Rest.set wS (wS _ _ t5) (.row [i64 ((n+1:Nat):Int)] 3) (S:= [c.p5]) (by simp)
    have t6:(S.set c.p5 (.row [i64 ((n+1:Nat):Int)] 3)).get c.p6=some (.row [v6] 23):=by rw [St.get_set,if_neg p65,g5,if_neg p46];exact q6
    have h7:=sto1 (w:=i64 5) z33 t6 (by rw [St.lock_set,l5];simp) rfl
    have r7:=Rest.set r6.wf (r6.wf _ _ t6) (.row [i64 5] 23) (S:= [c.p6]) (by simp)
    have hadd:binA E0 .add 3 (i64 n) (i64 1)=some (i64 ((n+1:Nat):Int)):=add3 (a:=n) (b:=1) (by omega)
    refine ⟨some .ret,(S.set c.p5 (.row [i64 ((n+1:Nat):Int)] 3)).set c.p6 (.row [i64 5] 23),fun T0 yf hT0=>⟨hfit T0 yf hT0,fun l=>(f32_4 (hT5 T0 yf hT0 _)).mono fun e T1 z1 ⟨w1,w2,w3⟩=>⟨w1,?_⟩⟩,.inr ⟨rfl,hok,?_,?_,?_,by rw [St.get_set,if_pos rfl]⟩⟩
    · subst w3
      have h6':storeA E0 (((s4.hide [c.p7]).set c.p4 (.row [.nils] 37)).show s4 [c.p7]) 3 (.ptr c.p5 0) (i64 ((n+1:Nat):Int))=some (S.set c.p5 (.row [i64 ((n+1:Nat):Int)] 3)):=by rw [hS];exact h6
      have hall: [c.p7].all (fun k=>(s4.get k).isSome)=true:=by simp [hJ4.r7]
      cases hen:(lineOf s0).2.1 with
      |true=>
        have hev':ev (lineOf s0).1=false:=by
          cases he:ev (lineOf s0).1 with
          |false=>rfl
          |true=>exact absurd ⟨hen,he⟩ hok
        rw [hen] at hcut
        rw [hev'] at e1
        refine (f32_5_TF hcut (ld1 k52r hJ.r3) e1 (al43 s2) hst4 (fun k hk=>by simp only [List.mem_singleton] at hk;omega) (ld1 k44 hJ4.r7) hlen hadd hall hs5 h6' h7 w2).mono fun e2' T2 z2 ⟨y1,y2,y3⟩=> ?_
        subst y1
        exact ⟨rfl,y3⟩
      |false=>
        rw [hen] at hcut
        refine (f32_5_F hcut (ld1 k52r hJ.r3) e1 (al43 s2) hst4 (fun k hk=>by simp only [List.mem_singleton] at hk;omega) (ld1 k44 hJ4.r7) hlen hadd hall hs5 h6' h7 w2).mono fun e2' T2 z2 ⟨y1,y2,y3⟩=> ?_
        subst y1
        exact ⟨rfl,y3⟩
    · exact ((hJ4.rest.fresh hrS hw0 (by simpa using hJ.n4)).fresh r6 hw0 (by simpa using hJ.n5)).fresh r7 hw0 (by simpa using hJ.n6)
    · rw [St.get_set,if_neg (Ne.symm p46),St.get_set,if_neg (Ne.symm p45),g5,if_pos rfl]
    · rw [St.get_set,if_neg (Ne.symm p65),St.get_set,if_pos rfl]
def VLr(V:List UInt8→List AV→St→Prop)(z:St)(bs:List (List UInt8))(css:List (List AV)):Prop:=css.length=bs.length∧∀(i:Nat) b cs,bs[i]? =some b→css[i]? =some cs→cs.length=6∧∃s',V b cs s'∧Keep5 s' z
theorem VLr.keep{V:List UInt8→List AV→St→Prop}{z z':St}{bs:List (List UInt8)}{css:List (List AV)}(h:VLr V z bs css)(hk:Keep5 z z'):VLr V z' bs css:=
  ⟨h.1,fun i b cs h1 h2=>⟨(h.2 i b cs h1 h2).1,by obtain ⟨s',h3,h4⟩:=(h.2 i b cs h1 h2).2;exact ⟨s',h3,h4.trans hk⟩⟩⟩
theorem VLr.app{V:List UInt8→List AV→St→Prop}{z:St}{bs:List (List UInt8)}{css:List (List AV)}(h:VLr V z bs css){b:List UInt8}{cs:List AV}(hc:cs.length=6)(hv:∃s',V b cs s'∧Keep5 s' z):VLr V z (bs++ [b]) (css++ [cs]):=by
  refine ⟨by simp [h.1],fun i b' cs' h1 h2=> ?_⟩
  by_cases hi:i<bs.length
  · rw [List.getElem?_append_left hi] at h1
    rw [List.getElem?_append_left (by rw [h.1];exact hi)] at h2
    exact h.2 i _ _ h1 h2
  · have e1:i=bs.length:=by
      have:=(List.getElem?_eq_some_iff.1 h1).1
      simp at this;omega
    subst e1
    rw [List.getElem?_append_right (Nat.le_refl _),Nat.sub_self] at h1
    rw [←h.1,List.getElem?_append_right (Nat.le_refl _),Nat.sub_self] at h2
    simp only [List.getElem?_cons_zero,Option.some.injEq] at h1 h2
    subst h1;subst h2
    exact ⟨hc,hv⟩
def OutPr(st0:St)(c:Ce)(p:Nat)(V:List UInt8→List AV→St→Prop)(R:(List (List UInt8))⊕Nat)(bb:Option Code)(z:St):Prop:=match R with
  | .inl bs=>bb=none∧∃L css,PJr st0 z c p [] L bs.length css.flatten∧VLr V z bs css
  | .inr k=>bb=some .ret∧Rest st0 z []∧z.get c.p4=some (.row [.nils] 37)∧z.get c.p5=some (.row [i64 (k:Nat)] 3)∧z.get c.p6=some (.row [i64 5] 23)
theorem parsed_loopr{st0:St}{c:Ce}{p:Nat}{V:List UInt8→List AV→St→Prop}{ev:List UInt8→Bool}(hw0:st0.wf)(hl0:st0.lock= []):∀(n:Nat) (s:List UInt8) (σ:St) (L:AV) (A:List (List UInt8)) (css:List (List AV)),s.length<n→s.length≤2000000000→A.length+s.length≤2000000000→PJr st0 σ c p s L A.length css.flatten→VLr V σ A css→(∀b∈linesL n s,EvCr st0 V ev b)→
    ∃bb z,OutPr st0 c p V (parseF ev n s A) bb z∧∀(T0:Tm) (yf:AV),f32L4 T0 (.ptr c.p3 0) (.ptr c.p4 0) (.ptr c.p5 0) (.ptr c.p6 0) (.ptr c.p7 0) yf→∀(y:YK) (T:Tm),y.p=18→y.assign=f32P 4→y.body=f32P 5→TR y.gE T0 ⟨y.tmps,[]⟩→f67L0 T (.fn (.yield y.l) [] []) (.ptr p 0)→
      LoopY y Tryz.prog bodyL (fun b e _ st'=>(e= .exit 0∨e= .ret)∧b=bb∧st'=z) n none T σ:=by
  intro n
  induction n with
  |zero=>intro s σ L A css hs;omega
  |succ n ih=>
    intro s σ L A css hs hb hAs hJ hV hE0
    have hlk:σ.lock= []:=hJ.rest.lock.trans hl0
    have t9:(E0.ty 9).map (fun i=>isAggD i.desc)=some false:=k9
    have ld:=ld1 k9 hJ.rp
    cases s with
    |nil=>
      refine ⟨none,σ,⟨rfl,L,css,hJ,hV⟩,fun T0 yf hT0 y T _ _ _ _ hT=> ?_⟩
      refine AWY.seq (AWY.of ((f67_0_F ld (len_sb []) (gtrF (by decide)) hT).mono fun ex T' st' ⟨h1,h2,h3⟩=> ?_))
      subst h1;subst h3
      exact ⟨.inl rfl,rfl,rfl⟩
    |cons c0 s'=>
      generalize hs0:c0::s'=s at*
      have h0:s≠ []:=by rw [←hs0];simp
      have hlt:=lineOf_lt h0
      have hcut:=fun (yv:AV) (T:Tm) (hT:f67L0 T yv (.ptr p 0))=>lines_cut hJ.rp hJ.rest.wf (by rw [hlk];simp) h0 hb hT
      have hps:p<σ.next:=hJ.rest.wf _ _ hJ.rp
      have hrc:=Rest.set hJ.rest.wf hps (.row [sb (lineOf s).2.2] 9) (S:= [p]) (by simp)
      have hk5:Keep5 σ (σ.set p (.row [sb (lineOf s).2.2] 9)):= .set hJ.rp (by decide) _
      have kp:∀{i:Nat} {v:List AV} {t:Nat},σ.get i=some (.row v t)→t≠9→(σ.set p (.row [sb (lineOf s).2.2] 9)).get i=some (.row v t):=fun {i v t} hg ht=>hrc.keep _ _ (by simpa using row_ne hg hJ.rp ht) hg
      obtain ⟨v4,q4⟩:=hJ.r4
      obtain ⟨v5,q5⟩:=hJ.r5
      obtain ⟨v6,q6⟩:=hJ.r6
      have hJ1:PJr st0 (σ.set p (.row [sb (lineOf s).2.2] 9)) c p (lineOf s).2.2 L A.length css.flatten:=
        ⟨hJ.rest.fresh hrc hw0 (by simpa using hJ.np),kp hJ.r3 (by decide),⟨v4,kp q4 (by decide)⟩,⟨v5,kp q5 (by decide)⟩,⟨v6,kp q6 (by decide)⟩,kp hJ.r7 (by decide),by rw [St.get_set,if_pos rfl],hJ.ls.rest hrc (fun i hi=>by
          simp only [List.mem_singleton]
          rintro rfl
          exact hJ.ls.ne hJ.rp (by decide) hi),hJ.n4,hJ.n5,hJ.n6,hJ.n7,hJ.np,hJ.fr,hJ.ne⟩
      have hev:EvCr st0 V ev (lineOf s).1:=hE0 _ (by rw [←hs0];simp [linesL])
      obtain ⟨bb1,z1,hR,hcase⟩:=round_okr hw0 hl0 hJ1 h0 hb (by omega) hev
      have turn:∀(T0:Tm) (yf:AV),f32L4 T0 (.ptr c.p3 0) (.ptr c.p4 0) (.ptr c.p5 0) (.ptr c.p6 0) (.ptr c.p7 0) yf→∀(y:YK) (T:Tm),y.p=18→y.assign=f32P 4→y.body=f32P 5→TR y.gE T0 ⟨y.tmps,[]⟩→f67L0 T (.fn (.yield y.l) [] []) (.ptr p 0)→∀(Q:Option Code→Exit→Tm→St→Prop),(∀T',bb1.isSome=false→f67L0 T' (.fn (.yield y.l) [] []) (.ptr p 0)→Q bb1 .normal T' z1)→(∀T',bb1.isSome=true→Q bb1 .ret T' z1)→AWY y Tryz.prog none bodyL Q T σ:=by
        intro T0 yf hT0 y T y1 y2 y3 hTR hT Q hQ1 hQ2
        refine AWY.go (f67_0_T ld (len_sb s) (gtrT (by have:=List.length_pos_iff.2 h0;omega)) hT) fun T1 p1=> ?_
        refine AWY.block (AWY.go (f67_1 p1) fun T2 p2=>AWY.go (hcut _ _ p2) fun T3 p3=> ?_)
        refine AWY.seq ((yield6 (K:=fun b st2=>b=bb1∧st2=z1) p3 hTR (by rw [y1,y2,y3];exact hR T0 yf hT0)).mono fun b e T4 z ⟨w1,w2,w3⟩=> ?_)
        subst w1
        obtain ⟨w3,w4⟩:=w3
        subst w3;subst w4
        cases hbs:b.isSome with
        |false=>
          rw [hbs] at w2
          exact AWY.of ((f67_4_F w2).mono fun ex T' st' ⟨h1,h2,h3⟩=>by
            subst h1;subst h3
            exact hQ1 T' hbs h2)
        |true=>
          rw [hbs] at w2
          exact AWY.of ((f67_4_T w2).mono fun ex T' st' ⟨h1,h2,h3⟩=>by
            subst h1;subst h3
            exact hQ2 T' hbs)
      have e0:parseF ev (n+1) s A=if (lineOf s).2.1=true∧ev (lineOf s).1=true then parseF ev n (lineOf s).2.2 (A++ [(lineOf s).1]) else .inr (A.length+1):=by rw [←hs0];rfl
      rcases hcase with ⟨rfl,k1,k2,L',cs,hJ2,hc6,hk,s2,hv2,hk2⟩|⟨rfl,k1,k2,k3,k4,k5⟩
      · have hk1:Keep5 (σ.set p (.row [sb (lineOf s).2.2] 9)) z1:=hk (fun t=>Keep5 _ t) (fun a b h k=>h.trans k) (fun i vs ty _ hg=>hg)
        obtain ⟨bb,z,h1,h2⟩:=ih (lineOf s).2.2 z1 L' (A++ [(lineOf s).1]) (css++ [cs]) (by omega) (by omega) (by simp only [List.length_append,List.length_singleton];omega) (by
          simp only [List.length_append,List.length_singleton,List.flatten_append,List.flatten_cons,List.flatten_nil,List.append_nil]
          exact hJ2) ((hV.keep (hk5.trans hk1)).app hc6 ⟨s2,hv2,hk2⟩) (fun b hb'=>hE0 b (by rw [←hs0];simp only [linesL];rw [hs0];exact List.mem_cons_of_mem _ hb'))
        refine ⟨bb,z,by rw [e0,if_pos ⟨k1,k2⟩];exact h1,fun T0 yf hT0 y T y1 y2 y3 hTR hT=> ?_⟩
        exact turn T0 yf hT0 y T y1 y2 y3 hTR hT _ (fun T' _ hT'=>h2 T0 yf hT0 y T' y1 y2 y3 hTR hT') (fun T' h=>by cases h)
      · refine ⟨some .ret,z1,by rw [e0,if_neg k1];exact ⟨rfl,k2,k3,k4,k5⟩,fun T0 yf hT0 y T y1 y2 y3 hTR hT=> ?_⟩
        exact turn T0 yf hT0 y T y1 y2 y3 hTR hT _ (fun T' h=>by cases h) (fun T' _=>⟨.inr rfl,rfl,rfl⟩)
/-! ### the function -/
theorem bx52r(st:St)(f:Nat):boxA st 78 (.fn (.func f) [] [])=some (.ptr st.next 0,st.push (.row [.fn (.func f) [] []] 78)):=by kernel_rfl
theorem al44(st:St):allocA E0 st 37=some (.ptr st.next 0,st.push (.row [.nils] 37)):=by kernel_rfl
theorem res22r{T:Tm}{z:St}{p4 p5 p6:Nat}{a b c:AV}(hT:f32L2 T (.ptr p4 0) (.ptr p5 0) (.ptr p6 0))(h4:z.get p4=some (.row [a] 37))(h5:z.get p5=some (.row [b] 3))(h6:z.get p6=some (.row [c] 23)):resA E0 T z Tryz.f32.results.toList=some [a,b,c]:=by
  obtain ⟨_,q4,q5,q6⟩:=hT
  have e:Tryz.f32.results.toList= [.cell 4 37,.cell 5 3,.cell 6 23]:=by kernel_rfl
  rw [e]
  simp only [resA,q4,q5,q6,ld1 k44 h4,ld1 k3 h5,ld1 k33 h6]
  rfl
def st4r(st:St)(f:Nat):St:=(((st.push (.row [.fn (.func f) [] []] 78)).push (.row [.nils] 37)).push (.row [i64 0] 3)).push (.row [i64 0] 23)
theorem st4_okr{st:St}(hw:st.wf)(f:Nat):Rest st (st4r st f) []∧(st4r st f).next=st.next+4∧(st4r st f).get st.next=some (.row [.fn (.func f) [] []] 78)∧(st4r st f).get (st.next+1)=some (.row [.nils] 37)∧(st4r st f).get (st.next+2)=some (.row [i64 0] 3)∧(st4r st f).get (st.next+3)=some (.row [i64 0] 23):=by
  have r1:=Rest.push hw (.row [.fn (.func f) [] []] 78) []
  have r2:=Rest.push r1.wf (.row [.nils] 37) []
  have r3:=Rest.push r2.wf (.row [i64 0] 3) []
  have r4:=Rest.push r3.wf (.row [i64 0] 23) []
  refine ⟨((r1.trans r2).trans r3).trans r4,rfl,((r2.trans r3).trans r4).keep _ _ (by simp) (get_new _ _ rfl),(r3.trans r4).keep _ _ (by simp) (get_new _ _ rfl),r4.keep _ _ (by simp) (get_new _ _ rfl),get_new _ _ rfl⟩
theorem pre22r{st:St}{f:Nat}{T:Tm}{s:ByteArray}(hT:f32L0 T (str s) (.fn (.func 33) [] []))(hf:f=33):AW Tryz.prog (f32P 0) (fun ex T' st'=>ex= .normal∧f32L1 T' (str s) (.ptr st.next 0) (.ptr (st.next+1) 0) (.ptr (st.next+2) 0) (.ptr (st.next+3) 0)∧st'=st4r st 33) T st:=by
  exact f32_0 (bx52r st 33) (al44 _) (al3 _) (al33 _) hT
theorem parsed_longr{st:St}{s:List UInt8}(hw:st.wf)(hl:st.lock= [])(hs:65536<s.length)(hb:s.length≤9000000000000000000):∃z,obC 32 [sb s,.fn (.func 33) [] []] st (.tup [.nils,i64 0,i64 3]) z∧Rest st z []:=by
  obtain ⟨r0,n0,g3,g4,g5,g6⟩:=st4_okr hw 33
  have l0:(st4r st 33).lock= []:=r0.lock.trans hl
  have h1:=sto1 (w:= .nils) z44 g4 (by rw [l0];simp) rfl
  have r1:=Rest.set r0.wf (r0.wf _ _ g4) (.row [.nils] 37) (S:= [st.next+1]) (by simp)
  have g5':((st4r st 33).set (st.next+1) (.row [.nils] 37)).get (st.next+2)=some (.row [i64 0] 3):=by rw [St.get_set,if_neg (by omega)];exact g5
  have h2:=sto1 (w:=i64 0) z3 g5' (by rw [St.lock_set,l0];simp) rfl
  have r2:=Rest.set r1.wf (r1.wf _ _ g5') (.row [i64 0] 3) (S:= [st.next+2]) (by simp)
  have g6':(((st4r st 33).set (st.next+1) (.row [.nils] 37)).set (st.next+2) (.row [i64 0] 3)).get (st.next+3)=some (.row [i64 0] 23):=by rw [St.get_set,if_neg (by omega),St.get_set,if_neg (by omega)];exact g6
  have h3:=sto1 (w:=i64 3) z33 g6' (by rw [St.lock_set,St.lock_set,l0];simp) rfl
  have r3:=Rest.set r2.wf (r2.wf _ _ g6') (.row [i64 3] 23) (S:= [st.next+3]) (by simp)
  refine ⟨_,?_,((r0.fresh r1 hw (by simp)).fresh r2 hw (by simp)).fresh r3 hw (by simp)⟩
  refine ACalls.body (E:=E0) hE Tryz.func32 f32body ?_
  refine AW.andThen (pre22r (f:=33) (s:=⟨s.toArray⟩) ⟨rfl,rfl,rfl⟩ rfl) fun T1 q1=> ?_
  refine AW.retThen (f32_1_T (len_sb s) (gtrT (by omega)) h1 h2 h3 q1) fun T2 q2=> ?_
  exact ⟨_,res22r q2 (by rw [St.get_set,if_neg (by omega),St.get_set,if_neg (by omega),St.get_set,if_pos rfl]) (by rw [St.get_set,if_neg (by omega),St.get_set,if_pos rfl]) (by rw [St.get_set,if_pos rfl]),rfl,rfl⟩
theorem parsed_okr{st:St}{s:List UInt8}{V:List UInt8→List AV→St→Prop}{ev:List UInt8→Bool}(hw:st.wf)(hl:st.lock= [])(hs:s.length≤65536)(hev:∀b∈linesL (s.length+1) s,EvCr st V ev b):
    ∃r z,obC 32 [sb s,.fn (.func 33) [] []] st r z∧Rest st z []∧match parseF ev (s.length+1) s [] with
      | .inl bs=>∃L css,r= .tup [L,i64 0,i64 0]∧Ls z 70 6 L bs.length css.flatten∧VLr V z bs css∧∀j∈fid L,st.next≤j
      | .inr k=>r= .tup [.nils,i64 (k:Nat),i64 5]:=by
  obtain ⟨r0,n0,g3,g4,g5,g6⟩:=st4_okr hw 33
  have r1:=Rest.push r0.wf (.row [.nils] 37) []
  have r2:=Rest.push r1.wf (.row [sb s] 9) []
  generalize hS1:(st4r st 33).push (.row [.nils] 37)=S1 at r1 r2
  generalize hS2:S1.push (.row [sb s] 9)=S2 at r2
  have hn1:S1.next=st.next+5:=by rw [←hS1,St.next_push,n0]
  have hr2:Rest st S2 []:=(r0.trans r1).trans r2
  have k2:∀{i o},(st4r st 33).get i=some o→S2.get i=some o:=fun {i o} hg=>(r1.trans r2).keep i o (by simp) hg
  have gp7:S2.get (st.next+4)=some (.row [.nils] 37):=r2.keep _ _ (by simp) (by rw [←hS1,St.get_push,if_pos n0.symm])
  have gp:S2.get (st.next+5)=some (.row [sb s] 9):=by rw [←hS2,St.get_push,if_pos hn1.symm]
  let c:Ce:=⟨st.next,st.next+1,st.next+2,st.next+3,st.next+4⟩
  have hJ:PJr st S2 c (st.next+5) s .nils 0 []:=⟨hr2,k2 g3,⟨_,k2 g4⟩,⟨_,k2 g5⟩,⟨_,k2 g6⟩,gp7,gp,.inl ⟨rfl,rfl,rfl⟩,by show st.next≤st.next+1;omega,by show st.next≤st.next+2;omega,by show st.next≤st.next+3;omega,by show st.next≤st.next+4;omega,by omega,(fun j hj=>by cases hj),by show st.next+1≠st.next+4;omega⟩
  obtain ⟨bb,z,hout,hLoop⟩:=parsed_loopr (V:=V) (ev:=ev) hw hl (s.length+1) s S2 .nils [] [] (by omega) (by omega) (by simp;omega) hJ ⟨rfl,fun i b cs h=>by simp at h⟩ hev
  have main:∀(r:AV) (zz:St),(∀T0:Tm,f32L4 T0 (.ptr c.p3 0) (.ptr c.p4 0) (.ptr c.p5 0) (.ptr c.p6 0) (.ptr c.p7 0) (.fn (.func 67) [] [.ptr (st.next+5) 0])→AfterA Tryz.prog E0 Tryz.f32 (fun r' s'=>r'=r∧s'=zz) 0 (f32P 6) T0 bb z)→obC 32 [sb s,.fn (.func 33) [] []] st r zz:=by
    intro r zz hfin
    refine AWZ.body Tryz.func32 f32body ?_
    refine AWZ.andThen hE (pre22r (f:=33) (s:=⟨s.toArray⟩) ⟨rfl,rfl,rfl⟩ rfl) fun T1 q1=> ?_
    refine AWZ.andThen hE (f32_1_F (len_sb s) (gtrF (by omega)) q1) fun T2 q2=> ?_
    refine AWZ.andThen hE (f32_2 (al44 _) q2) fun T3 q3=> ?_
    rw [hS1] at*
    rw [n0] at q3
    have h31:obC 44 [sb s] S1 (.fn (.func 67) [] [.ptr (st.next+5) 0]) S2:=by
      have:=f44 (bx9 S1 ⟨s.toArray⟩)
      rw [hn1,hS2] at this
      exact this
    refine AWZ.rangeA (f32_3 h31 q3) fun T4 q4=> ?_
    have hT4:T4.eval (.tmp 17)= .fn (.func 67) [] [.ptr (st.next+5) 0]:=q4.2.2.2.2.2.2
    refine rangeB hE hT4 (fnY:=Tryz.f67) (cY:= .block 0 (.loop bodyL)) (by kernel_rfl) f67body rfl fun y y1 y2 y3 hTR=> ?_
    refine AWY.block ((AWY.loopY (hLoop T4 _ q4 y _ y1 y2 y3 hTR ⟨rfl,rfl,rfl⟩)).mono fun b e T5 z5 ⟨w1,w2,w3⟩=> ?_)
    subst w2;subst w3
    rcases w1 with rfl|rfl
    · simp only [blockA,if_true]
      refine ⟨?_,hfin T4 q4⟩
      first|exact .inl rfl|exact .inl trivial
    · exact ⟨.inr rfl,hfin T4 q4⟩
  cases hp:parseF ev (s.length+1) s [] with
  |inl bs=>
    rw [hp] at hout
    obtain ⟨rfl,L,css,hJz,hV⟩:=hout
    have lz:z.lock= []:=hJz.rest.lock.trans hl
    obtain ⟨v4,q4⟩:=hJz.r4
    obtain ⟨v5,q5⟩:=hJz.r5
    obtain ⟨v6,q6⟩:=hJz.r6
    have hcL:avCells L=some [L]:=by
      rcases hJz.ls with ⟨_,_,rfl⟩|⟨_,id,f,rfl,_⟩<;>rfl
    have h1:=sto1 (w:=L) z44 q4 (by rw [lz];simp) hcL
    have a1:=Rest.set hJz.rest.wf (hJz.rest.wf _ _ q4) (.row [L] 37) (S:= [c.p4]) (by simp)
    have p54:c.p5≠c.p4:=row_ne q5 q4 (by decide)
    have p64:c.p6≠c.p4:=row_ne q6 q4 (by decide)
    have p65:c.p6≠c.p5:=row_ne q6 q5 (by decide)
    have q5':(z.set c.p4 (.row [L] 37)).get c.p5=some (.row [v5] 3):=by rw [St.get_set,if_neg p54];exact q5
    have h2:=sto1 (w:=i64 0) z3 q5' (by rw [St.lock_set,lz];simp) rfl
    have a2:=Rest.set a1.wf (a1.wf _ _ q5') (.row [i64 0] 3) (S:= [c.p5]) (by simp)
    have q6':((z.set c.p4 (.row [L] 37)).set c.p5 (.row [i64 0] 3)).get c.p6=some (.row [v6] 23):=by rw [St.get_set,if_neg p65,St.get_set,if_neg p64];exact q6
    have h3:=sto1 (w:=i64 0) z33 q6' (by rw [St.lock_set,St.lock_set,lz];simp) rfl
    have a3:=Rest.set a2.wf (a2.wf _ _ q6') (.row [i64 0] 23) (S:= [c.p6]) (by simp)
    have n4:c.p4∉fid L:=hJz.ls.ne q4 (by decide)
    have n5:c.p5∉fid L:=hJz.ls.ne q5 (by decide)
    have n6:c.p6∉fid L:=hJz.ls.ne q6 (by decide)
    refine ⟨_,_,main (.tup [L,i64 0,i64 0]) (((z.set c.p4 (.row [L] 37)).set c.p5 (.row [i64 0] 3)).set c.p6 (.row [i64 0] 23)) fun T0 hT0=> ?_,((hJz.rest.fresh a1 hw (by simpa using hJz.n4)).fresh a2 hw (by simpa using hJz.n5)).fresh a3 hw (by simpa using hJz.n6),L,css,rfl,?_,?_,hJz.fr⟩
    · obtain ⟨t0,t3,t4,t5,t6,t7,t17⟩:=hT0
      refine (f32_6 (ld1 k44 hJz.r7) h1 h2 h3 ⟨t0,t4,t5,t6,t7⟩).mono fun ex T' s' ⟨w1,w2,w3⟩=> ?_
      subst w1;subst w3
      exact ⟨_,res22r w2 (by rw [St.get_set,if_neg (Ne.symm p64),St.get_set,if_neg (Ne.symm p54),St.get_set,if_pos rfl]) (by rw [St.get_set,if_neg (Ne.symm p65),St.get_set,if_pos rfl]) (by rw [St.get_set,if_pos rfl]),rfl,rfl⟩
    · exact ((hJz.ls.rest a1 (fun i hi e=>n4 (by simp only [List.mem_singleton] at e;rw [←e];exact hi))).rest a2 (fun i hi e=>n5 (by simp only [List.mem_singleton] at e;rw [←e];exact hi))).rest a3 (fun i hi e=>n6 (by simp only [List.mem_singleton] at e;rw [←e];exact hi))
    · exact ((hV.keep (.set q4 (by decide) _)).keep (.set q5' (by decide) _)).keep (.set q6' (by decide) _)
  |inr k=>
    rw [hp] at hout
    obtain ⟨rfl,h1,h2,h3,h4⟩:=hout
    refine ⟨_,_,main (.tup [.nils,i64 (k:Nat),i64 5]) z fun T0 hT0=> ?_,h1,rfl⟩
    obtain ⟨t0,t3,t4,t5,t6,t7,t17⟩:=hT0
    exact ⟨_,res22r ⟨t0,t4,t5,t6⟩ h2 h3 h4,rfl,rfl⟩
end
end Go.Proofs.YtnknfheabnogaaaGreatDoor.E
