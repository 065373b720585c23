/- WalSplits over the abstract machine: it returns true. No condition beyond those that the lemmas name. -/
import Derived.Test.YtemakfepcogeiaaDoorWc
namespace Go.Proofs.YtemakfepcogeiaaDoor.E
open Go Go.Proofs
set_option maxRecDepth 100000
theorem fn5 : ∃ x, E0.fn 5 = some x := Option.isSome_iff_exists.1 (by kernel_rfl)
theorem fn7 : ∃ x, E0.fn 7 = some x := Option.isSome_iff_exists.1 (by kernel_rfl)
theorem reg6 {T : Tm} {st : St} {R : AV → St → Prop} (hn : T.n = 86) (h : ACalls Tryd.prog 5 [T.get 5] R st) :
    AW Tryd.prog (wsC 6) (fun e T' st' => e = .normal ∧ T'.n = 86 ∧ T'.get 7 = T.get 7 ∧ R (T'.get 12) st') T st := by
  obtain ⟨x, hx⟩ := fn5
  refine AW.region (P := Tryd.prog) (E := E0) hE ?_
  simp [AOps, wantedA, evOp, pureA, Tm.eval, Tm.fits, hn, hx]
  exact h
theorem reg10 {T : Tm} {st : St} {R : AV → St → Prop} (hn : T.n = 86) (h : ACalls Tryd.prog 7 [] R st) :
    AW Tryd.prog (wsC 10) (fun e T' st' => e = .normal ∧ T'.n = 86 ∧ R (T'.get 4) st') T st := by
  obtain ⟨x, hx⟩ := fn7
  refine AW.region (P := Tryd.prog) (E := E0) hE ?_
  simp [AOps, wantedA, evOp, pureA, Tm.eval, Tm.fits, hn, hx]
  exact h
noncomputable def wsEv2 (i : Nat) (l : List (Nat × AV)) (st : St) (x : List Or) := (evS Tryd.prog E0 noOv sitesT 100000 ssM (wsC i) ⟨86, l, []⟩ st x).map fun q => (q.1, q.2.1.n, [q.2.1.get 7, q.2.1.get 12, q.2.1.get 70, q.2.1.get 71], q.2.2.1, q.2.2.2.2)
theorem wr (st : St) (p g w : Nat) : wsEv2 8 [(12, S4 g p), (7, S4 w p)] st [] = some (.normal, 86, [S4 w p, S4 g p, i64 p, i64 0], st, []) := by kernel_rfl
theorem wrN (st : St) : wsEv2 8 [(12, .nils), (7, .nils)] st [] = some (.normal, 86, [.nils, .nils, i64 0, i64 0], st, []) := by kernel_rfl
noncomputable def wsEv3 (l : List (Nat × AV)) (st : St) (x : List Or) := (evS Tryd.prog E0 noOv sitesT 100000 ssM (.loop (wsC 9)) ⟨86, l, []⟩ st x).map fun q => (q.1, q.2.1.n, ([] : List AV), q.2.2.1, q.2.2.2.2)
theorem wcN (st : St) : wsEv3 [(12, .nils), (7, .nils), (70, i64 0), (71, i64 0)] st [] = some (.exit 2, 86, [], st, []) := by kernel_rfl
theorem any_run {c : Code} {l : List (Nat × AV)} {st st1 : St} {x : List Or} {e : Exit} {n : Nat} {F : List AV} {ob : Ob} {G : Tm → List AV} (h : ((evS Tryd.prog E0 noOv sitesT 100000 ssM c ⟨86, l, []⟩ st x).map fun q => (q.1, q.2.1.n, G q.2.1, q.2.2.1, q.2.2.2.2)) = some (e, n, F, st1, ob)) (hob : ob.ok) {T : Tm} (hn : T.n = 86) (hT : ∀ p ∈ l, T.get p.1 = p.2) :
    AW Tryd.prog c (fun e' T' st' => e' = e ∧ T'.n = n ∧ G T' = F ∧ st' = st1) T st := by
  obtain ⟨⟨e1, T1, s1, x1, o1⟩, h1, h2⟩ := Option.map_eq_some_iff.1 h
  simp only [Prod.mk.injEq] at h2
  obtain ⟨rfl, h3, h4, rfl, rfl⟩ := h2
  refine (AW.run hE (ov := noOv) noOv_ok h1 hob hn hT).mono fun e' T' st' hp => ?_
  obtain ⟨rfl, rfl, rfl⟩ := hp
  exact ⟨rfl, h3, h4, rfl⟩
def rho2 (st : St) (g w i : Nat) : Nat := if i = 0 then g else if i = 1 then w else st.next + (i - 2)
theorem ren_u8 (ρ : Nat → Nat) (d : List Int) : renL ρ (d.map u8) = d.map u8 := by
  rw [renL_eq, List.map_map]
  congr 1
theorem ren_recA (ρ : Nat → Nat) (R : List (List Int)) : renL ρ (R.map recA) = R.map recA := by
  rw [renL_eq, List.map_map]
  refine List.map_congr_left fun d _ => ?_
  show ren ρ (recA d) = recA d
  simp only [recA, ren, ren_u8]
theorem ren_recW (ρ : Nat → Nat) (R : List (List Int)) : renL ρ (R.map recW) = R.map recW := by
  rw [renL_eq, List.map_map]
  refine List.map_congr_left fun d _ => ?_
  show ren ρ (recW d) = recW d
  simp only [recW, ren, ren_u8]
theorem emb2 {st : St} {g w : Nat} {R : List (List Int)} (hg : st.get g = some (.row (R.map recA) 24)) (hw : st.get w = some (.row (R.map recW) 24)) (hne : g ≠ w) (hwf : st.wf) (hl : st.lock = []) : Emb (stGW (R.map recA) (R.map recW)) st (rho2 st g w) := by
  have h0 : ∀ id', st00.get id' = none := fun id' => by cases id' <;> rfl
  have gg : ∀ i, (stGW (R.map recA) (R.map recW)).get i = if i = 1 then some (.row (R.map recW) 24) else if i = 0 then some (.row (R.map recA) 24) else none := fun i => by
    unfold stGW
    rw [St.get_push, St.get_push, h0]
    rfl
  have present : ∀ i o, (stGW (R.map recA) (R.map recW)).get i = some o → (i = 0 ∧ o = .row (R.map recA) 24) ∨ (i = 1 ∧ o = .row (R.map recW) 24) := fun i o ho => by
    rw [gg] at ho
    split at ho
    · rename_i hi; cases ho; exact .inr ⟨hi, rfl⟩
    · split at ho
      · rename_i hi; cases ho; exact .inl ⟨hi, rfl⟩
      · cases ho
  refine ⟨fun i hi => ?_, fun i hi => ?_, fun i j o o' hi hj he => ?_, fun i o ho => ?_, fun i o ho => ?_, fun i o ho => ?_, fun p hp => by cases hp⟩
  · have : 2 ≤ i := hi
    unfold rho2; rw [if_neg (by omega), if_neg (by omega)]; rfl
  · have : i < 2 := hi
    unfold rho2
    split
    · exact hwf _ _ hg
    · rw [if_pos (by omega)]; exact hwf _ _ hw
  · rcases present i o hi with ⟨rfl, _⟩ | ⟨rfl, _⟩ <;> rcases present j o' hj with ⟨rfl, _⟩ | ⟨rfl, _⟩
    · rfl
    · exact absurd he hne
    · exact absurd he.symm hne
    · rfl
  · rcases present i o ho with ⟨rfl, rfl⟩ | ⟨rfl, rfl⟩
    · rw [show rho2 st g w 0 = g from rfl, hg]; simp only [AObj.ren, ren_recA]
    · rw [show rho2 st g w 1 = w from rfl, hw]; simp only [AObj.ren, ren_recW]
  · rcases present i o ho with ⟨rfl, rfl⟩ | ⟨rfl, rfl⟩
    · exact Nat.zero_lt_two
    · exact Nat.one_lt_two
  · constructor
    · intro h; simp [stGW, st00, St.push] at h
    · intro h; rw [hl] at h; cases h
theorem strEqI_self (l : List Int) : strEqI l l = true := by
  show ((strOfNums l).toList == (strOfNums l).toList) = true
  simp
theorem map_intOf (A : List Int) : (A.map u8).map intOf = A := by
  induction A with
  | nil => rfl
  | cons a r ih => simp only [List.map_cons, ih]; rfl
theorem numsA_u8 (A : List Int) : numsA (A.map u8) = some ((A.map u8).map intOf) := by
  rw [map_intOf]
  induction A with
  | nil => rfl
  | cons a r ih =>
    show (numsA (r.map u8)).map (a :: ·) = some (a :: r)
    rw [ih]; rfl
theorem obs_ok : ∀ R : List (List Int), (obs R).ok
  | [] => Ob.ok_nil
  | d :: r => by
    have h : okC (d.map u8) d.length := ⟨trivial, numsA_u8 d, by rw [map_intOf]⟩
    unfold obs ob1
    simp only [Ob.ok_append, Ob.ok_cons, Ob.ok_nil, and_true]
    exact ⟨⟨h, h, ob_T (strEqI_self _)⟩, obs_ok r⟩
theorem cmp_loop {R : List (List Int)} (hne : R ≠ []) (h20 : R.length ≤ 20) {T : Tm} {st : St} {g w : Nat} (hg : st.get g = some (.row (R.map recA) 24)) (hw : st.get w = some (.row (R.map recW) 24)) (hgw : g ≠ w) (hl : st.lock = [])
    (hn : T.n = 86) (h7 : T.get 7 = S4 w R.length) (h12 : T.get 12 = S4 g R.length) (h70 : T.get 70 = i64 R.length) (h71 : T.get 71 = i64 0) :
    AW Tryd.prog (.loop (wsC 9)) (fun e T' st' => e = .exit 2 ∧ T'.n = 86 ∧ Same st st') T st := by
  refine AW.wf fun hwf => ?_
  obtain ⟨⟨e1, T1, s1, x1, o1⟩, h1, h2⟩ := Option.map_eq_some_iff.1 (cmp_all R hne h20)
  simp only [Prod.mk.injEq] at h2
  obtain ⟨rfl, h3, rfl, rfl⟩ := h2
  have hT : ∀ t, (⟨86, T0c R.length, []⟩ : Tm).get t = .undef ∨ T.get t = ren (rho2 st g w) ((⟨86, T0c R.length, []⟩ : Tm).get t) := fun t => by
    show look (T0c R.length) t = .undef ∨ T.get t = ren _ (look (T0c R.length) t)
    simp only [T0c, look]
    by_cases a : 7 = t
    · subst a; right; rw [if_pos rfl, h7]; rfl
    rw [if_neg a]
    by_cases b : 12 = t
    · subst b; right; rw [if_pos rfl, h12]; rfl
    rw [if_neg b]
    by_cases c : 70 = t
    · subst c; right; rw [if_pos rfl, h70]; rfl
    rw [if_neg c]
    by_cases d : 71 = t
    · subst d; right; rw [if_pos rfl, h71]; rfl
    rw [if_neg d]; exact .inl rfl
  refine (AW.same hE (ov := noOv) noOv_ok h1 (obs_ok R) (emb2 hg hw hgw hwf hl) hn hT rfl).mono fun e T' st' hp => ?_
  obtain ⟨rfl, rfl, hs⟩ := hp
  exact ⟨rfl, h3, hs⟩
theorem awake7 : isTrue (evCall E0 ovF 1000000 7 [] (stTab tabsD)) = true := by kernel_rfl
theorem emb_tab {st : St} (hgl : st.gl = (stTab tabsD).gl) : Emb (stTab tabsD) st (fun i => st.next + i) :=
  ⟨fun i _ => rfl, fun i h => by simp [stTab] at h, fun i j o o' h => by simp [stTab, St.get, Tr.get] at h, fun id o h => by simp [stTab, St.get, Tr.get] at h, fun id o h => by simp [stTab, St.get, Tr.get] at h, fun id o h => by simp [stTab, St.get, Tr.get] at h, fun p hp => ⟨by rw [hgl]; exact hp, fun a ha => by
    obtain ⟨t, _, rfl⟩ := List.mem_map.1 hp
    simp only [intsAV] at ha
    obtain ⟨z, _, rfl⟩ := List.mem_map.1 ha
    exact ⟨_, rfl⟩⟩⟩
theorem awake_ok {st : St} (hgl : st.gl = (stTab tabsD).gl) : ACalls Tryd.prog 7 [] (fun a _ => a = TT) st := by
  cases hr : evCall E0 ovF 1000000 7 [] (stTab tabsD) with
  | none => have := awake7; rw [hr] at this; cases this
  | some r =>
    have hc := (ev_ok (envOf_ok (P := Tryd.prog) rfl) ovF_ok 1000000).call 7 [] (stTab tabsD) r hr
    refine (hc.frame (emb_tab hgl)).mono fun a st' ⟨r0, s0, h0, ha, _⟩ => ?_
    have h := awake7
    rw [hr, ← h0] at h
    unfold isTrue at h
    split at h
    · rename_i heq
      cases heq
      rw [ha]; rfl
    · cases h
theorem splits_all {cu : Int} {l : AV} {len : Nat} {cells : List AV} (hl : GivenR l len cells) (hcu : 0 ≤ cu ∧ cu ≤ 65535) : ACalls Tryd.prog 3 [l, u16 cu] (fun a _ => a = TT) (stTab tabsD) := by
  refine ACalls.body (E := E0) hE Tryd.func3 body3 ?_
  have one : ∀ {P : Nat × AV → Prop} {p : Nat × AV}, P p → ∀ q ∈ [p], P q := fun h q hq => by obtain rfl := List.mem_singleton.1 hq; exact h
  have cons : ∀ {P : Nat × AV → Prop} {p : Nat × AV} {r : List (Nat × AV)}, P p → (∀ q ∈ r, P q) → ∀ q ∈ p :: r, P q := fun h h' q hq => by
    rcases List.mem_cons.1 hq with rfl | hq
    · exact h
    · exact h' q hq
  refine .seq ((AW.gl (ws_run (ws0 (u16 cu) l (stTab tabsD)) Ob.ok_nil rfl (cons rfl (one rfl)))).mono fun e T1 s1 ⟨⟨he, n1, F1, hs⟩, y1⟩ => ?_)
  subst he
  simp only [List.cons.injEq] at F1
  obtain ⟨b0, b1, _⟩ := F1
  have lk1 : s1.lock = [] := by rw [hs]; rfl
  simp only [thenA]
  refine .seq ((AW.gl (ws_run (ws1 (u16 cu) l s1) Ob.ok_nil n1 (cons b0 (one b1)))).mono fun e T2 s2 ⟨⟨he, n2, F2, hs2⟩, y2⟩ => ?_)
  subst he
  simp only [List.cons.injEq] at F2
  obtain ⟨c0, c1, c5, c6, _⟩ := F2
  simp only [thenA]
  refine .seq ((AW.gl (ws_run (ws2 (u16 cu) l s2) Ob.ok_nil n2 (cons c0 (cons c1 (cons c5 (one c6)))))).mono fun e T3 s3 ⟨⟨he, n3, F3, hs3⟩, y3⟩ => ?_)
  subst he
  simp only [List.cons.injEq] at F3
  obtain ⟨d0, d1, d5, d6, d7, _⟩ := F3
  have lk3 : s3.lock = [] := by rw [hs3, hs2]; exact lk1
  simp only [thenA]
  have head : AW Tryd.prog (wsC 3) (fun e T' st' => (e = .normal ∧ MainI (u16 cu) l len [] 0 T' st') ∧ st'.gl = s3.gl) T3 s3 := by
    rcases hl with ⟨rfl, hcl, hx⟩ | ⟨rfl, rfl⟩
    · refine (AW.gl (ws_run (ws3 (u16 cu) s3 len cells false) Ob.ok_nil n3 (cons d0 (cons d1 (cons d5 (cons d6 (one d7))))))).mono fun e T4 s4 ⟨⟨he, n4, F4, hs4⟩, y4⟩ => ?_
      simp only [List.cons.injEq, and_true] at F4
      obtain ⟨_, e1, e5, e6, e7, _, e14, e15, e16⟩ := F4
      refine ⟨⟨he, ⟨⟨n4, e1, .inl ⟨rfl, e5⟩, .inl ⟨rfl, e7⟩, .inl ⟨rfl, e6⟩, by rw [hs4]; exact lk3, fun d hd => (by cases hd), by simp⟩, e14, e15, e16, by omega, by omega, by simp⟩⟩, y4⟩
    · refine (AW.gl (ws_run (ws3N (u16 cu) s3) Ob.ok_nil n3 (cons d0 (cons d1 (cons d5 (cons d6 (one d7))))))).mono fun e T4 s4 ⟨⟨he, n4, F4, hs4⟩, y4⟩ => ?_
      simp only [List.cons.injEq, and_true] at F4
      obtain ⟨_, e1, e5, e6, e7, _, e14, e15, e16⟩ := F4
      refine ⟨⟨he, ⟨⟨n4, e1, .inl ⟨rfl, e5⟩, .inl ⟨rfl, e7⟩, .inl ⟨rfl, e6⟩, by rw [hs4]; exact lk3, fun d hd => (by cases hd), by simp⟩, e14, e15, e16, by omega, by omega, by simp⟩⟩, y4⟩
  refine .seq (.seq (head.mono fun e T4 s4 ⟨⟨he, hI⟩, y4⟩ => ?_))
  subst he
  simp only [thenA]
  refine .block ((AW.gl (main_loop hl hI)).mono fun e T5 s5 ⟨⟨he, R, hM⟩, y5⟩ => ?_)
  subst he
  simp only [blockA, if_true, thenA]
  refine .seq ((AW.gl (tail_ok hcu hM)).mono fun e T6 s6 ⟨⟨he, hTl⟩, y6⟩ => ?_)
  subst he
  simp only [thenA]
  obtain ⟨tl, hp, hb, htl⟩ := hTl.b
  have hfl := flat_len hTl.good
  have h20 := hTl.len
  have hBy : BytesR s6 (T6.get 5) (R.flatMap frameL ++ tl) := by
    rcases hb with h | ⟨hne, i, e, hg⟩
    · exact .inl h
    · exact .inr ⟨hne, i, false, e, hg⟩
  have hsp := split_ok hTl.lock hBy (by rw [List.length_append]; omega)
  rw [split_frames tl hp R hTl.good] at hsp
  refine .seq ((AW.gl (reg6 hTl.n hsp)).mono fun e T7 s7 ⟨⟨he, n7, k7, hL, hk, lk7, hx7⟩, y7⟩ => ?_)
  subst he
  simp only [thenA]
  have hgl7 : s7.gl = (stTab tabsD).gl := by rw [y7, y6, y5, y4, y3, y2, y1]
  have fin : ∀ {T : Tm} {s : St}, T.n = 86 → s.gl = (stTab tabsD).gl → AW Tryd.prog (.seq (wsC 10) .ret) (endA E0 Tryd.f3 fun a _ => a = TT) T s := fun {T s} hn hg => by
    refine .seq ((reg10 hn (awake_ok hg)).mono fun e T' s' ⟨he, hn', h4⟩ => ?_)
    subst he
    simp only [thenA]
    refine .ret ⟨[T'.get 4], rfl, ?_⟩
    simp only [oneOrTup]
    exact h4
  have hpl : ∀ w : Nat, Plain (.row (R.map recW) w) := fun w id vs => by
    simp only [frzO]
    rw [frzL_eq, List.map_map]
    congr 1
    refine List.map_congr_left fun d _ => ?_
    show frz id vs (recW d) = recW d
    simp only [recW, frz, frz_u8]
  rcases hL with ⟨rfl, h12⟩ | ⟨hne, g, h12, hg⟩
  · have h7 : T7.get 7 = .nils := by
      rw [k7]
      rcases hTl.want with ⟨_, h⟩ | ⟨hne, _⟩
      · exact h
      · exact absurd rfl hne
    refine .seq ((AW.gl (ws_run (wqN s7) (by simp only [Ob.ok_cons, Ob.ok_nil, and_true]; exact ob_F rfl) n7 (cons h12 (one h7)))).mono fun e T8 s8 ⟨⟨he, n8, F8, hs8⟩, y8⟩ => ?_)
    subst he
    simp only [List.cons.injEq] at F8
    obtain ⟨_, _, _, _, q7, q12, _⟩ := F8
    simp only [thenA]
    refine .seq (.seq ((AW.gl (any_run (G := fun T => [T.get 7, T.get 12, T.get 70, T.get 71]) (wrN s8) Ob.ok_nil n8 (cons q12 (one q7)))).mono fun e T9 s9 ⟨⟨he, n9, F9, hs9⟩, y9⟩ => ?_))
    subst he
    simp only [List.cons.injEq] at F9
    obtain ⟨r7, r12, r70, r71, _⟩ := F9
    simp only [thenA]
    refine .block ((AW.gl (any_run (G := fun _ => []) (wcN s9) Ob.ok_nil n9 (cons r12 (cons r7 (cons r70 (one r71)))))).mono fun e T10 s10 ⟨⟨he, n10, _, hs10⟩, y10⟩ => ?_)
    subst he
    simp only [blockA, if_true, thenA]
    exact fin n10 (by rw [y10, y9, y8]; exact hgl7)
  · obtain ⟨w, h7, hw⟩ : ∃ w, T7.get 7 = S4 w R.length ∧ s7.get w = some (.row (R.map recW) 24) := by
      rw [k7]
      rcases hTl.want with ⟨h, _⟩ | ⟨_, w, e, hw⟩
      · exact absurd (List.map_eq_nil_iff.1 h) hne
      · exact ⟨w, by rw [e, List.length_map], hk _ _ hw (hpl 24)⟩
    have hgw : g ≠ w := fun e => by
      rw [e, hw] at hg
      simp only [Option.some.injEq, AObj.row.injEq, and_true] at hg
      cases R with
      | nil => exact hne rfl
      | cons d r =>
        simp only [List.map_cons, List.cons.injEq, recW, recA, AV.imm.injEq] at hg
        exact absurd hg.1.2.2.1 (by decide)
    refine .seq ((AW.gl (ws_run (wq s7 R.length R.length g w) (by simp only [Ob.ok_cons, Ob.ok_nil, and_true]; exact ob_F (by rw [neN_eq]; simp)) n7 (cons h12 (one h7)))).mono fun e T8 s8 ⟨⟨he, n8, F8, hs8⟩, y8⟩ => ?_)
    subst he
    simp only [List.cons.injEq] at F8
    obtain ⟨_, _, _, _, q7, q12, _⟩ := F8
    simp only [thenA]
    refine .seq (.seq ((AW.gl (any_run (G := fun T => [T.get 7, T.get 12, T.get 70, T.get 71]) (wr s8 R.length g w) Ob.ok_nil n8 (cons q12 (one q7)))).mono fun e T9 s9 ⟨⟨he, n9, F9, hs9⟩, y9⟩ => ?_))
    subst he
    simp only [List.cons.injEq] at F9
    obtain ⟨r7, r12, r70, r71, _⟩ := F9
    simp only [thenA]
    subst hs8
    subst hs9
    refine .block ((AW.gl (cmp_loop hne h20 hg hw hgw lk7 n9 r7 r12 r70 r71)).mono fun e T10 s10 ⟨⟨he, n10, _⟩, y10⟩ => ?_)
    subst he
    simp only [blockA, if_true, thenA]
    exact fin n10 (by rw [y10]; exact hgl7)
end Go.Proofs.YtemakfepcogeiaaDoor.E
