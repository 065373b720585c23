/- Part 5 of the proof, over the abstract machine: contracts of the functions that the statement reaches, joined out of several texts. Condition: none beyond those that the lemmas name. -/
import Derived.Test.YtnknfheabnogaaaDoorP4
namespace Go.Proofs.YtnknfheabnogaaaDoor.E
open Go Go.Proofs
section
set_option maxRecDepth 100000
/-! ### wakes -/
theorem Rest.same {st : St} (hw : st.wf) {id : Nat} {o : AObj} (h : st.get id = some o) (S : List Nat) : Rest st (st.set id o) S :=
  ⟨fun i p _ hp => by
    rw [St.get_set]
    split
    · rename_i e; rw [e, h] at hp; exact hp
    · exact hp, Nat.le_refl _, rfl, rfl, set_wf hw (hw _ _ h) o⟩
theorem cv22 {st : St} {a b c n : Nat} {f : Bool} {vs : List AV} (hg : st.get a = some (.row vs 5)) (hl : st.lock = []) : convO E0 st 22 22 (.sl a b c n f) = some (.sl a b c n f, st.set a (.row vs 5)) := by
  obtain ⟨j, h2, h5⟩ : ∃ j, E0.ty 22 = some j ∧ j.desc = .slice 5 := ⟨_, rfl, rfl⟩
  obtain ⟨k, h6, h7⟩ : ∃ k, E0.ty 5 = some k ∧ k.desc = .int .u8 := ⟨_, rfl, by kernel_rfl⟩
  have hs : bytesStrA E0 st 22 22 (.sl a b c n f) = none := by
    simp only [bytesStrA, h2]
    cases sliceCells st (.sl a b c n f) with
    | none => rfl
    | some r => simp only [h5]
  have hw : st.wget a = some (.row vs 5) := St.wget_of hg (by rw [hl]; simp)
  have hA : convA E0 st 22 22 (.sl a b c n f) = some (.sl a b c n f, st.set a (.row vs 5)) := by
    unfold convA
    rw [hs]
    show (match strBytesA E0 st 22 22 (.sl a b c n f) with | some r => some r | none => sameBytesA E0 st 22 22 (.sl a b c n f)) = _
    have h0 : strBytesA E0 st 22 22 (.sl a b c n f) = none := by simp only [strBytesA, h2]
    rw [h0]
    simp only [sameBytesA, h2, h5, h6, h7, hw, if_true]
  exact hA
theorem bA1 (a : Nat) : buildA E0 38 [(0, i64 2), (1, i64 2), (3, .sl a 1 0 2 true)] = some (.agg [i64 2, i64 2, i64 0, .sl a 1 0 2 true, .nils]) := by kernel_rfl
theorem bA2 (a : Nat) : buildA E0 38 [(0, i64 8), (2, i64 3), (4, .sl a 1 0 2 true)] = some (.agg [i64 8, i64 0, i64 3, .nils, .sl a 1 0 2 true]) := by kernel_rfl
theorem bA3 : buildA E0 38 [(0, i64 5)] = some (.agg [i64 5, i64 0, i64 0, .nils, .nils]) := by kernel_rfl
theorem b36 (st : St) : buildSliceA E0 st 36 2 [(0, u16 5), (1, u16 0)] = some (.sl st.next 1 0 2 true, st.push (.row [u16 5, u16 0] 39)) := by kernel_rfl
theorem b40 (st : St) (a b : Nat) : buildSliceA E0 st 40 3 [(0, .agg [i64 2, i64 2, i64 0, .sl a 1 0 2 true, .nils]), (1, .agg [i64 8, i64 0, i64 3, .nils, .sl b 1 0 2 true]), (2, .agg [i64 5, i64 0, i64 0, .nils, .nils])] = some (.sl st.next 5 0 3 true, st.push (.row [i64 2, i64 2, i64 0, .sl a 1 0 2 true, .nils, i64 8, i64 0, i64 3, .nils, .sl b 1 0 2 true, i64 5, i64 0, i64 0, .nils, .nils] 38)) := by kernel_rfl
theorem bR1 (a : Nat) : buildA E0 43 [(0, i64 2), (4, .sl a 1 0 1 true), (5, TT)] = some (.agg [i64 2, i64 0, i64 0, i64 0, .sl a 1 0 1 true, TT]) := by kernel_rfl
theorem bR2 : buildA E0 43 [(0, i64 5), (3, i64 4)] = some (.agg [i64 5, i64 0, i64 0, i64 4, .nils, FF]) := by kernel_rfl
theorem bR3 : buildA E0 43 [(0, i64 1), (1, i64 7)] = some (.agg [i64 1, i64 7, i64 0, i64 0, .nils, FF]) := by kernel_rfl
theorem b44 (st : St) (a : Nat) : buildSliceA E0 st 44 3 [(0, .agg [i64 2, i64 0, i64 0, i64 0, .sl a 1 0 1 true, TT]), (1, .agg [i64 5, i64 0, i64 0, i64 4, .nils, FF]), (2, .agg [i64 1, i64 7, i64 0, i64 0, .nils, FF])] = some (.sl st.next 6 0 3 true, st.push (.row [i64 2, i64 0, i64 0, i64 0, .sl a 1 0 1 true, TT, i64 5, i64 0, i64 0, i64 4, .nils, FF, i64 1, i64 7, i64 0, i64 0, .nils, FF] 43)) := by kernel_rfl
theorem b5 (st : St) : buildSliceA E0 st 22 5 [(0, u8 97), (1, u8 32), (2, u8 34), (3, u8 13), (4, u8 255)] = some (.sl st.next 1 0 5 true, st.push (.row [u8 97, u8 32, u8 34, u8 13, u8 255] 5)) := by kernel_rfl
theorem ix40 (a n : Nat) (f : Bool) : indexAddrA E0 40 (.sl a 5 0 2 f) (i64 0) = some (.ptr a 0) := by kernel_rfl
theorem fa38 (a : Nat) : fieldAddrA E0 38 (.ptr a 0) 2 = some (.ptr a 2) := by kernel_rfl
theorem ln40 (a b c n : Nat) (f : Bool) : lenA E0 40 (.sl a b c n f) = some (i64 n) := el40.ln ..
theorem wakes_ok {st : St} (hgl : Tabs st) (hw : st.wf) (hl : st.lock = []) : ∃ z, obC 9 [] st TT z ∧ Rest st z [] := by
  obtain ⟨s1, r1, h1, k1, m1⟩ := unquote_ok (st := st) (s := [34, 97, 34, 120]) hw hl (by decide)
  rw [show unqP [34, 97, 34, 120] = some ([97], [120]) from by decide] at m1
  obtain ⟨v1, rfl, o1, f1⟩ := m1
  have l1 := k1.lock.trans hl
  obtain ⟨s2, r2, h2, k2, m2⟩ := unquote_ok (st := s1) (s := [34, 92, 120, 54, 49, 34]) k1.wf l1 (by decide)
  rw [show unqP [34, 92, 120, 54, 49, 34] = none from by decide] at m2
  subst m2
  have k3 := Rest.push k2.wf (.row [u8 104, u8 105] 5) []
  have g3 : (s2.push (.row [u8 104, u8 105] 5)).get s2.next = some (.row [u8 104, u8 105] 5) := get_new _ _ rfl
  have h3 := b2 s2 104 105
  generalize s2.push (.row [u8 104, u8 105] 5) = s2' at k3 g3 h3
  have h4 := cv22 (b := 1) (c := 0) (n := 2) (f := true) g3 (((k1.trans k2).trans k3).lock.trans hl)
  have k3' := Rest.same k3.wf g3 []
  replace g3 := k3'.keep _ _ (by simp) g3
  replace k3 := k3.trans k3'
  generalize s2'.set s2.next (.row [u8 104, u8 105] 5) = s3 at k3 g3 h4
  have k5 := Rest.push k3.wf (.row [u16 5, u16 0] 39) []
  have g5 : (s3.push (.row [u16 5, u16 0] 39)).get s3.next = some (.row [u16 5, u16 0] 39) := get_new _ _ rfl
  have h6 := b36 s3
  generalize s3.push (.row [u16 5, u16 0] 39) = s5 at k5 g5 h6
  have h9 := b40 s5 s2.next s3.next
  have k6 := Rest.push k5.wf (.row [i64 2, i64 2, i64 0, .sl s2.next 1 0 2 true, .nils, i64 8, i64 0, i64 3, .nils, .sl s3.next 1 0 2 true, i64 5, i64 0, i64 0, .nils, .nils] 38) []
  have g6 : (s5.push (.row [i64 2, i64 2, i64 0, .sl s2.next 1 0 2 true, .nils, i64 8, i64 0, i64 3, .nils, .sl s3.next 1 0 2 true, i64 5, i64 0, i64 0, .nils, .nils] 38)).get s5.next = _ := get_new _ _ rfl
  generalize s5.push (.row [i64 2, i64 2, i64 0, .sl s2.next 1 0 2 true, .nils, i64 8, i64 0, i64 3, .nils, .sl s3.next 1 0 2 true, i64 5, i64 0, i64 0, .nils, .nils] 38) = s6 at h9 k6 g6
  have k06 := (((k1.trans k2).trans k3).trans k5).trans k6
  have g36 := (k5.trans k6).keep _ _ (by simp) g3
  have g56 := k6.keep _ _ (by simp) g5
  obtain ⟨s7, h10, k7⟩ := text_w (st := s6) (f := true) (hgl.rest k06) k6.wf (k06.lock.trans hl) (.inr (.inr ⟨_, 0, true, _, rfl, g36, rfl, by simp⟩)) (.inr (.inr ⟨_, 0, true, _, rfl, g56, rfl, by simp⟩)) g6
  have k8 := Rest.push k7.wf (.row [u8 120] 5) []
  have g8 : (s7.push (.row [u8 120] 5)).get s7.next = some (.row [u8 120] 5) := get_new _ _ rfl
  have h11 := b1 s7 120
  generalize s7.push (.row [u8 120] 5) = s7' at k8 g8 h11
  have h12 := cv22 (b := 1) (c := 0) (n := 1) (f := true) g8 (((k06.trans k7).trans k8).lock.trans hl)
  have k8' := Rest.same k8.wf g8 []
  replace g8 := k8'.keep _ _ (by simp) g8
  replace k8 := k8.trans k8'
  generalize s7'.set s7.next (.row [u8 120] 5) = s8 at k8 g8 h12
  have h16 := b44 s8 s7.next
  have k10 := Rest.push k8.wf (.row [i64 2, i64 0, i64 0, i64 0, .sl s7.next 1 0 1 true, TT, i64 5, i64 0, i64 0, i64 4, .nils, FF, i64 1, i64 7, i64 0, i64 0, .nils, FF] 43) []
  have g10 : (s8.push (.row [i64 2, i64 0, i64 0, i64 0, .sl s7.next 1 0 1 true, TT, i64 5, i64 0, i64 0, i64 4, .nils, FF, i64 1, i64 7, i64 0, i64 0, .nils, FF] 43)).get s8.next = _ := get_new _ _ rfl
  generalize s8.push (.row [i64 2, i64 0, i64 0, i64 0, .sl s7.next 1 0 1 true, TT, i64 5, i64 0, i64 0, i64 4, .nils, FF, i64 1, i64 7, i64 0, i64 0, .nils, FF] 43) = s10 at h16 k10 g10
  have k010 := ((k06.trans k7).trans k8).trans k10
  obtain ⟨s11, h17, k11⟩ := rows_w (st := s10) (f := true) (hgl.rest k010) k10.wf (k010.lock.trans hl) (.inr (.inr ⟨_, 0, true, _, rfl, k10.keep _ _ (by simp) g8, rfl, by simp⟩)) g10
  have k011 := k010.trans k11
  obtain ⟨id, fl, s12, vs, h18, k12, g12, hv⟩ := parse_w1 (hgl.rest k011) k11.wf (k011.lock.trans hl)
  have k012 := k011.trans k12
  obtain ⟨s13, h19, k13⟩ := parse_w2 (hgl.rest k012) k12.wf (k012.lock.trans hl)
  have k013 := k012.trans k13
  have k14 := Rest.push k13.wf (.row [u8 97, u8 32, u8 34, u8 13, u8 255] 5) []
  have g14 : (s13.push (.row [u8 97, u8 32, u8 34, u8 13, u8 255] 5)).get s13.next = some (.row [u8 97, u8 32, u8 34, u8 13, u8 255] 5) := get_new _ _ rfl
  have h20 := b5 s13
  generalize s13.push (.row [u8 97, u8 32, u8 34, u8 13, u8 255] 5) = s13' at k14 g14 h20
  have h21 := cv22 (b := 1) (c := 0) (n := 5) (f := true) g14 ((k013.trans k14).lock.trans hl)
  have k14' := Rest.same k14.wf g14 []
  replace g14 := k14'.keep _ _ (by simp) g14
  replace k14 := k14.trans k14'
  generalize s13'.set s13.next (.row [u8 97, u8 32, u8 34, u8 13, u8 255] 5) = s14 at k14 g14 h21
  have k014 := k013.trans k14
  obtain ⟨s16, h22, k16⟩ := quote_ok (st := s14) (x := .sl s13.next 1 0 5 true) (b := [97, 32, 34, 13, 255]) (.inr (.inr ⟨_, 0, true, _, rfl, g14, rfl, by simp⟩)) k14.wf (k014.lock.trans hl) (by decide)
  have k016 := k014.trans k16
  have k116 : Rest s1 s16 [] := ((((((((((k2.trans k3).trans k5).trans k6).trans k7).trans k8).trans k10).trans k11).trans k12).trans k13).trans k14).trans k16
  have h24 := (o1.rest k116 fun _ _ => by simp).bs.str
  have h37 : loadA E0 s16 3 (.ptr id 2) = some (i64 (-1)) := ldf (show (E0.ty 3).map (fun i => isAggD i.desc) = some false by kernel_rfl) (((k13.trans k14).trans k16).keep _ _ (by simp) g12) hv
  refine ⟨s16, ?_, k016⟩
  refine ACalls.body (E := E0) hE Tryd.func9 f9body ?_
  refine AW.atRet (f9_0_TTTTFTTTTTTTTTT h1 h2 h3 h4 (bA1 _) h6 (bA2 _) bA3 h9 h10 h11 h12 (bR1 _) bR2 bR3 h16 h17 h18 h19 h20 h21 h22 (eq_sbT (b := [34, 97, 32, 92, 34, 92, 120, 48, 100, 92, 120, 102, 102, 34]) (by decide)) h24 (eq_sbT (b := [97]) rfl) (eq_sbT (b := [120]) rfl) (eqlT rfl) (eq_sbT (b := [112, 117, 115, 104, 32, 50, 32, 34, 104, 105, 34, 10, 99, 114, 97, 115, 104, 32, 51, 32, 53, 32, 48, 10, 115, 116, 101, 112, 10]) rfl) (eqlT rfl) (eq_sbT (b := [112, 117, 115, 104, 32, 111, 107, 32, 34, 120, 34, 32, 101, 110, 100, 101, 100, 10, 115, 116, 101, 112, 32, 111, 107, 32, 52, 10, 99, 111, 110, 110, 101, 99, 116, 32, 101, 114, 114, 111, 114, 32, 55, 10]) rfl) (eqlT rfl) (eqlT rfl) (ln40 ..) (eqlT rfl) (ix40 id 2 fl) (fa38 id) h37 (eqlT rfl) (eqlT rfl) (eqlT rfl) rfl) fun T q => ?_
  exact ⟨[T.get 0], rfl, q.2, rfl⟩
end
section
set_option maxRecDepth 100000
/-! ### ShellWords, for all words and texts -/
theorem words_ok {st : St} {x : AV} {b t : List UInt8} (hgl : Tabs st) (hw : st.wf) (hl : st.lock = []) (hx : BS st x b) (bb : b.length ≤ 100000000) (bt : t.length ≤ 100000000) : ∃ z, obC 3 [x, sb t] st TT z ∧ Rest st z [] := by
  obtain ⟨s1, r1, h1, k1, m1⟩ := unquote_ok (st := st) (s := t) hw hl (by omega)
  obtain ⟨s2, r2, h2, k2, m2⟩ := runquote_ok (st := s1) (s := t) k1.wf (k1.lock.trans hl) (by omega)
  have k02 := k1.trans k2
  obtain ⟨s3, h3, k3⟩ := quote_ok (hx.rest k02 fun _ _ => by simp) k2.wf (k02.lock.trans hl) (by omega)
  have k03 := k02.trans k3
  obtain ⟨s4, h4, k4⟩ := rquote_ok (hx.rest k03 fun _ _ => by simp) k3.wf (k03.lock.trans hl) (by omega)
  have k04 := k03.trans k4
  obtain ⟨s5, h5, k5⟩ := wakes_ok (hgl.rest k04) k4.wf (k04.lock.trans hl)
  refine ⟨s5, ?_, k04.trans k5⟩
  have fin : ∀ {T : Tm} {a : AV} {z : St}, f3L1 T a → endA E0 Tryd.f3 (fun r s => r = a ∧ s = z) .ret T z := fun {T a z} q => ⟨[T.get 4], rfl, by obtain ⟨_, q1⟩ := q; rw [q1]; rfl, rfl⟩
  refine ACalls.body (E := E0) hE Tryd.func3 f3body ?_
  cases hu : unqP t with
  | none =>
    rw [hu] at m1 m2
    subst m1; subst m2
    have cn : convO E0 s4 22 9 .nils = some (sb [], s4) := BS.str (.inl ⟨rfl, rfl⟩)
    refine AW.atRet (f3_0_TTTT (b13c := false) (b19c := false) (b46 := true) h1 h2 h3 h4 (eq_sbT rfl) cn cn (eq_sbT rfl) (eq_sbT (a := []) (b := []) rfl) (by kernel_rfl) h5 ⟨rfl, rfl, rfl⟩) fun T q => fin q
  | some p =>
    obtain ⟨B, r⟩ := p
    rw [hu] at m1 m2
    obtain ⟨v, rfl, o1, f1⟩ := m1
    obtain ⟨w, rfl, o2, f2⟩ := m2
    have c1 := (o1.rest ((k2.trans k3).trans k4) fun _ _ => by simp).bs.str
    have c2 := (o2.rest (k3.trans k4) fun _ _ => by simp).bs.str
    refine AW.atRet (f3_0_TTTT (b13c := true) (b19c := true) (b46 := true) h1 h2 h3 h4 (eq_sbT rfl) c1 c2 (eq_sbT rfl) (eq_sbT rfl) (by kernel_rfl) h5 ⟨rfl, rfl, rfl⟩) fun T q => fin q
end
end Go.Proofs.YtnknfheabnogaaaDoor.E
