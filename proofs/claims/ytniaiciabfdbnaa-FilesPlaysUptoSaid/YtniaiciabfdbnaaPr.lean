/- FilesPlays of escritoirelaw13 returns true, whatever the quota and the row of calls, and both read as they did. Condition: what it reads is of bulk at most 1048576 (the second form). -/
import Derived.Test.YtniaiciabfdbnaaRows
import Derived.WalkKit
import Derived.ProofKit
import Derived.OpenShut
import Derived.JoinedCond
import Derived.ChangeSlices
import Derived.Carry
import Derived.Deep.CondSized
import Derived.Test.YtniaiciabfdbnaaPf
namespace Go.Proofs.Ytniaiciabfdbnaa.FilesPlays
set_option maxRecDepth 20000
open Go.ChangeShapes Go.WideShapes Go.ChangeAt Go.RowKit Go.Proofs.Ytniaiciabfdbnaa.E
set_option linter.unusedVariables false
theorem own : ownKnob Try.prog.godebug = none := by kernel_rfl
theorem laidOut : laidOutB Try.prog = true := by kernel_rfl
theorem good64 : goodT Try.prog 5 64 = true := by kernel_rfl
theorem shp64 : shpT Try.prog 5 64 = true := by kernel_rfl
theorem c64 : Try.prog.cellsOf 64 = 1 := by kernel_rfl
theorem c69 : Try.prog.cellsOf 69 = 6 := by kernel_rfl
theorem c5 : Try.prog.cellsOf 5 = 1 := by kernel_rfl
theorem c50 : Try.prog.cellsOf 50 = 1 := by kernel_rfl
theorem u3 : Try.prog.underlying 3 = some (.int .i64) := by kernel_rfl
theorem u9 : Try.prog.underlying 9 = some .string := by kernel_rfl
theorem u28 : Try.prog.underlying 28 = some (.slice 5) := by kernel_rfl
theorem u5 : Try.prog.underlying 5 = some (.int .u8) := by kernel_rfl
theorem u67 : Try.prog.underlying 67 = some (.slice 50) := by kernel_rfl
theorem u50 : Try.prog.underlying 50 = some (.int .u16) := by kernel_rfl
theorem u64 : Try.prog.underlying 64 = some (.slice 69) := by kernel_rfl
theorem u69 : ∃ fs : Array Field, Try.prog.underlying 69 = some (.struct fs) ∧ fs.toList.map (·.type) = [3, 9, 9, 28, 3, 67] := by
  have h : (Try.prog.underlying 69).bind (fun d => match d with | .struct fs => some (fs.toList.map (·.type)) | _ => none) = some [3, 9, 9, 28, 3, 67] := by kernel_rfl
  obtain ⟨d, h1, h2⟩ := Option.bind_eq_some_iff.1 h
  cases d with
  | struct fs => exact ⟨fs, h1, by simpa using h2⟩
  | _ => cases h2
section
variable {H : Type}
theorem one_le (d : DataW H) : 1 ≤ Rows.uptoBulk d := by
  cases d with
  | lit l => cases l <;> simp [Rows.uptoBulk]
  | nil => simp [Rows.uptoBulk]
  | ptr d => simp [Rows.uptoBulk]
  | slice elems spare => simp [Rows.uptoBulk]
  | agg parts => simp [Rows.uptoBulk]
  | iface t d => simp [Rows.uptoBulk]
  | map entries => simp [Rows.uptoBulk]
  | held h => simp [Rows.uptoBulk]
theorem part_le {d : DataW H} {l : List (DataW H)} (h : d ∈ l) : Rows.uptoBulk d ≤ Rows.uptoBulkAll l := by
  induction l with
  | nil => cases h
  | cons x r ih =>
    simp only [Rows.uptoBulkAll]
    cases List.mem_cons.1 h with
    | inl e => subst e; omega
    | inr e => have := ih e; omega
theorem length_le (l : List (DataW H)) : l.length ≤ Rows.uptoBulkAll l := by
  induction l with
  | nil => simp [Rows.uptoBulkAll]
  | cons x r ih => have := one_le x; simp only [Rows.uptoBulkAll, List.length_cons]; omega
theorem bulk_slice (l sp : List (DataW H)) : l.length ≤ Rows.uptoBulk (.slice l sp) ∧ Rows.uptoBulkAll l ≤ Rows.uptoBulk (.slice l sp) := by
  have := length_le l
  simp only [Rows.uptoBulk]; omega
theorem bulk_agg (l : List (DataW H)) : Rows.uptoBulkAll l ≤ Rows.uptoBulk (.agg l) := by simp only [Rows.uptoBulk]; omega
theorem wf64 {n : Int} (h : (Lit.int .i64 n).wf = true) : n ≤ 9223372036854775807 := by
  simp only [Lit.wf, decide_eq_true_eq, Bool.and_eq_true] at h
  exact h.2
theorem wf16 {n : Int} (h : (Lit.int .u16 n).wf = true) : 0 ≤ n ∧ n ≤ 65535 := by
  simp only [Lit.wf, decide_eq_true_eq, Bool.and_eq_true] at h
  exact h
theorem ba_of (s : ByteArray) : (⟨s.data.toList.toArray⟩ : ByteArray) = s := by cases s; simp
theorem act_of {d : DataW H} (h : Shp Try.prog 4 69 d) (hb : Rows.uptoBulk d ≤ 1048576) : ∃ A : Ac, AcOk A ∧ absC Try.prog 4 69 d = A.cells := by
  obtain ⟨fs, hu, hf⟩ := u69
  obtain ⟨ds, rfl, hs⟩ := shp_struct hu h
  have hbd := bulk_agg ds
  obtain ⟨f0, f1, f2, f3, f4, f5, hfs⟩ : ∃ f0 f1 f2 f3 f4 f5, fs.toList = [f0, f1, f2, f3, f4, f5] := by
    match hl : fs.toList with
    | [] => rw [hl] at hf; simp at hf
    | [_] => rw [hl] at hf; simp at hf
    | [_, _] => rw [hl] at hf; simp at hf
    | [_, _, _] => rw [hl] at hf; simp at hf
    | [_, _, _, _] => rw [hl] at hf; simp at hf
    | [_, _, _, _, _] => rw [hl] at hf; simp at hf
    | [a, b, c, d, e, f] => exact ⟨_, _, _, _, _, _, rfl⟩
    | _ :: _ :: _ :: _ :: _ :: _ :: _ :: _ => rw [hl] at hf; simp at hf
  rw [hfs] at hf hs
  simp only [List.map_cons, List.map_nil, List.cons.injEq, and_true] at hf
  obtain ⟨t0, t1, t2, t3, t4, t5⟩ := hf
  match ds, hs with
  | [d0, d1, d2, d3, d4, d5], hs =>
  obtain ⟨s0, s1, s2, s3, s4, s5, _⟩ := hs
  rw [t0] at s0; rw [t1] at s1; rw [t2] at s2; rw [t3] at s3; rw [t4] at s4; rw [t5] at s5
  obtain ⟨what, rfl, w0⟩ := shp_int u3 s0
  obtain ⟨name, rfl, _⟩ := shp_str u9 s1
  obtain ⟨to, rfl, _⟩ := shp_str u9 s2
  obtain ⟨n, rfl, w4⟩ := shp_int u3 s4
  obtain ⟨bs, hbs, lb, cb⟩ := shp_nums u28 u5 c5 s3
  obtain ⟨ps, hps, lp, cp⟩ := shp_nums u67 u50 c50 s5
  have b1 : Rows.uptoBulk (DataW.lit (H := H) (.string name.data.toList)) ≤ 1048576 := Nat.le_trans (part_le (by simp)) (Nat.le_trans hbd hb)
  have b2 : Rows.uptoBulk (DataW.lit (H := H) (.string to.data.toList)) ≤ 1048576 := Nat.le_trans (part_le (by simp)) (Nat.le_trans hbd hb)
  have b3 : Rows.uptoBulk d3 ≤ 1048576 := Nat.le_trans (part_le (by simp)) (Nat.le_trans hbd hb)
  have b5 : Rows.uptoBulk d5 ≤ 1048576 := Nat.le_trans (part_le (by simp)) (Nat.le_trans hbd hb)
  simp only [Rows.uptoBulk] at b1 b2
  have e1 : name.data.toList.length = name.size := by rw [Array.length_toList]; rfl
  have e2 : to.data.toList.length = to.size := by rw [Array.length_toList]; rfl
  obtain ⟨bv, vb, BB⟩ : ∃ bv, absC Try.prog 3 28 d3 = [bv] ∧ BV bv bs ∧ bs.length ≤ 1048576 := by
    rcases cb with ⟨rfl, _, h⟩ | ⟨l, sp, rfl, h1, h⟩
    · exact ⟨_, h, .inl ⟨rfl, rfl⟩, by simp⟩
    · exact ⟨_, h, .inr ⟨false, rfl⟩, by have := (bulk_slice l sp).1; omega⟩
  obtain ⟨pv, vp, PP⟩ : ∃ pv, absC Try.prog 3 67 d5 = [pv] ∧ BP pv ps ∧ ps.length ≤ 1048576 := by
    rcases cp with ⟨rfl, _, h⟩ | ⟨l, sp, rfl, h1, h⟩
    · exact ⟨_, h, .inl ⟨rfl, rfl⟩, by simp⟩
    · exact ⟨_, h, .inr ⟨false, rfl⟩, by have := (bulk_slice l sp).1; omega⟩
  refine ⟨⟨what, name, to, bv, bs, n, pv, ps⟩, ⟨by show name.size ≤ _; omega, by show to.size ≤ _; omega, BB.1, BB.2, wf64 w4, PP.1, ⟨by show ps.length ≤ _; omega, fun v hv => wf16 (hps v hv)⟩⟩, ?_⟩
  have ea : absC Try.prog 4 69 (.agg [.lit (.int .i64 what), .lit (.string name.data.toList), .lit (.string to.data.toList), d3, .lit (.int .i64 n), d5]) = absF (absC Try.prog 3) fs.toList [.lit (.int .i64 what), .lit (.string name.data.toList), .lit (.string to.data.toList), d3, .lit (.int .i64 n), d5] := by
    simp only [absC, hu]
  rw [ea, hfs]
  simp only [absF, t0, t1, t2, t3, t4, t5, vb, vp]
  simp only [absC, u3, u9, ba_of]
  rfl
theorem acts_of {d : DataW H} (h : Shp Try.prog 5 64 d) (hb : Rows.uptoBulk d ≤ 1048576) : ∃ (L : AV) (As : List Ac), absC Try.prog 5 64 d = [L] ∧ ActsV L As ∧ ∀ A ∈ As, AcOk A := by
  rcases shp_slice u64 h with rfl | ⟨l, sp, rfl, hl, hs⟩
  · exact ⟨.nils, [], by simp only [absC, u64], .inl ⟨rfl, rfl⟩, by simp⟩
  · have hbl := (bulk_slice l sp).2
    have gen : ∀ l : List (DataW H), (∀ y ∈ l, Shp Try.prog 4 69 y ∧ Rows.uptoBulk y ≤ 1048576) → ∃ As : List Ac, (∀ A ∈ As, AcOk A) ∧ l.length = As.length ∧ l.flatMap (absC Try.prog 4 69) = As.flatMap Ac.cells := fun l => by
      induction l with
      | nil => exact fun _ => ⟨[], by simp, rfl, rfl⟩
      | cons y r ih =>
        intro hs
        obtain ⟨As, h1, h2, h3⟩ := ih fun z hz => hs z (by simp [hz])
        obtain ⟨A, hA, hc⟩ := act_of (hs y (by simp)).1 (hs y (by simp)).2
        exact ⟨A :: As, by simpa using ⟨hA, h1⟩, by simp [h2], by rw [List.flatMap_cons, List.flatMap_cons, h3, hc]⟩
    obtain ⟨As, h1, h2, h3⟩ := gen l fun y hy => ⟨hs y hy, Nat.le_trans (part_le hy) (Nat.le_trans hbl hb)⟩
    refine ⟨.imm 6 As.length false (As.flatMap Ac.cells), As, ?_, .inr ⟨false, rfl⟩, h1⟩
    rw [← h2, ← h3]
    simp only [absC, u64, c69]
end
set_option maxRecDepth 100000 in
theorem lifted (os : Os) (started : os.Started) (H : Type) (enc : TypeId × Value → H) (F : Stop.Interp) :
    ReturnsInHanded {} Try.checked os 8 .any ((Rows.OpenSpec.upto Rows.filesPlaysSpec).pre6 enc Try.prog Try.f8 Rows.filesPlaysUptoRow.domain false) (((Rows.OpenSpec.upto Rows.filesPlaysSpec).at F).post enc Try.prog Try.f8 false true false false) := by
  refine returnsInHanded_of_cond (C := Try.checked) (s := Rows.OpenSpec.upto Rows.filesPlaysSpec) (k := Rows.uptoSmall) rfl own started (by kernel_rfl) Try.func8
    (OpenSpec.witness (enc := enc) (C := Try.checked) (s := Rows.OpenSpec.upto Rows.filesPlaysSpec) (k := Rows.uptoSmall) rfl false ⟨#[], #[.int .i64 0, .slice none 0 0], []⟩ 8 (by kernel_rfl) (by kernel_rfl) (by kernel_rfl)
      (x := ([.lit (.int .i64 0), .nil], [], [])) (by kernel_rfl) rfl (by kernel_rfl)) ?_
  intro W base args ds gs before hval0 hW _ hk _
  have hval : ∀ (j : Nat) t v, Try.f8.params[j]? = some t → args[j]? = some v → Value.okWide Try.prog W .any base t v := hval0
  have hW' := hW
  obtain ⟨p, q, hA0, hV, rfl, _, _⟩ := hW
  have hA : DataW.TrodAll enc Try.prog W 0 (fun _ => true) true Try.f8.params.toList args.toList ds p := hA0
  rw [Try.params8] at hA hval
  obtain ⟨v0, v1, d0, d1, p0, p1, rfl, rfl, rfl, h0, h1⟩ := trodAll_two hA
  obtain ⟨rfl, rfl⟩ := trodVars_none hV
  simp only [List.append_nil] at hW' hk
  have hlt : ∀ x ∈ p0 ++ p1, x.block < W.heap.size := fun x hx => by simpa using hW'.lt x hx
  obtain ⟨qv, rfl, rfl, rfl, hwf⟩ := open_int u3 (hval 0 3 v0 rfl rfl) h0
  obtain ⟨a1, n1, cap1, rfl⟩ := okWide_slice u64 (hval 1 64 v1 rfl rfl)
  obtain ⟨f1, e1⟩ := id h1
  have hbulk : Rows.uptoBulkAll [DataW.lit (H := H) (.int .i64 qv), d1] ≤ 1048576 := of_decide_eq_true hk
  obtain ⟨L, As, eb, hL, hAs⟩ := acts_of (shp_of 5 64 shp64 f1 _ _ e1) (Nat.le_trans (part_le (by simp)) hbulk)
  have l1 := lift 5 64 good64 f1 _ _ (by rw [c64]; rfl) e1
  rw [eb] at l1
  have hargs : VRs (gW W) [.val (.int .i64 qv), L] [.int .i64 qv, .slice a1 n1 cap1] := .cons (.val _ rfl) l1.1
  have run := plays_all qv (wf64 hwf) hL hAs
  have run' : Calls Try.prog 8 #[.int .i64 qv, .slice a1 n1 cap1] W fun e w' => e = .returned (.bool true) ∧ Below W.heap.size W w' :=
    (run (gW W) W _ (okW W) hargs).mono fun e w' ⟨g', st', a, v, h1, h2, h3, h4⟩ => by
      subst h4
      rw [h3.val_inv] at h1
      exact ⟨h1, h2.os, h2.tape, h2.output, h2.size, fun b hb => h2.frame b hb fun id o ho => by
        have := (St.wget_get ho).1
        simp [st00, St.get, Tr.get] at this⟩
  refine run'.mono fun e W' ⟨he, hb⟩ => ?_
  have k0 := Below.trod laidOut (by kernel_rfl) (of_decide_eq_true (by kernel_rfl)) h0 hb fun x hx => hlt x (List.mem_append_left _ hx)
  have k1 := Below.trod laidOut (by kernel_rfl) (of_decide_eq_true (by kernel_rfl)) h1 hb fun x hx => hlt x (List.mem_append_right _ hx)
  exact ⟨_, he, ⟨_, _, _, [], _, [], hW', trodAll_mk1 (shut_bool Try.underlying4 _), trodAll_mk2 k0 k1, rfl, hb.frame _, fun h => by cases h⟩⟩
theorem holds : Rows.FilesPlaysUptoSaid :=
  OpenClaim.holds_of_cond 8 Try.f8 rfl rfl rfl rfl rfl rfl rfl ⟨rfl, rfl, rfl, rfl, rfl⟩ rfl rfl rfl rfl rfl (by kernel_rfl) Try.func8 (by kernel_rfl)
    (of_decide_eq_true (by kernel_rfl)) (by unfold Func.isWrapper; first | (rw [if_pos (by decide +kernel)]; kernel_rfl) | (rw [if_neg (by decide +kernel)]; exact ⟨rfl, rfl⟩))
    (fun os started H enc _ F => lifted os started H enc F)
end Go.Proofs.Ytniaiciabfdbnaa.FilesPlays
