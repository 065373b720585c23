/- CommitPlays of escritoirelaw19 returns true, whatever the row of what is done, and it reads as it did. Condition: what it reads is of bulk at most 1048576 (the second form). -/
import Derived.Test.YtniaiciabfdbnaaRows
import Derived.WalkKit
import Derived.ProofKit
import Derived.OpenShut
import Derived.JoinedCond
import Derived.ChangeSlices
import Derived.Carry
import Derived.Deep.CondSized
import Derived.Test.YtniaiciabfdbnaaCd
namespace Go.Proofs.Ytniaiciabfdbnaa.CommitPlays
set_option maxRecDepth 20000
open Go.ChangeShapes Go.WideShapes Go.ChangeAt Go.RowKit Go.Proofs.Ytniaiciabfdbnaa.E
set_option linter.unusedVariables false
theorem own : ownKnob Try.prog.godebug = none := by kernel_rfl
theorem laidOut : laidOutB Try.prog = true := by kernel_rfl
theorem good81 : goodT Try.prog 6 81 = true := by kernel_rfl
theorem shp81 : shpT Try.prog 6 81 = true := by kernel_rfl
theorem c81 : Try.prog.cellsOf 81 = 1 := by kernel_rfl
theorem c83 : Try.prog.cellsOf 83 = 102 := by kernel_rfl
theorem c5 : Try.prog.cellsOf 5 = 1 := by kernel_rfl
theorem c50 : Try.prog.cellsOf 50 = 1 := by kernel_rfl
theorem u3 : Try.prog.underlying 3 = some (.int .i64) := by kernel_rfl
theorem u22 : Try.prog.underlying 22 = some (.int .u64) := by kernel_rfl
theorem u28 : Try.prog.underlying 28 = some (.slice 5) := by kernel_rfl
theorem u5 : Try.prog.underlying 5 = some (.int .u8) := by kernel_rfl
theorem u67 : Try.prog.underlying 67 = some (.slice 50) := by kernel_rfl
theorem u50 : Try.prog.underlying 50 = some (.int .u16) := by kernel_rfl
theorem u81 : Try.prog.underlying 81 = some (.slice 83) := by kernel_rfl
theorem u24 : Try.prog.underlying 24 = some (.array 32 5) := by kernel_rfl
theorem u25 : Try.prog.underlying 25 = some (.array 64 5) := by kernel_rfl
theorem u83 : ∃ fs : Array Field, Try.prog.underlying 83 = some (.struct fs) ∧ fs.toList.map (·.type) = [3, 3, 27, 28, 67] := by
  have h : (Try.prog.underlying 83).bind (fun d => match d with | .struct fs => some (fs.toList.map (·.type)) | _ => none) = some [3, 3, 27, 28, 67] := by kernel_rfl
  obtain ⟨d, h1, h2⟩ := Option.bind_eq_some_iff.1 h
  cases d with
  | struct fs => exact ⟨fs, h1, by simpa using h2⟩
  | _ => cases h2
theorem u27 : ∃ fs : Array Field, Try.prog.underlying 27 = some (.struct fs) ∧ fs.toList.map (·.type) = [22, 22, 24, 25] := by
  have h : (Try.prog.underlying 27).bind (fun d => match d with | .struct fs => some (fs.toList.map (·.type)) | _ => none) = some [22, 22, 24, 25] := by kernel_rfl
  obtain ⟨d, h1, h2⟩ := Option.bind_eq_some_iff.1 h
  cases d with
  | struct fs => exact ⟨fs, h1, by simpa using h2⟩
  | _ => cases h2
section
variable {H : Type}
theorem one_le (d : DataW H) : 1 ≤ Rows.uptoBulk d := by
  cases d with
  | lit l => cases l <;> simp [Rows.uptoBulk]
  | nil => simp [Rows.uptoBulk]
  | ptr d => simp [Rows.uptoBulk]
  | slice elems spare => simp [Rows.uptoBulk]
  | agg parts => simp [Rows.uptoBulk]
  | iface t d => simp [Rows.uptoBulk]
  | map entries => simp [Rows.uptoBulk]
  | held h => simp [Rows.uptoBulk]
theorem part_le {d : DataW H} {l : List (DataW H)} (h : d ∈ l) : Rows.uptoBulk d ≤ Rows.uptoBulkAll l := by
  induction l with
  | nil => cases h
  | cons x r ih =>
    simp only [Rows.uptoBulkAll]
    cases List.mem_cons.1 h with
    | inl e => subst e; omega
    | inr e => have := ih e; omega
theorem length_le (l : List (DataW H)) : l.length ≤ Rows.uptoBulkAll l := by
  induction l with
  | nil => simp [Rows.uptoBulkAll]
  | cons x r ih => have := one_le x; simp only [Rows.uptoBulkAll, List.length_cons]; omega
theorem bulk_slice (l sp : List (DataW H)) : l.length ≤ Rows.uptoBulk (.slice l sp) ∧ Rows.uptoBulkAll l ≤ Rows.uptoBulk (.slice l sp) := by
  have := length_le l
  simp only [Rows.uptoBulk]; omega
theorem bulk_agg (l : List (DataW H)) : Rows.uptoBulkAll l ≤ Rows.uptoBulk (.agg l) := by simp only [Rows.uptoBulk]; omega
theorem wf64 {n : Int} (h : (Lit.int .i64 n).wf = true) : n ≤ 9223372036854775807 := by
  simp only [Lit.wf, decide_eq_true_eq, Bool.and_eq_true] at h
  exact h.2
theorem wf16 {n : Int} (h : (Lit.int .u16 n).wf = true) : 0 ≤ n ∧ n ≤ 65535 := by
  simp only [Lit.wf, decide_eq_true_eq, Bool.and_eq_true] at h
  exact h
theorem ba_of (s : ByteArray) : (⟨s.data.toList.toArray⟩ : ByteArray) = s := by cases s; simp
theorem wf8 {n : Int} (h : (Lit.int .u8 n).wf = true) : 0 ≤ n ∧ n < 256 := by
  simp only [Lit.wf, decide_eq_true_eq, Bool.and_eq_true] at h
  have h2 : IntKind.u8.max = 255 := rfl
  have h1 : IntKind.u8.min = 0 := rfl
  rw [h1, h2] at h
  omega
theorem wfu64 {n : Int} (h : (Lit.int .u64 n).wf = true) : 0 ≤ n ∧ n ≤ 18446744073709551615 := by
  simp only [Lit.wf, decide_eq_true_eq, Bool.and_eq_true] at h
  exact h
theorem fm1 {α β : Type} (f : α → β) : ∀ l : List α, l.flatMap (fun x => [f x]) = l.map f
  | [] => rfl
  | a :: l => by rw [List.flatMap_cons, fm1 f l]; rfl
theorem arr_nums {t : TypeId} {n : Nat} {d : DataW H} (hu : Try.prog.underlying t = some (.array n 5)) (h : Shp Try.prog 3 t d) : ∃ ns : List Int, ns.length = n ∧ (∀ x ∈ ns, 0 ≤ x ∧ x < 256) ∧ absC Try.prog 3 t d = ns.map u8 := by
  obtain ⟨ds, rfl, hl, hs⟩ := shp_array hu h
  have gen : ∀ l : List (DataW H), (∀ y ∈ l, Shp Try.prog 2 5 y) → ∃ ns : List Int, ns.length = l.length ∧ (∀ x ∈ ns, 0 ≤ x ∧ x < 256) ∧ l.flatMap (absC Try.prog 2 5) = ns.map u8 := fun l => by
    induction l with
    | nil => exact fun _ => ⟨[], rfl, by simp, rfl⟩
    | cons y r ih =>
      intro hs
      obtain ⟨ns, h1, h2, h3⟩ := ih fun z hz => hs z (by simp [hz])
      obtain ⟨n, rfl, hw⟩ := shp_int u5 (hs y (by simp))
      refine ⟨n :: ns, by simp [h1], by simpa using ⟨wf8 hw, h2⟩, ?_⟩
      rw [List.flatMap_cons, h3]
      simp only [absC, u5, List.map_cons]
      rfl
  obtain ⟨ns, h1, h2, h3⟩ := gen ds hs
  refine ⟨ns, by omega, h2, ?_⟩
  rw [← h3]
  simp only [absC, hu]
theorem range_map {ns : List Int} {n : Nat} (h : ns.length = n) : (List.range n).map (fun i => ns.getD i 0) = ns := by
  refine List.ext_getElem? fun i => ?_
  rw [List.getElem?_map]
  by_cases hi : i < n
  · rw [List.getElem?_range hi, Option.map_some, List.getD_eq_getElem?_getD, List.getElem?_eq_getElem (by omega)]; rfl
  · rw [List.getElem?_eq_none (by simp; omega), List.getElem?_eq_none (by omega)]; rfl
theorem head_of {d : DataW H} (h : Shp Try.prog 4 27 d) : ∃ (s t : Int) (r g : Nat → Int), HR s t r g ∧ absC Try.prog 4 27 d = F.headCells s t r g := by
  obtain ⟨fs, hu, hf⟩ := u27
  obtain ⟨ds, rfl, hs⟩ := shp_struct hu h
  obtain ⟨f0, f1, f2, f3, hfs⟩ : ∃ f0 f1 f2 f3, fs.toList = [f0, f1, f2, f3] := by
    match hl : fs.toList with
    | [] => rw [hl] at hf; simp at hf
    | [_] => rw [hl] at hf; simp at hf
    | [_, _] => rw [hl] at hf; simp at hf
    | [_, _, _] => rw [hl] at hf; simp at hf
    | [a, b, c, d] => exact ⟨_, _, _, _, rfl⟩
    | _ :: _ :: _ :: _ :: _ :: _ => rw [hl] at hf; simp at hf
  rw [hfs] at hf hs
  simp only [List.map_cons, List.map_nil, List.cons.injEq, and_true] at hf
  obtain ⟨t0, t1, t2, t3⟩ := hf
  match ds, hs with
  | [d0, d1, d2, d3], hs =>
  obtain ⟨s0, s1, s2, s3, _⟩ := hs
  rw [t0] at s0; rw [t1] at s1; rw [t2] at s2; rw [t3] at s3
  obtain ⟨s, rfl, w0⟩ := shp_int u22 s0
  obtain ⟨t, rfl, w1⟩ := shp_int u22 s1
  obtain ⟨rs, lr, br, er⟩ := arr_nums u24 s2
  obtain ⟨gs, lg, bg, eg⟩ := arr_nums u25 s3
  have mem : ∀ {l : List Int} {n i : Nat}, l.length = n → (∀ x ∈ l, 0 ≤ x ∧ x < 256) → i < n → 0 ≤ l.getD i 0 ∧ l.getD i 0 < 256 := fun {l n i} h1 h2 h3 => by
    rw [List.getD_eq_getElem?_getD, List.getElem?_eq_getElem (by omega)]
    exact h2 _ (List.getElem_mem _)
  refine ⟨s, t, fun i => rs.getD i 0, fun i => gs.getD i 0, ⟨wfu64 w0, wfu64 w1, fun i hi => mem lr br hi, fun i hi => mem lg bg hi⟩, ?_⟩
  have ea : absC Try.prog 4 27 (.agg [.lit (.int .u64 s), .lit (.int .u64 t), d2, d3]) = absF (absC Try.prog 3) fs.toList [.lit (.int .u64 s), .lit (.int .u64 t), d2, d3] := by
    simp only [absC, hu]
  rw [ea, hfs]
  simp only [absF, t0, t1, t2, t3, er, eg]
  simp only [absC, u22, F.headCells, F.rootL, F.sigL]
  rw [range_map lr, range_map lg]
  simp only [List.cons_append, List.nil_append, List.append_nil]
  rfl
theorem act_of {d : DataW H} (h : Shp Try.prog 5 83 d) (hb : Rows.uptoBulk d ≤ 1048576) : ∃ A : Cc, CcOk A ∧ absC Try.prog 5 83 d = A.cells := by
  obtain ⟨fs, hu, hf⟩ := u83
  obtain ⟨ds, rfl, hs⟩ := shp_struct hu h
  have hbd := bulk_agg ds
  obtain ⟨f0, f1, f2, f3, f4, hfs⟩ : ∃ f0 f1 f2 f3 f4, fs.toList = [f0, f1, f2, f3, f4] := by
    match hl : fs.toList with
    | [] => rw [hl] at hf; simp at hf
    | [_] => rw [hl] at hf; simp at hf
    | [_, _] => rw [hl] at hf; simp at hf
    | [_, _, _] => rw [hl] at hf; simp at hf
    | [_, _, _, _] => rw [hl] at hf; simp at hf
    | [a, b, c, d, e] => exact ⟨_, _, _, _, _, rfl⟩
    | _ :: _ :: _ :: _ :: _ :: _ :: _ => rw [hl] at hf; simp at hf
  rw [hfs] at hf hs
  simp only [List.map_cons, List.map_nil, List.cons.injEq, and_true] at hf
  obtain ⟨t0, t1, t2, t3, t4⟩ := hf
  match ds, hs with
  | [d0, d1, d2, d3, d4], hs =>
  obtain ⟨s0, s1, s2, s3, s4, _⟩ := hs
  rw [t0] at s0; rw [t1] at s1; rw [t2] at s2; rw [t3] at s3; rw [t4] at s4
  obtain ⟨what, rfl, w0⟩ := shp_int u3 s0
  obtain ⟨n, rfl, w1⟩ := shp_int u3 s1
  obtain ⟨hs, ht, hr, hg, hH, eh⟩ := head_of s2
  obtain ⟨bs, hbs, lb, cb⟩ := shp_nums u28 u5 c5 s3
  obtain ⟨ps, hps, lp, cp⟩ := shp_nums u67 u50 c50 s4
  have b3 : Rows.uptoBulk d3 ≤ 1048576 := Nat.le_trans (part_le (by simp)) (Nat.le_trans hbd hb)
  have b4 : Rows.uptoBulk d4 ≤ 1048576 := Nat.le_trans (part_le (by simp)) (Nat.le_trans hbd hb)
  obtain ⟨bv, vb, BB⟩ : ∃ bv, absC Try.prog 4 28 d3 = [bv] ∧ BV bv bs ∧ bs.length ≤ 1048576 := by
    rcases cb with ⟨rfl, _, h⟩ | ⟨l, sp, rfl, h1, h⟩
    · exact ⟨_, h, .inl ⟨rfl, rfl⟩, by simp⟩
    · exact ⟨_, h, .inr ⟨false, rfl⟩, by have := (bulk_slice l sp).1; omega⟩
  obtain ⟨pv, vp, PP⟩ : ∃ pv, absC Try.prog 4 67 d4 = [pv] ∧ BP pv ps ∧ ps.length ≤ 1048576 := by
    rcases cp with ⟨rfl, _, h⟩ | ⟨l, sp, rfl, h1, h⟩
    · exact ⟨_, h, .inl ⟨rfl, rfl⟩, by simp⟩
    · exact ⟨_, h, .inr ⟨false, rfl⟩, by have := (bulk_slice l sp).1; omega⟩
  refine ⟨⟨what, n, hs, ht, hr, hg, bv, bs, pv, ps⟩, ⟨wf64 w1, hH, BB.1, BB.2, fun x hx => wf8 (hbs x hx), PP.1, ⟨by show ps.length ≤ _; omega, fun v hv => wf16 (hps v hv)⟩⟩, ?_⟩
  have ea : absC Try.prog 5 83 (.agg [.lit (.int .i64 what), .lit (.int .i64 n), d2, d3, d4]) = absF (absC Try.prog 4) fs.toList [.lit (.int .i64 what), .lit (.int .i64 n), d2, d3, d4] := by
    simp only [absC, hu]
  rw [ea, hfs]
  simp only [absF, t0, t1, t2, t3, t4, vb, vp, eh]
  simp only [absC, u3]
  simp only [Cc.cells, Cc.hd, List.cons_append, List.nil_append, List.append_nil]
theorem acts_of {d : DataW H} (h : Shp Try.prog 6 81 d) (hb : Rows.uptoBulk d ≤ 1048576) : ∃ (L : AV) (As : List Cc), absC Try.prog 6 81 d = [L] ∧ CcsV L As ∧ ∀ A ∈ As, CcOk A := by
  rcases shp_slice u81 h with rfl | ⟨l, sp, rfl, hl, hs⟩
  · exact ⟨.nils, [], by simp only [absC, u81], .inl ⟨rfl, rfl⟩, by simp⟩
  · have hbl := (bulk_slice l sp).2
    have gen : ∀ l : List (DataW H), (∀ y ∈ l, Shp Try.prog 5 83 y ∧ Rows.uptoBulk y ≤ 1048576) → ∃ As : List Cc, (∀ A ∈ As, CcOk A) ∧ l.length = As.length ∧ l.flatMap (absC Try.prog 5 83) = As.flatMap Cc.cells := fun l => by
      induction l with
      | nil => exact fun _ => ⟨[], by simp, rfl, rfl⟩
      | cons y r ih =>
        intro hs
        obtain ⟨As, h1, h2, h3⟩ := ih fun z hz => hs z (by simp [hz])
        obtain ⟨A, hA, hc⟩ := act_of (hs y (by simp)).1 (hs y (by simp)).2
        exact ⟨A :: As, by simpa using ⟨hA, h1⟩, by simp [h2], by rw [List.flatMap_cons, List.flatMap_cons, h3, hc]⟩
    obtain ⟨As, h1, h2, h3⟩ := gen l fun y hy => ⟨hs y hy, Nat.le_trans (part_le hy) (Nat.le_trans hbl hb)⟩
    refine ⟨.imm 102 As.length false (As.flatMap Cc.cells), As, ?_, .inr ⟨false, rfl⟩, h1⟩
    rw [← h2, ← h3]
    simp only [absC, u81, c83]
end
set_option maxRecDepth 100000 in
theorem lifted (os : Os) (started : os.Started) (H : Type) (enc : TypeId × Value → H) (F0 : Stop.Interp) :
    ReturnsInHanded {} Try.checked os 10 .any ((Rows.OpenSpec.upto Rows.commitPlaysSpec).pre6 enc Try.prog Try.f10 Rows.commitPlaysUptoRow.domain false) (((Rows.OpenSpec.upto Rows.commitPlaysSpec).at F0).post enc Try.prog Try.f10 false true false false) := by
  refine returnsInHanded_of_cond (C := Try.checked) (s := Rows.OpenSpec.upto Rows.commitPlaysSpec) (k := Rows.uptoSmall) rfl own started (by kernel_rfl) Try.func10
    (OpenSpec.witness (enc := enc) (C := Try.checked) (s := Rows.OpenSpec.upto Rows.commitPlaysSpec) (k := Rows.uptoSmall) rfl false ⟨#[], #[.slice none 0 0], []⟩ 8 (by kernel_rfl) (by kernel_rfl) (by kernel_rfl)
      (x := ([.nil], [], [])) (by kernel_rfl) rfl (by kernel_rfl)) ?_
  intro W base args ds gs before hval0 hW _ hk _
  have hval : ∀ (j : Nat) t v, Try.f10.params[j]? = some t → args[j]? = some v → Value.okWide Try.prog W .any base t v := hval0
  have hW' := hW
  obtain ⟨p, q, hA0, hV, rfl, _, _⟩ := hW
  have hA : DataW.TrodAll enc Try.prog W 0 (fun _ => true) true Try.f10.params.toList args.toList ds p := hA0
  rw [Try.params10] at hA hval
  obtain ⟨v1, d1, rfl, rfl, h1⟩ := trodAll_one hA
  obtain ⟨rfl, rfl⟩ := trodVars_none hV
  simp only [List.append_nil] at hW' hk
  have hlt : ∀ x ∈ p, x.block < W.heap.size := fun x hx => by simpa using hW'.lt x (by simpa using hx)
  obtain ⟨a1, n1, cap1, rfl⟩ := okWide_slice u81 (hval 0 81 v1 rfl rfl)
  obtain ⟨f1, e1⟩ := id h1
  have hbulk : Rows.uptoBulkAll [d1] ≤ 1048576 := of_decide_eq_true hk
  obtain ⟨L, As, eb, hL, hAs⟩ := acts_of (shp_of 6 81 shp81 f1 _ _ e1) (Nat.le_trans (part_le (by simp)) hbulk)
  have l1 := lift 6 81 good81 f1 _ _ (by rw [c81]; rfl) e1
  rw [eb] at l1
  have run := cplays_all hL hAs
  have run' : Calls Try.prog 10 #[.slice a1 n1 cap1] W fun e w' => e = .returned (.bool true) ∧ Below W.heap.size W w' :=
    (run (gW W) W _ (okW W) l1.1).mono fun e w' ⟨g', st', a, v, h1, h2, h3, h4⟩ => by
      subst h4
      rw [h3.val_inv] at h1
      exact ⟨h1, h2.os, h2.tape, h2.output, h2.size, fun b hb => h2.frame b hb fun id o ho => by
        have := (St.wget_get ho).1
        simp [st00, St.get, Tr.get] at this⟩
  refine run'.mono fun e W' ⟨he, hb⟩ => ?_
  have k1 := Below.trod laidOut (by kernel_rfl) (of_decide_eq_true (by kernel_rfl)) h1 hb hlt
  exact ⟨_, he, ⟨_, _, _, [], _, [], hW', trodAll_mk1 (shut_bool Try.underlying4 _), trodAll_mk1 k1, rfl, hb.frame _, fun h => by cases h⟩⟩
theorem holds : Rows.CommitPlaysUptoSaid :=
  OpenClaim.holds_of_cond 10 Try.f10 rfl rfl rfl rfl rfl rfl rfl ⟨rfl, rfl, rfl, rfl, rfl⟩ rfl rfl rfl rfl rfl (by kernel_rfl) Try.func10 (by kernel_rfl)
    (of_decide_eq_true (by kernel_rfl)) (by unfold Func.isWrapper; first | (rw [if_pos (by decide +kernel)]; kernel_rfl) | (rw [if_neg (by decide +kernel)]; exact ⟨rfl, rfl⟩))
    (fun os started H enc _ F0 => lifted os started H enc F0)
end Go.Proofs.Ytniaiciabfdbnaa.CommitPlays
