/- CommitForms of escritoirelaw19 returns true, whatever the head and the bytes, and both read as they did. No condition. -/
import Derived.Test.YtniaiciabfdbnaaRows
import Derived.WalkKit
import Derived.ProofKit
import Derived.OpenShut
import Derived.JoinedCond
import Derived.ChangeSlices
import Derived.Carry
import Derived.SizedLaws
import Derived.Test.YtniaiciabfdbnaaFc
namespace Go.Proofs.Ytniaiciabfdbnaa.CommitForms
set_option maxRecDepth 20000
open Go.ChangeShapes Go.WideShapes Go.ChangeAt Go.RowKit Go.Proofs.Ytniaiciabfdbnaa.E
set_option linter.unusedVariables false
theorem own : ownKnob Try.prog.godebug = none := by kernel_rfl
theorem laidOut : laidOutB Try.prog = true := by kernel_rfl
theorem good27 : goodT Try.prog 4 27 = true := by kernel_rfl
theorem good28 : goodT Try.prog 4 28 = true := by kernel_rfl
theorem b5 : Try.prog.bytesOf 5 = 1 := by kernel_rfl
theorem c27 : Try.prog.cellsOf 27 = 98 := by kernel_rfl
theorem c28 : Try.prog.cellsOf 28 = 1 := by kernel_rfl
section
variable {H : Type} {enc : TypeId × Value → H} {W : World} {sp : Nat → Bool} {held : Bool}
theorem fm1 {α β : Type} (f : α → β) : ∀ l : List α, l.flatMap (fun x => [f x]) = l.map f
  | [] => rfl
  | a :: l => by rw [List.flatMap_cons, fm1 f l]; rfl
theorem wf_u8 {n : Int} (h : (Lit.int .u64 n).wf = true) : 0 ≤ n ∧ n ≤ 18446744073709551615 := by
  simp only [Lit.wf, decide_eq_true_eq, Bool.and_eq_true] at h
  have h1 : IntKind.u64.min = 0 := rfl
  have h2 : IntKind.u64.max = 18446744073709551615 := rfl
  rw [h1, h2] at h
  exact h
theorem wf_b {n : Int} (h : (Lit.int .u8 n).wf = true) : 0 ≤ n ∧ n < 256 := by
  simp only [Lit.wf, decide_eq_true_eq, Bool.and_eq_true] at h
  have h1 : IntKind.u8.min = 0 := rfl
  have h2 : IntKind.u8.max = 255 := rfl
  rw [h1, h2] at h
  omega
theorem lits_array {n e fuel t : Nat} {k : IntKind} {cs : List Value} {x : DataW H × List MemPlace} (hu : Try.prog.underlying t = some (.array n e)) (he : Try.prog.underlying e = some (.int k))
    (h : DataW.trod enc Try.prog W 0 sp held fuel t cs = some x) : ∃ z : Nat → Int, x.1 = .agg ((List.range n).map fun i => .lit (.int k (z i))) ∧ ∀ i, i < n → (Lit.int k (z i)).wf = true := by
  obtain ⟨xs, m, _, rfl, _, hl, hat⟩ := DataW.trod_array hu h
  have each : ∀ i, i < n → ∃ z : Int, (xs.map (·.1))[i]? = some (.lit (.int k z)) ∧ (Lit.int k z).wf = true := fun i hi => by
    have h1 := hat i hi
    rw [List.getElem?_eq_getElem (by omega)] at h1
    obtain ⟨z, _, hx, hz⟩ := DataW.trod_int he h1
    refine ⟨z, ?_, hz⟩
    rw [List.getElem?_map, List.getElem?_eq_getElem (by omega), hx]
    rfl
  have : ∃ z : Nat → Int, ∀ i, i < n → (xs.map (·.1))[i]? = some (.lit (.int k (z i))) ∧ (Lit.int k (z i)).wf = true := by
    refine ⟨fun i => if h : i < n then (each i h).choose else 0, fun i hi => ?_⟩
    simp only [dif_pos hi]
    exact (each i hi).choose_spec
  obtain ⟨z, hz⟩ := this
  have hq : xs.map (·.1) = (List.range n).map fun i => DataW.lit (.int k (z i)) := by
    apply List.ext_getElem?
    intro i
    by_cases hi : i < n
    · rw [(hz i hi).1, List.getElem?_map, List.getElem?_range hi]; rfl
    · rw [List.getElem?_eq_none (by simp; omega), List.getElem?_eq_none (by simp; omega)]
  exact ⟨z, congrArg DataW.agg hq, fun i hi => (hz i hi).2⟩
theorem head_abs {fuel : Nat} {cs : List Value} {x : DataW H × List MemPlace} (h : DataW.trod enc Try.prog W 0 sp held fuel 27 cs = some x) :
    ∃ (s t : Int) (r g : Nat → Int), absC Try.prog 4 27 x.1 = headCells s t r g ∧ (0 ≤ s ∧ s ≤ 18446744073709551615) ∧ (0 ≤ t ∧ t ≤ 18446744073709551615) ∧ (∀ i, i < 32 → 0 ≤ r i ∧ r i < 256) ∧ (∀ i, i < 64 → 0 ≤ g i ∧ g i < 256) := by
  obtain ⟨xs, n, _, rfl, _, hl, hat⟩ := DataW.trod_struct fields27_eq h
  have hl4 : xs.length = 4 := hl
  match xs, hl4 with
  | [y0, y1, y2, y3], _ =>
  have h0 := hat 0 _ rfl
  have h1 := hat 1 _ rfl
  have h2 := hat 2 _ rfl
  have h3 := hat 3 _ rfl
  simp only [List.getElem?_cons_zero, List.getElem?_cons_succ] at h0 h1 h2 h3
  obtain ⟨s, _, rfl, hs⟩ := DataW.trod_int u22 h0
  obtain ⟨t, _, rfl, ht⟩ := DataW.trod_int u22 h1
  obtain ⟨r, hr, rr⟩ := lits_array u24 u5 h2
  obtain ⟨g, hg, gg⟩ := lits_array u25 u5 h3
  refine ⟨s, t, r, g, ?_, wf_u8 hs, wf_u8 ht, fun i hi => wf_b (rr i hi), fun i hi => wf_b (gg i hi)⟩
  obtain ⟨y2a, y2b⟩ := y2
  obtain ⟨y3a, y3b⟩ := y3
  simp only at hr hg
  subst hr
  subst hg
  have a5 : ∀ z : Int, absC (H := H) Try.prog 2 5 (.lit (.int .u8 z)) = [u8 z] := fun z => by simp only [absC, u5]; rfl
  have a24 : ∀ z : Nat → Int, absC (H := H) Try.prog 3 24 (.agg ((List.range 32).map fun i => .lit (.int .u8 (z i)))) = (rootL z).map u8 := fun z => by
    have : absC (H := H) Try.prog 3 24 (.agg ((List.range 32).map fun i => .lit (.int .u8 (z i)))) = ((List.range 32).map fun i => DataW.lit (H := H) (.int .u8 (z i))).flatMap (absC (H := H) Try.prog 2 5) := by
      simp only [absC, u24]
    rw [this, List.flatMap_map]
    simp only [a5, rootL]
    rw [fm1, List.map_map]
    rfl
  have a25 : ∀ z : Nat → Int, absC (H := H) Try.prog 3 25 (.agg ((List.range 64).map fun i => .lit (.int .u8 (z i)))) = (sigL z).map u8 := fun z => by
    have : absC (H := H) Try.prog 3 25 (.agg ((List.range 64).map fun i => .lit (.int .u8 (z i)))) = ((List.range 64).map fun i => DataW.lit (H := H) (.int .u8 (z i))).flatMap (absC (H := H) Try.prog 2 5) := by
      simp only [absC, u25]
    rw [this, List.flatMap_map]
    simp only [a5, sigL]
    rw [fm1, List.map_map]
    rfl
  have a22 : ∀ z : Int, absC (H := H) Try.prog 3 22 (.lit (.int .u64 z)) = [u64 z] := fun z => by simp only [absC, u22]; rfl
  have : ∀ ds : List (DataW H), absC (H := H) Try.prog 4 27 (.agg ds) = absF (absC Try.prog 3) fields27.toList ds := fun ds => by
    rw [absC]
    simp only [fields27_eq]
  simp only [List.map_cons, List.map_nil]
  rw [this]
  show absF (absC Try.prog 3) [_, _, _, _] _ = _
  simp only [absF, a22, a24, a25]
  simp [headCells]
theorem bytes_abs {fuel : Nat} {cs : List Value} {x : DataW H × List MemPlace} (h : DataW.trod enc Try.prog W 0 sp held fuel 28 cs = some x) (hw : ∀ w ∈ x.1.weights Try.prog 28, w ≤ reachBytes) :
    ∃ v : AV, absC Try.prog 4 28 x.1 = [v] ∧ (v = .nils ∨ (∃ (A : List Int) (full : Bool), A.length ≠ 120 ∧ A.length ≤ 140737488355328 ∧ v = .imm 1 A.length full (A.map u8)) ∨ ∃ (x : Nat → Int) (full : Bool), (∀ i, 0 ≤ x i ∧ x i < 256) ∧ v = .imm 1 120 full (bC x)) := by
  have u28 : Try.prog.underlying 28 = some (.slice 5) := Try.underlying28
  rcases open_ints u28 u5 c5 h with ⟨_, rfl⟩ | ⟨a, len, cap, zs, _, _, hlc, _, hz, rfl, _, hwf⟩
  · exact ⟨.nils, by simp only [absC, u28], .inl rfl⟩
  · have hzl : len ≤ zs.length := by rw [hz]; split <;> omega
    have a5 : ∀ z : Int, absC (H := H) Try.prog 3 5 (.lit (.int .u8 z)) = [u8 z] := fun z => by simp only [absC, u5]; rfl
    have hl : (lits (H := H) .u8 (zs.take len)).length = len := by simp [lits]; omega
    have hlt : (zs.take len).length = len := by simp; omega
    refine ⟨.imm 1 (zs.take len).length false ((zs.take len).map u8), ?_, ?_⟩
    · have : absC (H := H) Try.prog 4 28 (.slice (lits .u8 (zs.take len)) (lits .u8 (zs.drop len))) = [.imm (Try.prog.cellsOf 5) (lits (H := H) .u8 (zs.take len)).length false ((lits (H := H) .u8 (zs.take len)).flatMap (absC Try.prog 3 5))] := by
        rw [absC]
        simp only [u28]
      rw [this, hl, c5, hlt]
      congr 2
      unfold lits
      rw [List.flatMap_map]
      simp only [a5]
      rw [fm1]
    · by_cases hn : len = 120
      · subst hn
        have e : (zs.take 120).map u8 = bC fun i => zs.getD i 0 := by
          apply List.ext_getElem?
          intro i
          by_cases hi : i < 120
          · rw [List.getElem?_map, List.getElem?_take, if_pos hi, bC, bL, List.map_map, List.getElem?_map, List.getElem?_range hi]
            simp [List.getElem?_eq_getElem (show i < zs.length by omega)]
          · rw [List.getElem?_eq_none (by simp; omega), List.getElem?_eq_none (by simp [bC, bL]; omega)]
        refine .inr (.inr ⟨fun i => zs.getD i 0, false, fun i => ?_, ?_⟩)
        · show 0 ≤ zs.getD i 0 ∧ zs.getD i 0 < 256
          rw [List.getD_eq_getElem?_getD]
          cases hg : zs[i]? with
          | none => simp
          | some z => exact wf_b (hwf z (List.mem_of_getElem? hg))
        · rw [hlt, e]
      · refine .inr (.inl ⟨zs.take len, false, by omega, ?_, rfl⟩)
        have := hw (((lits (H := H) .u8 (zs.take len)).length + (lits (H := H) .u8 (zs.drop len)).length) * Try.prog.bytesOf 5) (by
          rw [DataW.weights]
          simp only [u28]
          exact List.mem_cons_self ..)
        rw [hl, b5] at this
        simp only [reachBytes] at this
        rw [hlt]
        omega
end
set_option maxRecDepth 100000 in
theorem lifted (os : Os) (started : os.Started) (H : Type) (enc : TypeId × Value → H) :
    ReturnsInHanded {} Try.checked os 3 .any (Rows.commitFormsSpec.pre6 enc Try.prog Try.f3 Rows.commitFormsRow.domain false) (Rows.commitFormsSpec.post enc Try.prog Try.f3 false true false false) := by
  refine returnsInHanded_of_change_sized (C := Try.checked) own started (by kernel_rfl) Try.func3
    (ChangeSpec.witness6 (enc := enc) (C := Try.checked) false ⟨#[], #[.agg (#[.int .u64 0, .int .u64 0] ++ Array.replicate 96 (.int .u8 0)), .slice none 0 0], []⟩ 8 (by kernel_rfl) (by kernel_rfl) (by kernel_rfl) (by kernel_rfl)) ?_
  intro W base args ds gs before hval0 hW _ hsz0 _
  have hsz : (DataW.weightsEach Try.prog (Try.f3.params.toList ++ Rows.commitFormsSpec.plain.varTypes Try.prog) (ds ++ gs)).all (· ≤ reachBytes) = true := hsz0
  clear hsz0
  have hval : ∀ (j : Nat) t v, Try.f3.params[j]? = some t → args[j]? = some v → Value.okWide Try.prog W .any base t v := hval0
  have hW' := hW
  obtain ⟨p, q, hA0, hV, rfl, _, _⟩ := hW
  have hA : DataW.TrodAll enc Try.prog W 0 (fun _ => true) true Try.f3.params.toList args.toList ds p := hA0
  rw [Try.params3] at hA hval hsz
  obtain ⟨v0, v1, d0, d1, p0, p1, rfl, rfl, rfl, h0, h1⟩ := trodAll_two hA
  obtain ⟨rfl, rfl⟩ := trodVars_none hV
  simp only [List.append_nil] at hW'
  have hlt : ∀ x ∈ p0 ++ p1, x.block < W.heap.size := fun x hx => by simpa using hW'.lt x hx
  obtain ⟨cs, rfl, hcs⟩ := okWide_struct fields27_eq (hval 0 27 v0 rfl rfl)
  obtain ⟨f0, e0⟩ := id h0
  obtain ⟨f1, e1⟩ := id h1
  obtain ⟨s, t, r, g, ea, hs, ht, hr, hg⟩ := head_abs e0
  have hw1 : ∀ w ∈ d1.weights Try.prog 28, w ≤ reachBytes := fun w hw => by
    have := List.all_eq_true.1 hsz w (by
      show w ∈ DataW.weightsEach Try.prog ([27, 28] ++ _) [d0, d1]
      rw [List.cons_append, DataW.weightsEach]
      refine List.mem_append_right _ ?_
      rw [List.cons_append, DataW.weightsEach]
      exact List.mem_append_left _ hw)
    simpa using this
  obtain ⟨v, eb, hv⟩ := bytes_abs e1 hw1
  have l0 := lift 4 27 good27 f0 _ _ (by rw [c27]; simpa [Value.cells, c27] using hcs) e0
  obtain ⟨a1, n1, c1, rfl⟩ := okWide_slice Try.underlying28 (hval 1 28 v1 rfl rfl)
  have hc1 : (Value.slice a1 n1 c1).cells.toList = [Value.slice a1 n1 c1] := rfl
  have l1 := lift 4 28 good28 f1 _ _ (by rw [c28, hc1]; rfl) e1
  rw [ea] at l0
  rw [eb, hc1] at l1
  have hcs' : (Value.agg cs).cells.toList = cs.toList := rfl
  rw [hcs'] at l0
  have hargs : VRs (gW W) [.agg (headCells s t r g), v] [.agg cs, .slice a1 n1 c1] := by
    refine .cons ?_ l1.1
    have := VR.agg (g := gW W) _ cs.toList l0.1.1 l0.1.2 l0.2
    simpa using this
  have run := forms_all s t r g hs ht hr hg v hv
  have run' : Calls Try.prog 3 #[.agg cs, .slice a1 n1 c1] W fun e w' => e = .returned (.bool true) ∧ Below W.heap.size W w' :=
    (run (gW W) W _ (okW W) hargs).mono fun e w' ⟨g', st', a, v, h1, h2, h3, h4⟩ => by
      subst h4
      rw [h3.val_inv] at h1
      exact ⟨h1, h2.os, h2.tape, h2.output, h2.size, fun b hb => h2.frame b hb fun id o ho => by
        have := (St.wget_get ho).1
        simp [st00, St.get, Tr.get] at this⟩
  refine run'.mono fun e W' ⟨he, hb⟩ => ?_
  have k0 := Below.trod laidOut (by kernel_rfl) (of_decide_eq_true (by kernel_rfl)) h0 hb fun x hx => hlt x (List.mem_append_left _ hx)
  have k1 := Below.trod laidOut (by kernel_rfl) (of_decide_eq_true (by kernel_rfl)) h1 hb fun x hx => hlt x (List.mem_append_right _ hx)
  exact ⟨_, he, ⟨_, _, _, [], p0 ++ p1, [], hW', trodAll_mk1 (shut_bool Try.underlying4 _), trodAll_mk2 k0 k1, rfl, hb.frame _, fun h => by cases h⟩⟩
theorem holds : Rows.CommitFormsSaid :=
  OpenClaim.holds_of_wide 3 Try.f3 rfl rfl rfl rfl rfl rfl rfl ⟨rfl, rfl, rfl, rfl, rfl⟩ rfl rfl rfl rfl rfl (by kernel_rfl) Try.func3 (by kernel_rfl)
    (of_decide_eq_true (by kernel_rfl)) (by unfold Func.isWrapper; first | (rw [if_pos (by decide +kernel)]; kernel_rfl) | (rw [if_neg (by decide +kernel)]; exact ⟨rfl, rfl⟩))
    (fun os started H enc _ => lifted os started H enc)
end Go.Proofs.Ytniaiciabfdbnaa.CommitForms
