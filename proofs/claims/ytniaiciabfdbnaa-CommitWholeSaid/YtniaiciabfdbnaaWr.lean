/- CommitWhole of escritoirelaw19 returns true, whatever the turn, and it reads as it did. No condition. -/
import Derived.Test.YtniaiciabfdbnaaRows
import Derived.WalkKit
import Derived.ProofKit
import Derived.OpenShut
import Derived.JoinedCond
import Derived.ChangeSlices
import Derived.Carry
import Derived.Test.YtniaiciabfdbnaaWl
namespace Go.Proofs.Ytniaiciabfdbnaa.CommitWhole
set_option maxRecDepth 20000
open Go.ChangeShapes Go.WideShapes Go.ChangeAt Go.RowKit Go.Proofs.Ytniaiciabfdbnaa.E
set_option linter.unusedVariables false
theorem own : ownKnob Try.prog.godebug = none := by kernel_rfl
theorem laidOut : laidOutB Try.prog = true := by kernel_rfl
theorem good79 : goodT Try.prog 5 79 = true := by kernel_rfl
theorem c79 : Try.prog.cellsOf 79 = 200 := by kernel_rfl
theorem c50 : Try.prog.cellsOf 50 = 1 := by kernel_rfl
def fields79 : Array Field := #[⟨ "None", 4, 0, false, "", "", 0⟩, ⟨ "Old", 27, 1, false, "", "", 8⟩, ⟨ "Anew", 27, 99, false, "", "", 120⟩, ⟨ "Fuse", 5, 197, false, "", "", 232⟩, ⟨ "Picks", 67, 198, false, "", "", 240⟩, ⟨ "Room", 50, 199, false, "", "", 264⟩]
theorem fields79_eq : Try.prog.underlying 79 = some (.struct fields79) := by kernel_rfl
theorem u4 : Try.prog.underlying 4 = some .bool := by kernel_rfl
theorem u67 : Try.prog.underlying 67 = some (.slice 50) := by kernel_rfl
theorem u50 : Try.prog.underlying 50 = some (.int .u16) := by kernel_rfl
section
variable {H : Type} {enc : TypeId × Value → H} {W : World} {sp : Nat → Bool} {held : Bool}
theorem fm1 {α β : Type} (f : α → β) : ∀ l : List α, l.flatMap (fun x => [f x]) = l.map f
  | [] => rfl
  | a :: l => by rw [List.flatMap_cons, fm1 f l]; rfl
theorem wf_u8 {n : Int} (h : (Lit.int .u64 n).wf = true) : 0 ≤ n ∧ n ≤ 18446744073709551615 := by
  simp only [Lit.wf, decide_eq_true_eq, Bool.and_eq_true] at h
  have h1 : IntKind.u64.min = 0 := rfl
  have h2 : IntKind.u64.max = 18446744073709551615 := rfl
  rw [h1, h2] at h
  exact h
theorem lits_array {n e fuel t : Nat} {k : IntKind} {cs : List Value} {x : DataW H × List MemPlace} (hu : Try.prog.underlying t = some (.array n e)) (he : Try.prog.underlying e = some (.int k))
    (h : DataW.trod enc Try.prog W 0 sp held fuel t cs = some x) : ∃ z : Nat → Int, x.1 = .agg ((List.range n).map fun i => .lit (.int k (z i))) := by
  obtain ⟨xs, m, _, rfl, _, hl, hat⟩ := DataW.trod_array hu h
  have each : ∀ i, i < n → ∃ z : Int, (xs.map (·.1))[i]? = some (.lit (.int k z)) := fun i hi => by
    have h1 := hat i hi
    rw [List.getElem?_eq_getElem (by omega)] at h1
    obtain ⟨z, _, hx, _⟩ := DataW.trod_int he h1
    refine ⟨z, ?_⟩
    rw [List.getElem?_map, List.getElem?_eq_getElem (by omega), hx]
    rfl
  have : ∃ z : Nat → Int, ∀ i, i < n → (xs.map (·.1))[i]? = some (.lit (.int k (z i))) := by
    refine ⟨fun i => if h : i < n then (each i h).choose else 0, fun i hi => ?_⟩
    simp only [dif_pos hi]
    exact (each i hi).choose_spec
  obtain ⟨z, hz⟩ := this
  have hq : xs.map (·.1) = (List.range n).map fun i => DataW.lit (.int k (z i)) := by
    apply List.ext_getElem?
    intro i
    by_cases hi : i < n
    · rw [hz i hi, List.getElem?_map, List.getElem?_range hi]; rfl
    · rw [List.getElem?_eq_none (by simp; omega), List.getElem?_eq_none (by simp; omega)]
  exact ⟨z, congrArg DataW.agg hq⟩
theorem head_abs {fuel : Nat} {cs : List Value} {x : DataW H × List MemPlace} (h : DataW.trod enc Try.prog W 0 sp held fuel 27 cs = some x) :
    ∃ (s t : Int) (r g : Nat → Int), absC Try.prog 4 27 x.1 = headCells s t r g ∧ (0 ≤ s ∧ s ≤ 18446744073709551615) ∧ (0 ≤ t ∧ t ≤ 18446744073709551615) := by
  obtain ⟨xs, n, _, rfl, _, hl, hat⟩ := DataW.trod_struct fields27_eq h
  have hl4 : xs.length = 4 := hl
  match xs, hl4 with
  | [y0, y1, y2, y3], _ =>
  have h0 := hat 0 _ rfl
  have h1 := hat 1 _ rfl
  have h2 := hat 2 _ rfl
  have h3 := hat 3 _ rfl
  simp only [List.getElem?_cons_zero, List.getElem?_cons_succ] at h0 h1 h2 h3
  obtain ⟨s, _, rfl, hs⟩ := DataW.trod_int u22 h0
  obtain ⟨t, _, rfl, ht⟩ := DataW.trod_int u22 h1
  obtain ⟨r, hr⟩ := lits_array u24 u5 h2
  obtain ⟨g, hg⟩ := lits_array u25 u5 h3
  refine ⟨s, t, r, g, ?_, wf_u8 hs, wf_u8 ht⟩
  obtain ⟨y2a, y2b⟩ := y2
  obtain ⟨y3a, y3b⟩ := y3
  simp only at hr hg
  subst hr
  subst hg
  have a5 : ∀ z : Int, absC (H := H) Try.prog 2 5 (.lit (.int .u8 z)) = [u8 z] := fun z => by simp only [absC, u5]; rfl
  have a24 : ∀ z : Nat → Int, absC (H := H) Try.prog 3 24 (.agg ((List.range 32).map fun i => .lit (.int .u8 (z i)))) = (rootL z).map u8 := fun z => by
    have : absC (H := H) Try.prog 3 24 (.agg ((List.range 32).map fun i => .lit (.int .u8 (z i)))) = ((List.range 32).map fun i => DataW.lit (H := H) (.int .u8 (z i))).flatMap (absC (H := H) Try.prog 2 5) := by
      simp only [absC, u24]
    rw [this, List.flatMap_map]
    simp only [a5, rootL]
    rw [fm1, List.map_map]
    rfl
  have a25 : ∀ z : Nat → Int, absC (H := H) Try.prog 3 25 (.agg ((List.range 64).map fun i => .lit (.int .u8 (z i)))) = (sigL z).map u8 := fun z => by
    have : absC (H := H) Try.prog 3 25 (.agg ((List.range 64).map fun i => .lit (.int .u8 (z i)))) = ((List.range 64).map fun i => DataW.lit (H := H) (.int .u8 (z i))).flatMap (absC (H := H) Try.prog 2 5) := by
      simp only [absC, u25]
    rw [this, List.flatMap_map]
    simp only [a5, sigL]
    rw [fm1, List.map_map]
    rfl
  have a22 : ∀ z : Int, absC (H := H) Try.prog 3 22 (.lit (.int .u64 z)) = [u64 z] := fun z => by simp only [absC, u22]; rfl
  have : ∀ ds : List (DataW H), absC (H := H) Try.prog 4 27 (.agg ds) = absF (absC Try.prog 3) fields27.toList ds := fun ds => by
    rw [absC]
    simp only [fields27_eq]
  simp only [List.map_cons, List.map_nil]
  rw [this]
  show absF (absC Try.prog 3) [_, _, _, _] _ = _
  simp only [absF, a22, a24, a25]
  simp [headCells]
theorem wf_u8' {n : Int} (h : (Lit.int .u8 n).wf = true) : 0 ≤ n ∧ n ≤ 255 := by
  simp only [Lit.wf, decide_eq_true_eq, Bool.and_eq_true] at h
  have h1 : IntKind.u8.min = 0 := rfl
  have h2 : IntKind.u8.max = 255 := rfl
  rw [h1, h2] at h
  exact h
theorem wf_u16 {n : Int} (h : (Lit.int .u16 n).wf = true) : 0 ≤ n ∧ n ≤ 65535 := by
  simp only [Lit.wf, decide_eq_true_eq, Bool.and_eq_true] at h
  have h1 : IntKind.u16.min = 0 := rfl
  have h2 : IntKind.u16.max = 65535 := rfl
  rw [h1, h2] at h
  exact h
theorem picks_abs {fuel : Nat} {cs : List Value} {x : DataW H × List MemPlace} (h : DataW.trod enc Try.prog W 0 sp held fuel 67 cs = some x) :
    ∃ pk : AV, absC Try.prog 4 67 x.1 = [pk] ∧ (pk = .nils ∨ ∃ n full cells, pk = .imm 1 n full cells ∧ (0 < n → ∃ p0 rest, cells = .val (.int .u16 p0) :: rest ∧ 0 ≤ p0 ∧ p0 ≤ 65535)) := by
  rcases open_ints u67 u50 c50 h with ⟨_, rfl⟩ | ⟨a, len, cap, zs, _, _, hlc, _, hz, rfl, _, hwf⟩
  · exact ⟨.nils, by simp only [absC, u67], .inl rfl⟩
  · have hzl : len ≤ zs.length := by rw [hz]; split <;> omega
    have a50 : ∀ z : Int, absC (H := H) Try.prog 3 50 (.lit (.int .u16 z)) = [.val (.int .u16 z)] := fun z => by simp only [absC, u50]
    have hl : (lits (H := H) .u16 (zs.take len)).length = len := by simp [lits]; omega
    refine ⟨.imm 1 len false ((zs.take len).map fun z => .val (.int .u16 z)), ?_, .inr ⟨len, false, _, rfl, fun h0 => ?_⟩⟩
    · have : absC (H := H) Try.prog 4 67 (.slice (lits .u16 (zs.take len)) (lits .u16 (zs.drop len))) = [.imm (Try.prog.cellsOf 50) (lits (H := H) .u16 (zs.take len)).length false ((lits (H := H) .u16 (zs.take len)).flatMap (absC Try.prog 3 50))] := by
        rw [absC]
        simp only [u67]
      rw [this, hl, c50]
      congr 2
      unfold lits
      rw [List.flatMap_map]
      simp only [a50]
      rw [fm1]
    · cases zs with
      | nil => simp at hzl; omega
      | cons z zs =>
        obtain ⟨l, rfl⟩ : ∃ l, len = l + 1 := ⟨len - 1, by omega⟩
        exact ⟨z, _, by rw [List.take_succ_cons, List.map_cons], wf_u16 (hwf z (by simp))⟩
theorem head_abs4 {fuel : Nat} {cs : List Value} {x : DataW H × List MemPlace} (h : DataW.trod enc Try.prog W 0 sp held fuel 27 cs = some x) :
    ∃ (s t : Int) (r g : Nat → Int), absC Try.prog 4 27 x.1 = headCells s t r g ∧ (0 ≤ s ∧ s ≤ 18446744073709551615) ∧ (0 ≤ t ∧ t ≤ 18446744073709551615) := head_abs h
theorem turn_abs {fuel : Nat} {cs : List Value} {x : DataW H × List MemPlace} (h : DataW.trod enc Try.prog W 0 sp held fuel 79 cs = some x) :
    ∃ (none : Bool) (s t : Int) (r g : Nat → Int) (s2 t2 : Int) (r2 g2 : Nat → Int) (fu room : Int) (pk : AV), absC Try.prog 5 79 x.1 = bo none :: (headCells s t r g ++ (headCells s2 t2 r2 g2 ++ [u8 fu, pk, .val (.int .u16 room)])) ∧
      (0 ≤ s ∧ s ≤ 18446744073709551615) ∧ (0 ≤ t ∧ t ≤ 18446744073709551615) ∧ (0 ≤ s2 ∧ s2 ≤ 18446744073709551615) ∧ (0 ≤ t2 ∧ t2 ≤ 18446744073709551615) ∧ (0 ≤ fu ∧ fu ≤ 255) ∧ (0 ≤ room ∧ room ≤ 65535) ∧
      (pk = .nils ∨ ∃ n full cells, pk = .imm 1 n full cells ∧ (0 < n → ∃ p0 rest, cells = .val (.int .u16 p0) :: rest ∧ 0 ≤ p0 ∧ p0 ≤ 65535)) := by
  obtain ⟨xs, n, _, rfl, _, hl, hat⟩ := DataW.trod_struct fields79_eq h
  have hl6 : xs.length = 6 := hl
  match xs, hl6 with
  | [y0, y1, y2, y3, y4, y5], _ =>
  have h0 := hat 0 _ rfl
  have h1 := hat 1 _ rfl
  have h2 := hat 2 _ rfl
  have h3 := hat 3 _ rfl
  have h4 := hat 4 _ rfl
  have h5 := hat 5 _ rfl
  simp only [List.getElem?_cons_zero, List.getElem?_cons_succ] at h0 h1 h2 h3 h4 h5
  obtain ⟨none, _, rfl⟩ := DataW.trod_bool u4 h0
  obtain ⟨s, t, r, g, a1, hs, ht⟩ := head_abs4 h1
  obtain ⟨s2, t2, r2, g2, a2, hs2, ht2⟩ := head_abs4 h2
  obtain ⟨fu, _, rfl, hfu⟩ := DataW.trod_int u5 h3
  obtain ⟨pk, a4, hpk⟩ := picks_abs h4
  obtain ⟨room, _, rfl, hroom⟩ := DataW.trod_int u50 h5
  refine ⟨none, s, t, r, g, s2, t2, r2, g2, fu, room, pk, ?_, hs, ht, hs2, ht2, wf_u8' hfu, wf_u16 hroom, hpk⟩
  have this : ∀ ds : List (DataW H), absC (H := H) Try.prog 5 79 (.agg ds) = absF (absC Try.prog 4) fields79.toList ds := fun ds => by
    rw [absC]
    simp only [fields79_eq]
  have a0 : absC (H := H) Try.prog 4 4 (.lit (.bool none)) = [bo none] := by simp only [absC, u4]; rfl
  have a3 : absC (H := H) Try.prog 4 5 (.lit (.int .u8 fu)) = [u8 fu] := by simp only [absC, u5]; rfl
  have a5 : absC (H := H) Try.prog 4 50 (.lit (.int .u16 room)) = [.val (.int .u16 room)] := by simp only [absC, u50]
  simp only [List.map_cons, List.map_nil]
  rw [this]
  show absF (absC Try.prog 4) [_, _, _, _, _, _] _ = _
  simp only [absF, a0, a1, a2, a3, a4, a5]
  simp
end
set_option maxRecDepth 100000 in
theorem lifted (os : Os) (started : os.Started) (H : Type) (enc : TypeId × Value → H) :
    ReturnsInHanded {} Try.checked os 9 .any (Rows.commitWholeSpec.pre6 enc Try.prog Try.f9 Rows.commitWholeRow.domain false) (Rows.commitWholeSpec.post enc Try.prog Try.f9 false true false false) := by
  refine returnsInHanded_of_change (C := Try.checked) own started (by kernel_rfl) Try.func9
    (ChangeSpec.witness6 (enc := enc) (C := Try.checked) false ⟨#[], #[.agg (#[.bool false, .int .u64 0, .int .u64 0] ++ Array.replicate 96 (.int .u8 0) ++ #[.int .u64 0, .int .u64 0] ++ Array.replicate 96 (.int .u8 0) ++ #[.int .u8 0, .slice none 0 0, .int .u16 0])], []⟩ 8 (by kernel_rfl) (by kernel_rfl) (by kernel_rfl) (by kernel_rfl)) ?_
  intro W base args ds gs before hval0 hW hcnd _
  have hval : ∀ (j : Nat) t v, Try.f9.params[j]? = some t → args[j]? = some v → Value.okWide Try.prog W .any base t v := hval0
  have hW' := hW
  obtain ⟨p, q, hA0, hV, rfl, _, _⟩ := hW
  have hA : DataW.TrodAll enc Try.prog W 0 (fun _ => true) true Try.f9.params.toList args.toList ds p := hA0
  rw [Try.params9] at hA hval
  obtain ⟨v0, d0, rfl, rfl, h0⟩ := trodAll_one hA
  obtain ⟨rfl, rfl⟩ := trodVars_none hV
  simp only [List.append_nil] at hW'
  have hlt : ∀ x ∈ p, x.block < W.heap.size := fun x hx => by simpa using hW'.lt x hx
  obtain ⟨cs, rfl, hcs⟩ := okWide_struct fields79_eq (hval 0 79 v0 rfl rfl)
  obtain ⟨f0, e0⟩ := id h0
  obtain ⟨none, s, t, r, g, s2, t2, r2, g2, fu, room, pk, ea, hs, ht, hs2, ht2, hfu, hroom, hpk⟩ := turn_abs e0
  have l0 := lift 5 79 good79 f0 _ _ (by rw [c79]; simpa [Value.cells, c79] using hcs) e0
  rw [ea] at l0
  have hcs' : (Value.agg cs).cells.toList = cs.toList := rfl
  rw [hcs'] at l0
  have hargs : VRs (gW W) [turn none s t r g s2 t2 r2 g2 fu pk room] [.agg cs] := by
    refine .cons ?_ (.nil _)
    have := VR.agg (g := gW W) _ cs.toList l0.1.1 l0.1.2 l0.2
    simpa [turn] using this
  refine (run_of (whole_all none s t r g s2 t2 r2 g2 fu room pk hs ht hs2 ht2 hfu hroom hpk) hargs).mono fun e W' ⟨he, hb⟩ => ?_
  have k0 := Below.trod laidOut (by kernel_rfl) (of_decide_eq_true (by kernel_rfl)) h0 hb hlt
  exact ⟨_, he, ⟨_, _, _, [], p, [], hW', trodAll_mk1 (shut_bool Try.underlying4 _), trodAll_mk1 k0, rfl, hb.frame _, fun h => by cases h⟩⟩
theorem holds : Rows.CommitWholeSaid :=
  OpenClaim.holds_of_wide 9 Try.f9 rfl rfl rfl rfl rfl rfl rfl ⟨rfl, rfl, rfl, rfl, rfl⟩ rfl rfl rfl rfl rfl (by kernel_rfl) Try.func9 (by kernel_rfl)
    (of_decide_eq_true (by kernel_rfl)) (by unfold Func.isWrapper; first | (rw [if_pos (by decide +kernel)]; kernel_rfl) | (rw [if_neg (by decide +kernel)]; exact ⟨rfl, rfl⟩))
    (fun os started H enc _ => lifted os started H enc)
end Go.Proofs.Ytniaiciabfdbnaa.CommitWhole
