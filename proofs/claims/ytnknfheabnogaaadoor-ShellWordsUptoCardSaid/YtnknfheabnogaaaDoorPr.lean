/- ShellWords holds of the given program in its second form (arguments that hold at most 1048576 values and letters): any bytes' word, and what word any text begins with, are the document's. Condition: the second form's bound; the given card's own. -/
import Derived.Test.YtnknfheabnogaaaDoorP5
import Derived.Test.YtnknfheabnogaaaDoorCards
import Derived.Test.YtnknfheabnogaaaDoorTie
import Derived.WalkKit
import Derived.ProofKit
import Derived.OpenShut
import Derived.JoinedCond
import Derived.ChangeSlices
import Derived.Carry
import Derived.Deep.DeepHandedRow
import Derived.Lib.LaidTab
import Derived.Lay
namespace Go.Proofs.YtnknfheabnogaaaDoor.ShellWords
set_option maxRecDepth 20000
open Go Go.Proofs
open Go.ChangeShapes Go.WideShapes Go.ChangeAt Go.RowKit Go.Proofs.YtnknfheabnogaaaDoor.E
set_option linter.unusedVariables false
theorem own : ownKnob Tryd.prog.godebug = none := by kernel_rfl
theorem laidOut : laidOutB Tryd.prog = true := by kernel_rfl
theorem g32 : Tryd.prog.globalNamed "math/bits.deBruijn32tab" = some 6 := by kernel_rfl
theorem g64 : Tryd.prog.globalNamed "math/bits.deBruijn64tab" = some 7 := by kernel_rfl
theorem g10 : Tryd.prog.globalNamed "internal/strconv.uint64pow10" = some 1 := by kernel_rfl
theorem tabs {W : World} (h : laidMetH Tryd.prog Rows.shellWordsUptoRow.laid W) : E.TabsIn W E.tabsD := by
  have h0 : laidMet Tryd.prog Rows.shellWordsUptoRow.laid W := h
  obtain ⟨ps, h1, _⟩ := h0
  obtain ⟨t1, q1, h2⟩ := E.laid_head (k := .u8) (zs := E.zs32) (t := 135) g32 (by kernel_rfl) Tryd.underlying135 Tryd.underlying5 (by kernel_rfl) (by kernel_rfl) h1
  obtain ⟨t2, q2, h3⟩ := E.laid_head (k := .u8) (zs := E.zs64) (t := 136) g64 (by kernel_rfl) Tryd.underlying136 Tryd.underlying5 (by kernel_rfl) (by kernel_rfl) h2
  obtain ⟨t3, q3, h4⟩ := E.laid_head (k := .u64) (zs := E.zs10) (t := 113) g10 (by kernel_rfl) Tryd.underlying113 Tryd.underlying96 (by kernel_rfl) (by kernel_rfl) h3
  intro t ht
  simp only [E.tabsD, List.mem_cons, List.mem_nil_iff, or_false] at ht
  rcases ht with rfl | rfl | rfl
  · exact E.TabIs.heap t1 g32
  · exact E.TabIs.heap t2 g64
  · exact E.TabIs.heap t3 g10
theorem good22 : goodT Tryd.prog 3 22 = true := by kernel_rfl
theorem shp22 : shpT Tryd.prog 3 22 = true := by kernel_rfl
theorem shp9 : shpT Tryd.prog 3 9 = true := by kernel_rfl
theorem c22 : Tryd.prog.cellsOf 22 = 1 := by kernel_rfl
theorem c5 : Tryd.prog.cellsOf 5 = 1 := by kernel_rfl
theorem u22 : Tryd.prog.underlying 22 = some (.slice 5) := by kernel_rfl
theorem u5 : Tryd.prog.underlying 5 = some (.int .u8) := by kernel_rfl
theorem u9 : Tryd.prog.underlying 9 = some .string := by kernel_rfl
section
variable {H : Type}
theorem one_le (d : DataW H) : 1 ≤ Rows.uptoBulk d := by
  cases d with
  | lit l => cases l <;> simp [Rows.uptoBulk]
  | nil => simp [Rows.uptoBulk]
  | ptr d => simp [Rows.uptoBulk]
  | slice elems spare => simp [Rows.uptoBulk]
  | agg parts => simp [Rows.uptoBulk]
  | iface t d => simp [Rows.uptoBulk]
  | map entries => simp [Rows.uptoBulk]
  | held h => simp [Rows.uptoBulk]
theorem part_le {d : DataW H} {l : List (DataW H)} (h : d ∈ l) : Rows.uptoBulk d ≤ Rows.uptoBulkAll l := by
  induction l with
  | nil => cases h
  | cons x r ih =>
    simp only [Rows.uptoBulkAll]
    cases List.mem_cons.1 h with
    | inl e => subst e; omega
    | inr e => have := ih e; omega
theorem length_le (l : List (DataW H)) : l.length ≤ Rows.uptoBulkAll l := by
  induction l with
  | nil => simp [Rows.uptoBulkAll]
  | cons x r ih => have := one_le x; simp only [Rows.uptoBulkAll, List.length_cons]; omega
theorem bulk_slice (l sp : List (DataW H)) : l.length ≤ Rows.uptoBulk (.slice l sp) := by
  have := length_le l
  simp only [Rows.uptoBulk]; omega
theorem wf8 {n : Int} (h : (Lit.int .u8 n).wf = true) : 0 ≤ n ∧ n ≤ 255 := by
  simp only [Lit.wf, decide_eq_true_eq, Bool.and_eq_true] at h
  exact h
/-- a slice of bytes, as the call finds it -/
theorem bytes_of {d : DataW H} (h : Shp Tryd.prog 3 22 d) (hb : Rows.uptoBulk d ≤ 1048576) : ∃ (v : AV) (bs : List UInt8), absC Tryd.prog 3 22 d = [v] ∧ (∀ st, BS st v bs) ∧ bs.length ≤ 1048576 := by
  obtain ⟨ns, hn, _, hc⟩ := shp_nums u22 u5 c5 h
  have hl : ns.length ≤ 1048576 := by
    rcases hc with ⟨rfl, _⟩ | ⟨l, sp, rfl, h1, _⟩
    · simp
    · have := bulk_slice l sp; omega
  have e : bytesAV (ns.map fun n => UInt8.ofNat n.toNat) = ns.map fun n => .val (.int .u8 n) := by
    unfold bytesAV
    rw [List.map_map]
    exact List.map_congr_left fun n hm => by
      have := wf8 (hn n hm)
      show AV.val (.int .u8 ((UInt8.ofNat n.toNat).toNat : Int)) = _
      rw [UInt8.toNat_ofNat', Nat.mod_eq_of_lt (by omega), Int.toNat_of_nonneg (by omega)]
  rcases hc with ⟨h0, _, ha⟩ | ⟨l, sp, _, _, ha⟩
  · exact ⟨_, ns.map fun n => UInt8.ofNat n.toNat, ha, fun st => .inl ⟨rfl, by rw [h0]; rfl⟩, by rw [List.length_map]; exact hl⟩
  · exact ⟨_, ns.map fun n => UInt8.ofNat n.toNat, ha, fun st => .inr (.inl ⟨false, by rw [e, List.length_map]⟩), by rw [List.length_map]; exact hl⟩
end
theorem okWT {W : World} {ts : List (Nat × IntKind × List Int)} (hne : ∀ t ∈ ts, t.2.2 ≠ []) (h : TabsIn W ts) : OK (gW W) (stTab ts) W :=
  ⟨(okW W).imm, fun id o h => by simp [stTab, St.get, Tr.get] at h, fun id o _ _ h => by simp [stTab, St.get, Tr.get] at h, fun id o h => by simp [stTab, St.get, Tr.get] at h, rfl, fun p hp => by
    obtain ⟨t, ht, rfl⟩ := List.mem_map.1 hp
    obtain ⟨T, fr, hh⟩ := h t ht
    have hv : VRs (gW W) (intsAV t.2.1 t.2.2) (t.2.2.map fun z => Value.int t.2.1 z) := .of_get (by simp [intsAV]) fun i c u hc hu => by
      unfold intsAV at hc
      rw [List.getElem?_map] at hc hu
      obtain ⟨z, hz, rfl⟩ := Option.map_eq_some_iff.1 hc
      rw [hz] at hu
      cases hu
      exact .val _ rfl
    have hM : (gW W).M t.1 = t.2.2.map fun z => Value.int t.2.1 z := by
      show (match W.heap[t.1]? with | some (.cells cs _ _) => cs.toList | _ => []) = _
      rw [hh]
    have hne2 : (t.1, intsAV t.2.1 t.2.2).2 ≠ [] := fun e => hne t ht (List.map_eq_nil_iff.1 e)
    refine ⟨.iptr _ _ _ hv.1 hv.2 (fun u hu => ?_) ⟨rfl, ?_⟩, fun _ => ⟨?_, ?_⟩, fun e => absurd e hne2⟩
    · obtain ⟨z, _, rfl⟩ := List.mem_map.1 hu
      rfl
    · show _ <+: List.drop 0 ((gW W).M t.1)
      rw [hM]
      exact List.prefix_refl _
    · show (gW W).M t.1 ≠ []
      rw [hM]
      exact fun e => hne t ht (List.map_eq_nil_iff.1 e)
    · show ((gW W).M t.1).length = _
      rw [hM]
      simp [intsAV]⟩
theorem tabs_ne : ∀ t ∈ tabsD, t.2.2 ≠ [] := fun t ht => by
  simp only [tabsD, List.mem_cons, List.mem_nil_iff, or_false] at ht
  rcases ht with rfl | rfl | rfl
  · show zs32 ≠ []; unfold zs32; simp
  · show zs64 ≠ []; unfold zs64; simp
  · show zs10 ≠ []; unfold zs10; simp
theorem contract (F : Stop.Interp) (H : Type) (enc : TypeId × Value → H) (W : World) (base : Nat) (args : Array Value) (ds gs : List (DataW H)) (before : List MemPlace)
    (hval : ∀ (j : Nat) t v, Tryd.f3.params[j]? = some t → args[j]? = some v → Value.okWide Tryd.prog W .any base t v)
    (hW : DataW.Whole enc Tryd.prog Tryd.f3.params.toList Rows.shellWordsSpec.vars false W args.toList ds gs before) (hk : Rows.uptoSmall H (ds ++ gs) = true) (hL : laidMetH Tryd.prog Rows.shellWordsUptoRow.laid W) :
    Calls Tryd.prog 3 args W fun e W' => ∃ v, e = .returned v ∧ ((Rows.OpenSpec.upto Rows.shellWordsSpec).at F).post enc Tryd.prog Tryd.f3 false true false false W args v W' := by
  have hW' := hW
  obtain ⟨p, q, hA0, hV, rfl, _, _⟩ := hW
  have hA : DataW.TrodAll enc Tryd.prog W 0 (fun _ => true) true Tryd.f3.params.toList args.toList ds p := hA0
  rw [Tryd.params3] at hA hval
  obtain ⟨v0, v2, d0, d2, p0, p2, rfl, rfl, rfl, h0, h2⟩ := trodAll_two hA
  obtain ⟨rfl, rfl⟩ := trodVars_none hV
  simp only [List.append_nil] at hW' hk
  have hlt : ∀ x ∈ p0 ++ p2, x.block < W.heap.size := fun x hx => by simpa using hW'.lt x hx
  obtain ⟨a1, n1, cap1, rfl⟩ := okWide_slice u22 (hval 0 22 v0 rfl rfl)
  have hbulk : Rows.uptoBulkAll [d0, d2] ≤ 1048576 := of_decide_eq_true hk
  obtain ⟨f0, e0⟩ := id h0
  obtain ⟨f2, e2⟩ := id h2
  obtain ⟨L0, xs, b0, B0, x0⟩ := bytes_of (shp_of 3 22 shp22 f0 _ _ e0) (Nat.le_trans (part_le (by simp)) hbulk)
  have l0 := lift 3 22 good22 f0 _ _ (by rw [c22]; rfl) e0
  rw [b0] at l0
  obtain ⟨s, rfl⟩ := okWide_string u9 (hval 1 9 v2 rfl rfl)
  obtain ⟨s', hc2, hx2, hs⟩ := DataW.trod_string u9 e2
  have hss : s' = s := by
    have hc3 : [Value.string s] = [Value.string s'] := hc2
    simpa using hc3.symm
  subst hss
  simp only [Prod.mk.injEq] at hx2
  obtain ⟨rfl, rfl⟩ := hx2
  have hsl : s'.data.toList.length ≤ 1048576 := by
    have : Rows.uptoBulk (DataW.lit (H := H) (.string s'.data.toList)) ≤ 1048576 := Nat.le_trans (part_le (by simp)) hbulk
    simp only [Rows.uptoBulk] at this
    omega
  have hargs : VRs (gW W) [L0, sb s'.data.toList] [.slice a1 n1 cap1, .string s'] := .cons l0.1.head (.cons (.val _ rfl) (.nil _))
  obtain ⟨stE, run, _⟩ := words_ok (st := stTab tabsD) (fun p hp => hp) (fun i o h => by simp [stTab, St.get, Tr.get] at h) rfl (B0 _) (t := s'.data.toList) (Nat.le_trans x0 (by decide)) (Nat.le_trans hsl (by decide))
  have run' : Calls Tryd.prog 3 #[.slice a1 n1 cap1, .string s'] W fun e w' => e = .returned (.bool true) ∧ Below W.heap.size W w' :=
    (run (gW W) W _ (okWT tabs_ne (tabs hL)) hargs).mono fun e w' ⟨g', st', a, v, h1, h2, h3, h4⟩ => by
      obtain ⟨h4, _⟩ := h4
      subst h4
      rw [h3.val_inv] at h1
      exact ⟨h1, h2.os, h2.tape, h2.output, h2.size, fun b hb => h2.frame b hb fun id o ho => by
        have := (St.wget_get ho).1
        simp [stTab, St.get, Tr.get] at this⟩
  refine run'.mono fun e W' ⟨he, hb⟩ => ?_
  have k0 := Below.trod laidOut (by kernel_rfl) (of_decide_eq_true (by kernel_rfl)) h0 hb fun x hx => hlt x (List.mem_append_left _ hx)
  have k2 := Below.trod laidOut (by kernel_rfl) (of_decide_eq_true (by kernel_rfl)) h2 hb fun x hx => hlt x (List.mem_append_right _ hx)
  exact ⟨_, he, ⟨_, _, _, [], _, [], hW', trodAll_mk1 (shut_bool Tryd.underlying4 _), trodAll_mk2 k0 k2, rfl, hb.frame _, fun h => by cases h⟩⟩

noncomputable def laidWorld (os : Os) : World := World.laidAll Tryd.prog os Rows.shellWordsUptoRow.laid
def wargs : Array Value := #[.slice none 0 0, .string ⟨#[]⟩]
theorem laid_met (os : Os) : laidMet Tryd.prog Rows.shellWordsUptoRow.laid ((laidWorld os).forCall (fun _ _ => 0) ⟨#[], wargs, []⟩).memory :=
  laidMet_laidAll wargs (by kernel_rfl) (by kernel_rfl)
theorem reads (os : Os) {H : Type} (enc : TypeId × Value → H) : ∃ places, DataW.whole enc Tryd.prog ((laidWorld os).forCall (fun _ _ => 0) ⟨#[], wargs, []⟩).memory Tryd.f3.params.toList Rows.shellWordsSpec.vars false wargs.toList 8 = some ([.nil, .lit (.string [])], [], places) :=
  ⟨[], by kernel_rfl⟩

set_option maxRecDepth 100000 in
theorem lifted (os : Os) (started : os.Started) (H : Type) (enc : TypeId × Value → H) (F : Stop.Interp) :
    ReturnsInHanded {} Tryd.checked os 3 .any ((Rows.OpenSpec.upto Rows.shellWordsSpec).preRow enc Tryd.prog Tryd.f3 Rows.shellWordsUptoRow.domain false Rows.shellWordsUptoRow.laid) (((Rows.OpenSpec.upto Rows.shellWordsSpec).at F).post enc Tryd.prog Tryd.f3 false true false false) := by
  obtain ⟨places, hx⟩ := reads os enc
  refine returnsInHanded_of_row (C := Tryd.checked) (s := Rows.OpenSpec.upto Rows.shellWordsSpec) own started (by kernel_rfl) Tryd.func3
    (witness_row_at (enc := enc) (C := Tryd.checked) false (laidWorld os) wargs rfl (by kernel_rfl) (by kernel_rfl) (by kernel_rfl)
      (OpenSpec.preRow_of_cond 8 hx (by kernel_rfl) (fun k hk => by cases hk; kernel_rfl) (by kernel_rfl) (laid_met os))) ?_
  intro W base args ds gs before hval hW _ hk _ hL _ _
  exact contract F H enc W base args ds gs before hval hW (hk _ rfl) hL

theorem said : Rows.ShellWordsUptoSaid :=
  OpenClaim.holds_of_cond 3 Tryd.f3 rfl rfl rfl rfl rfl rfl rfl ⟨rfl, rfl, rfl, rfl, rfl⟩ rfl rfl rfl rfl rfl (by kernel_rfl) Tryd.func3 (by kernel_rfl)
    (of_decide_eq_true (by kernel_rfl)) (by unfold Func.isWrapper; first | (rw [if_pos (by decide +kernel)]; kernel_rfl) | (rw [if_neg (by decide +kernel)]; exact ⟨rfl, rfl⟩))
    (fun os started H enc _ F => by rw [OpenClaim.pre_eq_preRow]; exact lifted os started H enc F)

theorem w22 : Tryd.pinned.checked.prog.wantsStandIn 22 = false := by kernel_rfl
theorem w9 : Tryd.pinned.checked.prog.wantsStandIn 9 = false := by kernel_rfl
theorem plain (f : FuncId) (fn : Func) (hf : Tryd.pinned.checked.prog.funcNamed "escritoire/escritoirelaw31.ShellWords" = some f) (hfn : Tryd.pinned.checked.prog.funcs[f]? = some fn) :
    true = Tryd.pinned.checked.prog.looks [] ∧ ∀ (j : Nat) t, fn.params[j]? = some t → Tryd.pinned.checked.prog.wantsStandIn t = false := by
  obtain rfl : f = 3 := Option.some.inj ((show Tryd.prog.funcNamed "escritoire/escritoirelaw31.ShellWords" = some 3 by kernel_rfl).symm.trans hf) |>.symm
  obtain rfl : fn = Tryd.f3 := (Option.some.inj (Tryd.func3.symm.trans hfn)).symm
  refine ⟨by kernel_rfl, fun j t ht => ?_⟩
  rw [Tryd.params3] at ht
  match j, ht with
  | 0, ht => cases ht; exact w22
  | 1, ht => cases ht; exact w9
  | j + 2, ht => simp at ht
theorem card : Rows.ShellWordsUptoCardSaid :=
  Claim7.holds_tied_plain_at .later [] _ _ _ _ said (fun _ h => by cases h) (by kernel_rfl) (fun _ h => by cases h) shellWordsUpto_row_tie rfl ⟨rfl, rfl⟩ (by kernel_rfl) rfl plain (by kernel_rfl)
end Go.Proofs.YtnknfheabnogaaaDoor.ShellWords
