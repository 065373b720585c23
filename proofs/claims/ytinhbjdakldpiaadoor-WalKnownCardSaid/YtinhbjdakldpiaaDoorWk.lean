/- WalKnown of escritoirelaw15 returns true in every world that holds the tables its row lists; the card ties them. The abstract machine is run by the kernel. -/
import Derived.Test.YtinhbjdakldpiaaDoorGl
import Derived.Test.YtinhbjdakldpiaaDoorCards
import Derived.Test.YtinhbjdakldpiaaDoorTie
import Derived.WalkKit
import Derived.ProofKit
import Derived.OpenShut
import Derived.Deep.DeepHandedRow
import Derived.Lib.LaidTab
import Derived.Lay
namespace Go.Proofs.YtinhbjdakldpiaaDoor.WalKnown
open Go Go.Proofs
open Go.ChangeShapes Go.WideShapes Go.ChangeAt Go.RowKit
set_option maxRecDepth 100000 in
theorem evaluated : E.isTrue (E.evCall E.E0 E.ovF 1000000 8 [] (E.stTab E.tabsD)) = true := by kernel_rfl
theorem own : ownKnob Tryd.prog.godebug = none := by kernel_rfl
theorem g32 : Tryd.prog.globalNamed "math/bits.deBruijn32tab" = some 4 := by kernel_rfl
theorem g64 : Tryd.prog.globalNamed "math/bits.deBruijn64tab" = some 5 := by kernel_rfl
theorem g10 : Tryd.prog.globalNamed "internal/strconv.uint64pow10" = some 1 := by kernel_rfl
theorem tabs {W : World} (h : laidMetH Tryd.prog Rows.walKnownRow.laid W) : E.TabsIn W E.tabsD := by
  have h0 : laidMet Tryd.prog Rows.walKnownRow.laid W := h
  obtain ⟨ps, h1, _⟩ := h0
  obtain ⟨t1, q1, h2⟩ := E.laid_head (k := .u8) (zs := E.zs32) (t := 214) g32 (by kernel_rfl) Tryd.underlying214 Tryd.underlying5 (by kernel_rfl) (by kernel_rfl) h1
  obtain ⟨t2, q2, h3⟩ := E.laid_head (k := .u8) (zs := E.zs64) (t := 215) g64 (by kernel_rfl) Tryd.underlying215 Tryd.underlying5 (by kernel_rfl) (by kernel_rfl) h2
  obtain ⟨t3, q3, h4⟩ := E.laid_head (k := .u64) (zs := E.zs10) (t := 187) g10 (by kernel_rfl) Tryd.underlying187 Tryd.underlying80 (by kernel_rfl) (by kernel_rfl) h3
  intro t ht
  simp only [E.tabsD, List.mem_cons, List.mem_nil_iff, or_false] at ht
  rcases ht with rfl | rfl | rfl
  · exact E.TabIs.heap t1 g32
  · exact E.TabIs.heap t2 g64
  · exact E.TabIs.heap t3 g10
theorem run {W : World} (h : laidMetH Tryd.prog Rows.walKnownRow.laid W) : Calls Tryd.prog 8 #[] W fun e w' => e = .returned (.bool true) ∧ Below W.heap.size W w' := E.closedT (by decide) evaluated (tabs h)

theorem contract (H : Type) (enc : TypeId × Value → H) (W : World) (base : Nat) (args : Array Value) (ds gs : List (DataW H)) (before : List MemPlace)
    (hW : DataW.Whole enc Tryd.prog Tryd.f8.params.toList Rows.walKnownSpec.vars false W args.toList ds gs before) (hL : laidMetH Tryd.prog Rows.walKnownRow.laid W) :
    Calls Tryd.prog 8 args W fun e W' => ∃ v, e = .returned v ∧ Rows.walKnownSpec.post enc Tryd.prog Tryd.f8 false true false false W args v W' := by
  have hW' := hW
  obtain ⟨p, q, hA0, hV, rfl, _, _⟩ := hW
  have hA : DataW.TrodAll enc Tryd.prog W 0 (fun _ => true) true Tryd.f8.params.toList args.toList ds p := hA0
  rw [Tryd.params8] at hA
  have hn := trodAll_nil hA
  obtain ⟨hargs, rfl, rfl⟩ := hn
  obtain rfl : args = #[] := by cases args; simp_all
  obtain ⟨rfl, rfl⟩ := trodVars_none hV
  refine (run hL).mono fun e W' ⟨he, hb⟩ => ?_
  exact ⟨_, he, ⟨_, _, _, [], [], [], hW', trodAll_mk1 (shut_bool Tryd.underlying4 _), trodAll_mk0, rfl, hb.frame _, fun h => by cases h⟩⟩

noncomputable def laidWorld (os : Os) : World := World.laidAll Tryd.prog os Rows.walKnownRow.laid
theorem laid_met (os : Os) : laidMet Tryd.prog Rows.walKnownRow.laid ((laidWorld os).forCall (fun _ _ => 0) ⟨#[], #[], []⟩).memory :=
  laidMet_laidAll #[] (by kernel_rfl) (by kernel_rfl)
theorem reads (os : Os) {H : Type} (enc : TypeId × Value → H) : ∃ places, DataW.whole enc Tryd.prog ((laidWorld os).forCall (fun _ _ => 0) ⟨#[], #[], []⟩).memory Tryd.f8.params.toList Rows.walKnownSpec.vars false (#[] : Array Value).toList 8 = some ([], [], places) :=
  ⟨[], by kernel_rfl⟩

set_option maxRecDepth 100000 in
theorem lifted (os : Os) (started : os.Started) (H : Type) (enc : TypeId × Value → H) (F : Stop.Interp) :
    ReturnsInHanded {} Tryd.checked os 8 .any ((OpenSpec.ofChange Rows.walKnownSpec).preRow enc Tryd.prog Tryd.f8 Rows.walKnownRow.domain false Rows.walKnownRow.laid) (((OpenSpec.ofChange Rows.walKnownSpec).at F).post enc Tryd.prog Tryd.f8 false true false false) := by
  obtain ⟨places, hx⟩ := reads os enc
  refine returnsInHanded_of_row (C := Tryd.checked) (s := OpenSpec.ofChange Rows.walKnownSpec) own started (by kernel_rfl) Tryd.func8
    (witness_row_at (enc := enc) (C := Tryd.checked) false (laidWorld os) #[] rfl (by kernel_rfl) (by kernel_rfl) (by kernel_rfl)
      (OpenSpec.preRow_of_cond 8 hx (by kernel_rfl) (fun k hk => by cases hk) (by kernel_rfl) (laid_met os))) ?_
  intro W base args ds gs before hval hW _ _ _ hL _ _
  exact contract H enc W base args ds gs before hW hL

theorem said : Rows.WalKnownSaid :=
  OpenClaim.holds_of_cond 8 Tryd.f8 rfl rfl rfl rfl rfl rfl rfl ⟨rfl, rfl, rfl, rfl, rfl⟩ rfl rfl rfl rfl rfl (by kernel_rfl) Tryd.func8 (by kernel_rfl)
    (of_decide_eq_true (by kernel_rfl)) (by unfold Func.isWrapper; first | (rw [if_pos (by decide +kernel)]; kernel_rfl) | (rw [if_neg (by decide +kernel)]; exact ⟨rfl, rfl⟩))
    (fun os started H enc _ F => by rw [OpenClaim.pre_eq_preRow]; exact lifted os started H enc F)

theorem plain (f : FuncId) (fn : Func) (hf : Tryd.pinned.checked.prog.funcNamed "escritoire/escritoirelaw15.WalKnown" = some f) (hfn : Tryd.pinned.checked.prog.funcs[f]? = some fn) :
    true = Tryd.pinned.checked.prog.looks [] ∧ ∀ (j : Nat) t, fn.params[j]? = some t → Tryd.pinned.checked.prog.wantsStandIn t = false := by
  obtain rfl : f = 8 := Option.some.inj ((show Tryd.prog.funcNamed "escritoire/escritoirelaw15.WalKnown" = some 8 by kernel_rfl).symm.trans hf) |>.symm
  obtain rfl : fn = Tryd.f8 := (Option.some.inj (Tryd.func8.symm.trans hfn)).symm
  refine ⟨by kernel_rfl, fun j t ht => ?_⟩
  rw [Tryd.params8] at ht
  simp at ht
theorem card : Rows.WalKnownCardSaid :=
  Claim7.holds_tied_plain_at .later [] _ _ _ _ said (fun _ h => by cases h) (by kernel_rfl) (fun _ h => by cases h) walKnown_row_tie rfl ⟨rfl, rfl⟩ (by kernel_rfl) rfl plain (by kernel_rfl)
end Go.Proofs.YtinhbjdakldpiaaDoor.WalKnown
