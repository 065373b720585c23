/- WalRetires of escritoirelaw15 returns true, whatever the records and the number, and they read as they did, in every world that holds the tables its row lists; the card ties them. No other condition. -/
import Derived.Test.YtalchcdenhfmiaaDoorP3
import Derived.Test.YtalchcdenhfmiaaDoorCards
import Derived.Test.YtalchcdenhfmiaaDoorTie
import Derived.WalkKit
import Derived.ProofKit
import Derived.OpenShut
import Derived.JoinedCond
import Derived.ChangeSlices
import Derived.Carry
import Derived.Deep.DeepHandedRow
import Derived.Lib.LaidTab
import Derived.Lay
namespace Go.Proofs.YtalchcdenhfmiaaDoor.WalRetires
set_option maxRecDepth 20000
open Go Go.Proofs
open Go.ChangeShapes Go.WideShapes Go.ChangeAt Go.RowKit Go.Proofs.YtalchcdenhfmiaaDoor.E
set_option linter.unusedVariables false
theorem own : ownKnob Tryd.prog.godebug = none := by kernel_rfl
theorem laidOut : laidOutB Tryd.prog = true := by kernel_rfl
theorem g32 : Tryd.prog.globalNamed "math/bits.deBruijn32tab" = some 2 := by kernel_rfl
theorem g64 : Tryd.prog.globalNamed "math/bits.deBruijn64tab" = some 3 := by kernel_rfl
theorem g10 : Tryd.prog.globalNamed "internal/strconv.uint64pow10" = some 0 := by kernel_rfl
theorem tabs {W : World} (h : laidMetH Tryd.prog Rows.walRetiresRow.laid W) : E.TabsIn W E.tabsD := by
  have h0 : laidMet Tryd.prog Rows.walRetiresRow.laid W := h
  obtain ⟨ps, h1, _⟩ := h0
  obtain ⟨t1, q1, h2⟩ := E.laid_head (k := .u8) (zs := E.zs32) (t := 156) g32 (by kernel_rfl) Tryd.underlying156 Tryd.underlying5 (by kernel_rfl) (by kernel_rfl) h1
  obtain ⟨t2, q2, h3⟩ := E.laid_head (k := .u8) (zs := E.zs64) (t := 157) g64 (by kernel_rfl) Tryd.underlying157 Tryd.underlying5 (by kernel_rfl) (by kernel_rfl) h2
  obtain ⟨t3, q3, h4⟩ := E.laid_head (k := .u64) (zs := E.zs10) (t := 145) g10 (by kernel_rfl) Tryd.underlying145 Tryd.underlying84 (by kernel_rfl) (by kernel_rfl) h3
  intro t ht
  simp only [E.tabsD, List.mem_cons, List.mem_nil_iff, or_false] at ht
  rcases ht with rfl | rfl | rfl
  · exact E.TabIs.heap t1 g32
  · exact E.TabIs.heap t2 g64
  · exact E.TabIs.heap t3 g10
theorem good22 : goodT Tryd.prog 4 22 = true := by kernel_rfl
theorem c22 : Tryd.prog.cellsOf 22 = 1 := by kernel_rfl
theorem c33 : Tryd.prog.cellsOf 33 = 1 := by kernel_rfl
theorem c5 : Tryd.prog.cellsOf 5 = 1 := by kernel_rfl
theorem u3 : Tryd.prog.underlying 3 = some (.int .i64) := by kernel_rfl
theorem u22 : Tryd.prog.underlying 22 = some (.slice 33) := by kernel_rfl
theorem u33 : Tryd.prog.underlying 33 = some (.slice 5) := by kernel_rfl
theorem u5 : Tryd.prog.underlying 5 = some (.int .u8) := by kernel_rfl
section
variable {H : Type} {enc : TypeId × Value → H} {W : World} {sp : Nat → Bool} {held : Bool}
theorem fm1 {α β : Type} (f : α → β) : ∀ l : List α, l.flatMap (fun x => [f x]) = l.map f
  | [] => rfl
  | a :: l => by rw [List.flatMap_cons, fm1 f l]; rfl
theorem elem_abs {fuel : Nat} {cs : List Value} {x : DataW H × List MemPlace} (h : DataW.trod enc Tryd.prog W 0 sp held fuel 33 cs = some x) :
    ∃ b : AV, absC Tryd.prog 3 33 x.1 = [b] ∧ (b = .nils ∨ ∃ d : List Int, b = recW d) := by
  rcases open_ints u33 u5 c5 h with ⟨_, rfl⟩ | ⟨a, len, cap, zs, _, _, hlc, _, hz, rfl, _, _⟩
  · exact ⟨.nils, by simp only [absC, u33], .inl rfl⟩
  · have hzl : len ≤ zs.length := by rw [hz]; split <;> omega
    have a5 : ∀ z : Int, absC (H := H) Tryd.prog 2 5 (.lit (.int .u8 z)) = [u8 z] := fun z => by simp only [absC, u5]
    have hl : (lits (H := H) .u8 (zs.take len)).length = len := by simp [lits]; omega
    have hlt : (zs.take len).length = len := by simp; omega
    refine ⟨recW (zs.take len), ?_, .inr ⟨zs.take len, rfl⟩⟩
    have : absC (H := H) Tryd.prog 3 33 (.slice (lits .u8 (zs.take len)) (lits .u8 (zs.drop len))) = [.imm (Tryd.prog.cellsOf 5) (lits (H := H) .u8 (zs.take len)).length false ((lits (H := H) .u8 (zs.take len)).flatMap (absC Tryd.prog 2 5))] := by
      rw [absC]
      simp only [u33]
    rw [this, hl, c5]
    unfold recW
    rw [hlt]
    congr 2
    unfold lits
    rw [List.flatMap_map]
    simp only [a5]
    rw [fm1]
theorem flat_props (f : DataW H → List AV) : ∀ ds : List (DataW H), (∀ d ∈ ds, ∃ b : AV, f d = [b] ∧ (b = .nils ∨ ∃ d : List Int, b = recW d)) →
    (ds.flatMap f).length = ds.length ∧ ∀ (k : Nat) (b : AV), (ds.flatMap f)[k]? = some b → (b = .nils ∨ ∃ d : List Int, b = recW d)
  | [], _ => ⟨rfl, fun k b h => by simp at h⟩
  | d :: ds, h => by
    obtain ⟨b, h1, h2⟩ := h d (List.mem_cons_self ..)
    obtain ⟨k1, k2⟩ := flat_props f ds fun e he => h e (List.mem_cons_of_mem _ he)
    rw [List.flatMap_cons, h1]
    refine ⟨by simp [k1], fun k c hc => ?_⟩
    cases k with
    | zero => simp at hc; rw [← hc]; exact h2
    | succ k => exact k2 k c (by simpa using hc)
theorem list_abs {fuel : Nat} {cs : List Value} {x : DataW H × List MemPlace} (h : DataW.trod enc Tryd.prog W 0 sp held fuel 22 cs = some x) :
    ∃ (L : AV) (nl : Nat) (cl : List AV), absC Tryd.prog 4 22 x.1 = [L] ∧ GivenR L nl cl := by
  rcases DataW.trod_slice u22 h with ⟨rfl, rfl⟩ | ⟨a, len, cap, elems, rest, n, _, rfl, rfl, _, hlc, hcm, hel, hat, _, _⟩
  · exact ⟨.nils, 0, [], by simp only [absC, u22], .inr ⟨rfl, rfl⟩⟩
  · have each : ∀ d ∈ elems.map (·.1), ∃ b : AV, absC Tryd.prog 3 33 d = [b] ∧ (b = .nils ∨ ∃ d : List Int, b = recW d) := fun d hd => by
      obtain ⟨y, hy, rfl⟩ := List.mem_map.1 hd
      obtain ⟨i, hi, rfl⟩ := List.mem_iff_getElem.1 hy
      have h1 := hat i (by omega)
      rw [List.getElem?_eq_getElem hi] at h1
      obtain ⟨ci, k1, k2⟩ := Option.bind_eq_some_iff.1 h1
      exact elem_abs k2
    obtain ⟨k1, k2⟩ := flat_props (absC Tryd.prog 3 33) _ each
    refine ⟨.imm 1 (elems.map (·.1)).length false ((elems.map (·.1)).flatMap (absC Tryd.prog 3 33)), (elems.map (·.1)).length, _, ?_, .inl ⟨rfl, k1, k2⟩⟩
    have : ∀ (a b : List (DataW H)), absC (H := H) Tryd.prog 4 22 (.slice a b) = [.imm (Tryd.prog.cellsOf 33) a.length false (a.flatMap (absC Tryd.prog 3 33))] := fun a b => by
      simp only [absC, u22]
    rw [this, c33]
end
theorem okWT {W : World} {ts : List (Nat × IntKind × List Int)} (h : TabsIn W ts) : OK (gW W) (stTab ts) W :=
  ⟨(okW W).imm, fun id o h => by simp [stTab, St.get, Tr.get] at h, fun id o _ _ h => by simp [stTab, St.get, Tr.get] at h, fun id o h => by simp [stTab, St.get, Tr.get] at h, rfl, fun p hp => by
    obtain ⟨t, ht, rfl⟩ := List.mem_map.1 hp
    obtain ⟨T, fr, hh⟩ := h t ht
    have hv : VRs (gW W) (intsAV t.2.1 t.2.2) (t.2.2.map fun z => Value.int t.2.1 z) := .of_get (by simp [intsAV]) fun i c u hc hu => by
      unfold intsAV at hc
      rw [List.getElem?_map] at hc hu
      obtain ⟨z, hz, rfl⟩ := Option.map_eq_some_iff.1 hc
      rw [hz] at hu
      cases hu
      exact .val _ rfl
    refine .iptr _ _ _ hv.1 hv.2 (fun u hu => ?_) ⟨rfl, ?_⟩
    · obtain ⟨z, _, rfl⟩ := List.mem_map.1 hu
      rfl
    · show _ <+: List.drop 0 (match W.heap[t.1]? with | some (.cells cs _ _) => cs.toList | _ => [])
      rw [hh]
      exact List.prefix_refl _⟩
theorem contract (H : Type) (enc : TypeId × Value → H) (W : World) (base : Nat) (args : Array Value) (ds gs : List (DataW H)) (before : List MemPlace)
    (hval : ∀ (j : Nat) t v, Tryd.f3.params[j]? = some t → args[j]? = some v → Value.okWide Tryd.prog W .any base t v)
    (hW : DataW.Whole enc Tryd.prog Tryd.f3.params.toList Rows.walRetiresSpec.vars false W args.toList ds gs before) (hL : laidMetH Tryd.prog Rows.walRetiresRow.laid W) :
    Calls Tryd.prog 3 args W fun e W' => ∃ v, e = .returned v ∧ Rows.walRetiresSpec.post enc Tryd.prog Tryd.f3 false true false false W args v W' := by
  have hW' := hW
  obtain ⟨p, q, hA0, hV, rfl, _, _⟩ := hW
  have hA : DataW.TrodAll enc Tryd.prog W 0 (fun _ => true) true Tryd.f3.params.toList args.toList ds p := hA0
  rw [Tryd.params3] at hA hval
  obtain ⟨v0, v1, d0, d1, p0, p1, rfl, rfl, rfl, h0, h1⟩ := trodAll_two hA
  obtain ⟨rfl, rfl⟩ := trodVars_none hV
  simp only [List.append_nil] at hW'
  have hlt : ∀ x ∈ p0 ++ p1, x.block < W.heap.size := fun x hx => by simpa using hW'.lt x hx
  obtain ⟨a0, n0, cap0, rfl⟩ := okWide_slice u22 (hval 0 22 v0 rfl rfl)
  obtain ⟨cv, rfl, rfl, rfl, hwf⟩ := open_int u3 (hval 1 3 v1 rfl rfl) h1
  obtain ⟨f0, e0⟩ := id h0
  obtain ⟨L, nl, cl, eb, hG⟩ := list_abs e0
  have l0 := lift 4 22 good22 f0 _ _ (by rw [c22]; rfl) e0
  rw [eb] at l0
  have hargs : VRs (gW W) [L, .val (.int .i64 cv)] [.slice a0 n0 cap0, .int .i64 cv] := .cons l0.1.head (.cons (.val _ rfl) (.nil _))
  have run := retires_all hG cv
  have run' : Calls Tryd.prog 3 #[.slice a0 n0 cap0, .int .i64 cv] W fun e w' => e = .returned (.bool true) ∧ Below W.heap.size W w' :=
    (run (gW W) W _ (okWT (tabs hL)) hargs).mono fun e w' ⟨g', st', a, v, h1, h2, h3, h4⟩ => by
      subst h4
      rw [h3.val_inv] at h1
      exact ⟨h1, h2.os, h2.tape, h2.output, h2.size, fun b hb => h2.frame b hb fun id o ho => by
        have := (St.wget_get ho).1
        simp [stTab, St.get, Tr.get] at this⟩
  refine run'.mono fun e W' ⟨he, hb⟩ => ?_
  have k0 := Below.trod laidOut (by kernel_rfl) (of_decide_eq_true (by kernel_rfl)) h0 hb fun x hx => hlt x (List.mem_append_left _ hx)
  have k1 := Below.trod laidOut (by kernel_rfl) (of_decide_eq_true (by kernel_rfl)) h1 hb fun x hx => hlt x (List.mem_append_right _ hx)
  exact ⟨_, he, ⟨_, _, _, [], _, [], hW', trodAll_mk1 (shut_bool Tryd.underlying4 _), trodAll_mk2 k0 k1, rfl, hb.frame _, fun h => by cases h⟩⟩

noncomputable def laidWorld (os : Os) : World := World.laidAll Tryd.prog os Rows.walRetiresRow.laid
def wargs : Array Value := #[.slice none 0 0, .int .i64 0]
theorem laid_met (os : Os) : laidMet Tryd.prog Rows.walRetiresRow.laid ((laidWorld os).forCall (fun _ _ => 0) ⟨#[], wargs, []⟩).memory :=
  laidMet_laidAll wargs (by kernel_rfl) (by kernel_rfl)
theorem reads (os : Os) {H : Type} (enc : TypeId × Value → H) : ∃ places, DataW.whole enc Tryd.prog ((laidWorld os).forCall (fun _ _ => 0) ⟨#[], wargs, []⟩).memory Tryd.f3.params.toList Rows.walRetiresSpec.vars false wargs.toList 8 = some ([.nil, .lit (.int .i64 0)], [], places) :=
  ⟨[], by kernel_rfl⟩

set_option maxRecDepth 100000 in
theorem lifted (os : Os) (started : os.Started) (H : Type) (enc : TypeId × Value → H) (F : Stop.Interp) :
    ReturnsInHanded {} Tryd.checked os 3 .any ((OpenSpec.ofChange Rows.walRetiresSpec).preRow enc Tryd.prog Tryd.f3 Rows.walRetiresRow.domain false Rows.walRetiresRow.laid) (((OpenSpec.ofChange Rows.walRetiresSpec).at F).post enc Tryd.prog Tryd.f3 false true false false) := by
  obtain ⟨places, hx⟩ := reads os enc
  refine returnsInHanded_of_row (C := Tryd.checked) (s := OpenSpec.ofChange Rows.walRetiresSpec) own started (by kernel_rfl) Tryd.func3
    (witness_row_at (enc := enc) (C := Tryd.checked) false (laidWorld os) wargs rfl (by kernel_rfl) (by kernel_rfl) (by kernel_rfl)
      (OpenSpec.preRow_of_cond 8 hx (by kernel_rfl) (fun k hk => by cases hk) (by kernel_rfl) (laid_met os))) ?_
  intro W base args ds gs before hval hW _ _ _ hL _ _
  exact contract H enc W base args ds gs before hval hW hL

theorem said : Rows.WalRetiresSaid :=
  OpenClaim.holds_of_cond 3 Tryd.f3 rfl rfl rfl rfl rfl rfl rfl ⟨rfl, rfl, rfl, rfl, rfl⟩ rfl rfl rfl rfl rfl (by kernel_rfl) Tryd.func3 (by kernel_rfl)
    (of_decide_eq_true (by kernel_rfl)) (by unfold Func.isWrapper; first | (rw [if_pos (by decide +kernel)]; kernel_rfl) | (rw [if_neg (by decide +kernel)]; exact ⟨rfl, rfl⟩))
    (fun os started H enc _ F => by rw [OpenClaim.pre_eq_preRow]; exact lifted os started H enc F)

theorem w22 : Tryd.pinned.checked.prog.wantsStandIn 22 = false := by kernel_rfl
theorem w3 : Tryd.pinned.checked.prog.wantsStandIn 3 = false := by kernel_rfl
theorem plain (f : FuncId) (fn : Func) (hf : Tryd.pinned.checked.prog.funcNamed "escritoire/escritoirelaw15.WalRetires" = some f) (hfn : Tryd.pinned.checked.prog.funcs[f]? = some fn) :
    false = Tryd.pinned.checked.prog.looks [] ∧ ∀ (j : Nat) t, fn.params[j]? = some t → Tryd.pinned.checked.prog.wantsStandIn t = false := by
  obtain rfl : f = 3 := Option.some.inj ((show Tryd.prog.funcNamed "escritoire/escritoirelaw15.WalRetires" = some 3 by kernel_rfl).symm.trans hf) |>.symm
  obtain rfl : fn = Tryd.f3 := (Option.some.inj (Tryd.func3.symm.trans hfn)).symm
  refine ⟨by kernel_rfl, fun j t ht => ?_⟩
  rw [Tryd.params3] at ht
  match j, ht with
  | 0, ht => cases ht; exact w22
  | 1, ht => cases ht; exact w3
  | j + 2, ht => simp at ht
theorem card : Rows.WalRetiresCardSaid :=
  Claim7.holds_tied_plain_at .later [] _ _ _ _ said (fun _ h => by cases h) (by kernel_rfl) (fun _ h => by cases h) walRetires_row_tie rfl ⟨rfl, rfl⟩ (by kernel_rfl) rfl plain (by kernel_rfl)
end Go.Proofs.YtalchcdenhfmiaaDoor.WalRetires
