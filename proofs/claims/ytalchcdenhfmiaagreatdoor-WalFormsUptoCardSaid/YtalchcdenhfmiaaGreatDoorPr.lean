/- WalForms of escritoirelaw15 returns true, whatever the segment's number and the bytes, and they read as they did, where what it reads is of bulk at most 1048576, in every world that holds the tables its row lists; the card ties them. No other condition. -/
import Derived.Test.YtalchcdenhfmiaaGreatDoorP4
import Derived.Test.YtalchcdenhfmiaaGreatDoorCards
import Derived.Test.YtalchcdenhfmiaaGreatDoorTie
import Derived.WalkKit
import Derived.ProofKit
import Derived.OpenShut
import Derived.JoinedCond
import Derived.ChangeSlices
import Derived.Carry
import Derived.Deep.DeepHandedRow
import Derived.Lib.LaidTab
import Derived.Lay
namespace Go.Proofs.YtalchcdenhfmiaaGreatDoor.WalForms
set_option maxRecDepth 20000
open Go Go.Proofs
open Go.ChangeShapes Go.WideShapes Go.ChangeAt Go.RowKit Go.Proofs.YtalchcdenhfmiaaGreatDoor.E
set_option linter.unusedVariables false
theorem own : ownKnob Tryz.prog.godebug = none := by kernel_rfl
theorem laidOut : laidOutB Tryz.prog = true := by kernel_rfl
theorem g32 : Tryz.prog.globalNamed "math/bits.deBruijn32tab" = some 2 := by kernel_rfl
theorem g64 : Tryz.prog.globalNamed "math/bits.deBruijn64tab" = some 3 := by kernel_rfl
theorem g10 : Tryz.prog.globalNamed "internal/strconv.uint64pow10" = some 0 := by kernel_rfl
theorem tabs {W : World} (h : laidMetH Tryz.prog Rows.walFormsUptoRow.laid W) : E.TabsIn W E.tabsD := by
  have h0 : laidMet Tryz.prog Rows.walFormsUptoRow.laid W := h
  obtain ⟨ps, h1, _⟩ := h0
  obtain ⟨t1, q1, h2⟩ := E.laid_head (k := .u8) (zs := E.zs32) (t := 181) g32 (by kernel_rfl) Tryz.underlying181 Tryz.underlying5 (by kernel_rfl) (by kernel_rfl) h1
  obtain ⟨t2, q2, h3⟩ := E.laid_head (k := .u8) (zs := E.zs64) (t := 182) g64 (by kernel_rfl) Tryz.underlying182 Tryz.underlying5 (by kernel_rfl) (by kernel_rfl) h2
  obtain ⟨t3, q3, h4⟩ := E.laid_head (k := .u64) (zs := E.zs10) (t := 165) g10 (by kernel_rfl) Tryz.underlying165 Tryz.underlying79 (by kernel_rfl) (by kernel_rfl) h3
  intro t ht
  simp only [E.tabsD, List.mem_cons, List.mem_nil_iff, or_false] at ht
  rcases ht with rfl | rfl | rfl
  · exact E.TabIs.heap t1 g32
  · exact E.TabIs.heap t2 g64
  · exact E.TabIs.heap t3 g10
theorem good22 : goodT Tryz.prog 3 22 = true := by kernel_rfl
theorem shp22 : shpT Tryz.prog 3 22 = true := by kernel_rfl
theorem c22 : Tryz.prog.cellsOf 22 = 1 := by kernel_rfl
theorem c5 : Tryz.prog.cellsOf 5 = 1 := by kernel_rfl
theorem u3 : Tryz.prog.underlying 3 = some (.int .i64) := by kernel_rfl
theorem u22 : Tryz.prog.underlying 22 = some (.slice 5) := by kernel_rfl
theorem u5 : Tryz.prog.underlying 5 = some (.int .u8) := by kernel_rfl
section
variable {H : Type}
theorem one_le (d : DataW H) : 1 ≤ Rows.uptoBulk d := by
  cases d with
  | lit l => cases l <;> simp [Rows.uptoBulk]
  | nil => simp [Rows.uptoBulk]
  | ptr d => simp [Rows.uptoBulk]
  | slice elems spare => simp [Rows.uptoBulk]
  | agg parts => simp [Rows.uptoBulk]
  | iface t d => simp [Rows.uptoBulk]
  | map entries => simp [Rows.uptoBulk]
  | held h => simp [Rows.uptoBulk]
theorem part_le {d : DataW H} {l : List (DataW H)} (h : d ∈ l) : Rows.uptoBulk d ≤ Rows.uptoBulkAll l := by
  induction l with
  | nil => cases h
  | cons x r ih =>
    simp only [Rows.uptoBulkAll]
    cases List.mem_cons.1 h with
    | inl e => subst e; omega
    | inr e => have := ih e; omega
theorem length_le (l : List (DataW H)) : l.length ≤ Rows.uptoBulkAll l := by
  induction l with
  | nil => simp [Rows.uptoBulkAll]
  | cons x r ih => have := one_le x; simp only [Rows.uptoBulkAll, List.length_cons]; omega
theorem bulk_slice (l sp : List (DataW H)) : l.length ≤ Rows.uptoBulk (.slice l sp) := by
  have := length_le l
  simp only [Rows.uptoBulk]; omega
theorem wf8 {n : Int} (h : (Lit.int .u8 n).wf = true) : 0 ≤ n ∧ n ≤ 255 := by
  simp only [Lit.wf, decide_eq_true_eq, Bool.and_eq_true] at h
  exact h
/-- a slice of bytes, as the call finds it -/
theorem bytes_of {d : DataW H} (h : Shp Tryz.prog 3 22 d) (hb : Rows.uptoBulk d ≤ 1048576) : ∃ (v : AV) (xs : List Nat), absC Tryz.prog 3 22 d = [v] ∧ BV v (xs.map Int.ofNat) ∧ (∀ x ∈ xs, x < 256) ∧ xs.length ≤ 2000000 := by
  obtain ⟨ns, hn, _, hc⟩ := shp_nums u22 u5 c5 h
  have hl : ns.length ≤ 1048576 := by
    rcases hc with ⟨rfl, _⟩ | ⟨l, sp, rfl, h1, _⟩
    · simp
    · have := bulk_slice l sp; omega
  have e : (ns.map Int.toNat).map Int.ofNat = ns := by
    rw [List.map_map]
    conv => rhs; rw [← List.map_id ns]
    exact List.map_congr_left fun n hm => by
      have := wf8 (hn n hm)
      show ((n.toNat : Nat) : Int) = n
      omega
  have h256 : ∀ x ∈ ns.map Int.toNat, x < 256 := fun x hx => by
    obtain ⟨n, hm, rfl⟩ := List.mem_map.1 hx
    have := wf8 (hn n hm)
    omega
  rcases hc with ⟨h0, _, ha⟩ | ⟨l, sp, _, _, ha⟩
  · exact ⟨_, ns.map Int.toNat, ha, by rw [e]; exact .inl ⟨h0, rfl⟩, h256, by rw [List.length_map]; omega⟩
  · exact ⟨_, ns.map Int.toNat, ha, by rw [e]; exact .inr ⟨false, rfl⟩, h256, by rw [List.length_map]; omega⟩
end
theorem okWT {W : World} {ts : List (Nat × IntKind × List Int)} (hne : ∀ t ∈ ts, t.2.2 ≠ []) (h : TabsIn W ts) : OK (gW W) (stTab ts) W :=
  ⟨(okW W).imm, fun id o h => by simp [stTab, St.get, Tr.get] at h, fun id o _ _ h => by simp [stTab, St.get, Tr.get] at h, fun id o h => by simp [stTab, St.get, Tr.get] at h, rfl, fun p hp => by
    obtain ⟨t, ht, rfl⟩ := List.mem_map.1 hp
    obtain ⟨T, fr, hh⟩ := h t ht
    have hv : VRs (gW W) (intsAV t.2.1 t.2.2) (t.2.2.map fun z => Value.int t.2.1 z) := .of_get (by simp [intsAV]) fun i c u hc hu => by
      unfold intsAV at hc
      rw [List.getElem?_map] at hc hu
      obtain ⟨z, hz, rfl⟩ := Option.map_eq_some_iff.1 hc
      rw [hz] at hu
      cases hu
      exact .val _ rfl
    have hM : (gW W).M t.1 = t.2.2.map fun z => Value.int t.2.1 z := by
      show (match W.heap[t.1]? with | some (.cells cs _ _) => cs.toList | _ => []) = _
      rw [hh]
    refine ⟨.iptr _ _ _ hv.1 hv.2 (fun u hu => ?_) ⟨rfl, ?_⟩, ?_, ?_⟩
    · obtain ⟨z, _, rfl⟩ := List.mem_map.1 hu
      rfl
    · show _ <+: List.drop 0 ((gW W).M t.1)
      rw [hM]
      exact List.prefix_refl _
    · show (gW W).M t.1 ≠ []
      rw [hM]
      exact fun e => hne t ht (List.map_eq_nil_iff.1 e)
    · show ((gW W).M t.1).length = _
      rw [hM]
      simp [intsAV]⟩
theorem tabs_ne : ∀ t ∈ tabsD, t.2.2 ≠ [] := fun t ht => by
  simp only [tabsD, List.mem_cons, List.mem_nil_iff, or_false] at ht
  rcases ht with rfl | rfl | rfl
  · show zs32 ≠ []; unfold zs32; simp
  · show zs64 ≠ []; unfold zs64; simp
  · show zs10 ≠ []; unfold zs10; simp
theorem contract (F : Stop.Interp) (H : Type) (enc : TypeId × Value → H) (W : World) (base : Nat) (args : Array Value) (ds gs : List (DataW H)) (before : List MemPlace)
    (hval : ∀ (j : Nat) t v, Tryz.f3.params[j]? = some t → args[j]? = some v → Value.okWide Tryz.prog W .any base t v)
    (hW : DataW.Whole enc Tryz.prog Tryz.f3.params.toList Rows.walFormsSpec.vars false W args.toList ds gs before) (hk : Rows.uptoSmall H (ds ++ gs) = true) (hL : laidMetH Tryz.prog Rows.walFormsUptoRow.laid W) :
    Calls Tryz.prog 3 args W fun e W' => ∃ v, e = .returned v ∧ ((Rows.OpenSpec.upto Rows.walFormsSpec).at F).post enc Tryz.prog Tryz.f3 false true false false W args v W' := by
  have hW' := hW
  obtain ⟨p, q, hA0, hV, rfl, _, _⟩ := hW
  have hA : DataW.TrodAll enc Tryz.prog W 0 (fun _ => true) true Tryz.f3.params.toList args.toList ds p := hA0
  rw [Tryz.params3] at hA hval
  obtain ⟨v0, v1, v2, d0, d1, d2, p0, p1, p2, rfl, rfl, rfl, h0, h1, h2⟩ := trodAll_three hA
  obtain ⟨rfl, rfl⟩ := trodVars_none hV
  simp only [List.append_nil] at hW' hk
  have hlt : ∀ x ∈ p0 ++ p1 ++ p2, x.block < W.heap.size := fun x hx => by simpa using hW'.lt x hx
  obtain ⟨cv, rfl, rfl, rfl, hwf⟩ := open_int u3 (hval 0 3 v0 rfl rfl) h0
  obtain ⟨a1, n1, cap1, rfl⟩ := okWide_slice u22 (hval 1 22 v1 rfl rfl)
  obtain ⟨a2, n2, cap2, rfl⟩ := okWide_slice u22 (hval 2 22 v2 rfl rfl)
  have hbulk : Rows.uptoBulkAll [DataW.lit (H := H) (.int .i64 cv), d1, d2] ≤ 1048576 := of_decide_eq_true hk
  obtain ⟨f1, e1⟩ := id h1
  obtain ⟨f2, e2⟩ := id h2
  obtain ⟨L1, xs, b1, B1, x1, y1⟩ := bytes_of (shp_of 3 22 shp22 f1 _ _ e1) (Nat.le_trans (part_le (by simp)) hbulk)
  obtain ⟨L2, ys, b2, B2, x2, y2⟩ := bytes_of (shp_of 3 22 shp22 f2 _ _ e2) (Nat.le_trans (part_le (by simp)) hbulk)
  have l1 := lift 3 22 good22 f1 _ _ (by rw [c22]; rfl) e1
  have l2 := lift 3 22 good22 f2 _ _ (by rw [c22]; rfl) e2
  rw [b1] at l1
  rw [b2] at l2
  have hargs : VRs (gW W) [.val (.int .i64 cv), L1, L2] [.int .i64 cv, .slice a1 n1 cap1, .slice a2 n2 cap2] := .cons (.val _ rfl) (.cons l1.1.head (.cons l2.1.head (.nil _)))
  obtain ⟨stE, run, _⟩ := forms_run (st := stTab tabsD) (fun i o h => by simp [stTab, St.get, Tr.get] at h) rfl rfl cv B1 B2 x1 x2 y1 y2
  have run' : Calls Tryz.prog 3 #[.int .i64 cv, .slice a1 n1 cap1, .slice a2 n2 cap2] W fun e w' => e = .returned (.bool true) ∧ Below W.heap.size W w' :=
    (run (gW W) W _ (okWT tabs_ne (tabs hL)) hargs).mono fun e w' ⟨g', st', a, v, h1, h2, h3, h4⟩ => by
      obtain ⟨h4, _⟩ := h4
      subst h4
      rw [h3.val_inv] at h1
      exact ⟨h1, h2.os, h2.tape, h2.output, h2.size, fun b hb => h2.frame b hb fun id o ho => by
        have := (St.wget_get ho).1
        simp [stTab, St.get, Tr.get] at this⟩
  refine run'.mono fun e W' ⟨he, hb⟩ => ?_
  have k0 := Below.trod laidOut (by kernel_rfl) (of_decide_eq_true (by kernel_rfl)) h0 hb fun x hx => hlt x (List.mem_append_left _ (List.mem_append_left _ hx))
  have k1 := Below.trod laidOut (by kernel_rfl) (of_decide_eq_true (by kernel_rfl)) h1 hb fun x hx => hlt x (List.mem_append_left _ (List.mem_append_right _ hx))
  have k2 := Below.trod laidOut (by kernel_rfl) (of_decide_eq_true (by kernel_rfl)) h2 hb fun x hx => hlt x (List.mem_append_right _ hx)
  exact ⟨_, he, ⟨_, _, _, [], _, [], hW', trodAll_mk1 (shut_bool Tryz.underlying4 _), trodAll_mk3 k0 k1 k2, rfl, hb.frame _, fun h => by cases h⟩⟩

noncomputable def laidWorld (os : Os) : World := World.laidAll Tryz.prog os Rows.walFormsUptoRow.laid
def wargs : Array Value := #[.int .i64 0, .slice none 0 0, .slice none 0 0]
theorem laid_met (os : Os) : laidMet Tryz.prog Rows.walFormsUptoRow.laid ((laidWorld os).forCall (fun _ _ => 0) ⟨#[], wargs, []⟩).memory :=
  laidMet_laidAll wargs (by kernel_rfl) (by kernel_rfl)
theorem reads (os : Os) {H : Type} (enc : TypeId × Value → H) : ∃ places, DataW.whole enc Tryz.prog ((laidWorld os).forCall (fun _ _ => 0) ⟨#[], wargs, []⟩).memory Tryz.f3.params.toList Rows.walFormsSpec.vars false wargs.toList 8 = some ([.lit (.int .i64 0), .nil, .nil], [], places) :=
  ⟨[], by kernel_rfl⟩

set_option maxRecDepth 100000 in
theorem lifted (os : Os) (started : os.Started) (H : Type) (enc : TypeId × Value → H) (F : Stop.Interp) :
    ReturnsInHanded {} Tryz.checked os 3 .any ((Rows.OpenSpec.upto Rows.walFormsSpec).preRow enc Tryz.prog Tryz.f3 Rows.walFormsUptoRow.domain false Rows.walFormsUptoRow.laid) (((Rows.OpenSpec.upto Rows.walFormsSpec).at F).post enc Tryz.prog Tryz.f3 false true false false) := by
  obtain ⟨places, hx⟩ := reads os enc
  refine returnsInHanded_of_row (C := Tryz.checked) (s := Rows.OpenSpec.upto Rows.walFormsSpec) own started (by kernel_rfl) Tryz.func3
    (witness_row_at (enc := enc) (C := Tryz.checked) false (laidWorld os) wargs rfl (by kernel_rfl) (by kernel_rfl) (by kernel_rfl)
      (OpenSpec.preRow_of_cond 8 hx (by kernel_rfl) (fun k hk => by cases hk; kernel_rfl) (by kernel_rfl) (laid_met os))) ?_
  intro W base args ds gs before hval hW _ hk _ hL _ _
  exact contract F H enc W base args ds gs before hval hW (hk _ rfl) hL

theorem said : Rows.WalFormsUptoSaid :=
  OpenClaim.holds_of_cond 3 Tryz.f3 rfl rfl rfl rfl rfl rfl rfl ⟨rfl, rfl, rfl, rfl, rfl⟩ rfl rfl rfl rfl rfl (by kernel_rfl) Tryz.func3 (by kernel_rfl)
    (of_decide_eq_true (by kernel_rfl)) (by unfold Func.isWrapper; first | (rw [if_pos (by decide +kernel)]; kernel_rfl) | (rw [if_neg (by decide +kernel)]; exact ⟨rfl, rfl⟩))
    (fun os started H enc _ F => by rw [OpenClaim.pre_eq_preRow]; exact lifted os started H enc F)

theorem w22 : Tryz.pinned.checked.prog.wantsStandIn 22 = false := by kernel_rfl
theorem w3 : Tryz.pinned.checked.prog.wantsStandIn 3 = false := by kernel_rfl
theorem plain (f : FuncId) (fn : Func) (hf : Tryz.pinned.checked.prog.funcNamed "escritoire/escritoirelaw15.WalForms" = some f) (hfn : Tryz.pinned.checked.prog.funcs[f]? = some fn) :
    true = Tryz.pinned.checked.prog.looks [] ∧ ∀ (j : Nat) t, fn.params[j]? = some t → Tryz.pinned.checked.prog.wantsStandIn t = false := by
  obtain rfl : f = 3 := Option.some.inj ((show Tryz.prog.funcNamed "escritoire/escritoirelaw15.WalForms" = some 3 by kernel_rfl).symm.trans hf) |>.symm
  obtain rfl : fn = Tryz.f3 := (Option.some.inj (Tryz.func3.symm.trans hfn)).symm
  refine ⟨by kernel_rfl, fun j t ht => ?_⟩
  rw [Tryz.params3] at ht
  match j, ht with
  | 0, ht => cases ht; exact w3
  | 1, ht => cases ht; exact w22
  | 2, ht => cases ht; exact w22
  | j + 3, ht => simp at ht
theorem card : Rows.WalFormsUptoCardSaid :=
  Claim7.holds_tied_plain_at .later [] _ _ _ _ said (fun _ h => by cases h) (by kernel_rfl) (fun _ h => by cases h) walFormsUpto_row_tie rfl ⟨rfl, rfl⟩ (by kernel_rfl) rfl plain (by kernel_rfl)
end Go.Proofs.YtalchcdenhfmiaaGreatDoor.WalForms
