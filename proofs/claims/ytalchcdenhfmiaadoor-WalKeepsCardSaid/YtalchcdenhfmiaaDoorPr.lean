/- WalKeeps of escritoirelaw15 returns true, whatever the records, the Syncs, the fuse and the picks, and they read as they did, in every world that holds the tables its row lists; the card ties them. No other condition. -/
import Derived.Test.YtalchcdenhfmiaaDoorP4
import Derived.Test.YtalchcdenhfmiaaDoorCards
import Derived.Test.YtalchcdenhfmiaaDoorTie
import Derived.WalkKit
import Derived.ProofKit
import Derived.OpenShut
import Derived.JoinedCond
import Derived.ChangeSlices
import Derived.Carry
import Derived.Deep.DeepHandedRow
import Derived.Lib.LaidTab
import Derived.Lay
namespace Go.Proofs.YtalchcdenhfmiaaDoor.WalKeeps
set_option maxRecDepth 20000
open Go Go.Proofs
open Go.ChangeShapes Go.WideShapes Go.ChangeAt Go.RowKit Go.Proofs.YtalchcdenhfmiaaDoor.E
set_option linter.unusedVariables false
theorem own : ownKnob Tryd.prog.godebug = none := by kernel_rfl
theorem laidOut : laidOutB Tryd.prog = true := by kernel_rfl
theorem g32 : Tryd.prog.globalNamed "math/bits.deBruijn32tab" = some 2 := by kernel_rfl
theorem g64 : Tryd.prog.globalNamed "math/bits.deBruijn64tab" = some 3 := by kernel_rfl
theorem g10 : Tryd.prog.globalNamed "internal/strconv.uint64pow10" = some 0 := by kernel_rfl
theorem tabs {W : World} (h : laidMetH Tryd.prog Rows.walKeepsRow.laid W) : E.TabsIn W E.tabsD := by
  have h0 : laidMet Tryd.prog Rows.walKeepsRow.laid W := h
  obtain ⟨ps, h1, _⟩ := h0
  obtain ⟨t1, q1, h2⟩ := E.laid_head (k := .u8) (zs := E.zs32) (t := 156) g32 (by kernel_rfl) Tryd.underlying156 Tryd.underlying5 (by kernel_rfl) (by kernel_rfl) h1
  obtain ⟨t2, q2, h3⟩ := E.laid_head (k := .u8) (zs := E.zs64) (t := 157) g64 (by kernel_rfl) Tryd.underlying157 Tryd.underlying5 (by kernel_rfl) (by kernel_rfl) h2
  obtain ⟨t3, q3, h4⟩ := E.laid_head (k := .u64) (zs := E.zs10) (t := 145) g10 (by kernel_rfl) Tryd.underlying145 Tryd.underlying84 (by kernel_rfl) (by kernel_rfl) h3
  intro t ht
  simp only [E.tabsD, List.mem_cons, List.mem_nil_iff, or_false] at ht
  rcases ht with rfl | rfl | rfl
  · exact E.TabIs.heap t1 g32
  · exact E.TabIs.heap t2 g64
  · exact E.TabIs.heap t3 g10
theorem good45 : goodT Tryd.prog 6 45 = true := by kernel_rfl
theorem shp45 : shpT Tryd.prog 6 45 = true := by kernel_rfl
theorem c45 : Tryd.prog.cellsOf 45 = 5 := by kernel_rfl
theorem c33 : Tryd.prog.cellsOf 33 = 1 := by kernel_rfl
theorem c5 : Tryd.prog.cellsOf 5 = 1 := by kernel_rfl
theorem c4 : Tryd.prog.cellsOf 4 = 1 := by kernel_rfl
theorem c73 : Tryd.prog.cellsOf 73 = 1 := by kernel_rfl
theorem u22 : Tryd.prog.underlying 22 = some (.slice 33) := by kernel_rfl
theorem u33 : Tryd.prog.underlying 33 = some (.slice 5) := by kernel_rfl
theorem u5 : Tryd.prog.underlying 5 = some (.int .u8) := by kernel_rfl
theorem u42 : Tryd.prog.underlying 42 = some (.slice 4) := by kernel_rfl
theorem u4 : Tryd.prog.underlying 4 = some .bool := by kernel_rfl
theorem u43 : Tryd.prog.underlying 43 = some (.slice 73) := by kernel_rfl
theorem u73 : Tryd.prog.underlying 73 = some (.int .u16) := by kernel_rfl
theorem u45 : ∃ fs : Array Field, Tryd.prog.underlying 45 = some (.struct fs) ∧ fs.toList.map (·.type) = [22, 42, 5, 5, 43] := by
  have h : (Tryd.prog.underlying 45).bind (fun d => match d with | .struct fs => some (fs.toList.map (·.type)) | _ => none) = some [22, 42, 5, 5, 43] := by kernel_rfl
  obtain ⟨d, h1, h2⟩ := Option.bind_eq_some_iff.1 h
  cases d with
  | struct fs => exact ⟨fs, h1, by simpa using h2⟩
  | _ => simp at h2
section
variable {H : Type}
theorem wfU8 {n : Int} (h : (Lit.int .u8 n).wf = true) : 0 ≤ n ∧ n ≤ 255 := by
  simp only [Lit.wf, decide_eq_true_eq, Bool.and_eq_true] at h
  exact h
theorem wfU16 {n : Int} (h : (Lit.int .u16 n).wf = true) : 0 ≤ n ∧ n ≤ 65535 := by
  simp only [Lit.wf, decide_eq_true_eq, Bool.and_eq_true] at h
  exact h
theorem recs_of {d : DataW H} (h : Shp Tryd.prog 5 22 d) : ∃ lv len cells, absC Tryd.prog 5 22 d = [lv] ∧ GivenR lv len cells := by
  rcases shp_slice u22 h with rfl | ⟨l, sp, rfl, hl, hs⟩
  · exact ⟨.nils, 0, [], by simp only [absC, u22], .inr ⟨rfl, rfl⟩⟩
  · have gen : ∀ l : List (DataW H), (∀ y ∈ l, Shp Tryd.prog 4 33 y) → (l.flatMap (absC Tryd.prog 4 33)).length = l.length ∧ ∀ (k : Nat) (b : AV), (l.flatMap (absC Tryd.prog 4 33))[k]? = some b → b = .nils ∨ ∃ d : List Int, b = recW d := fun l => by
      induction l with
      | nil => exact fun _ => ⟨rfl, fun k b h => by simp at h⟩
      | cons y r ih =>
        intro hs
        obtain ⟨k1, k2⟩ := ih fun z hz => hs z (by simp [hz])
        obtain ⟨ns, _, _, hc⟩ := shp_nums u33 u5 c5 (hs y (by simp))
        have hy : ∃ b : AV, absC Tryd.prog 4 33 y = [b] ∧ (b = .nils ∨ ∃ d : List Int, b = recW d) := by
          rcases hc with ⟨_, _, e⟩ | ⟨_, _, _, _, e⟩
          · exact ⟨_, e, .inl rfl⟩
          · exact ⟨_, e, .inr ⟨ns, rfl⟩⟩
        obtain ⟨b, e1, e2⟩ := hy
        rw [List.flatMap_cons, e1]
        refine ⟨by simp [k1], fun k c hc => ?_⟩
        cases k with
        | zero => simp at hc; rw [← hc]; exact e2
        | succ k => exact k2 k c (by simpa using hc)
    obtain ⟨k1, k2⟩ := gen l hs
    exact ⟨.imm 1 l.length false (l.flatMap (absC Tryd.prog 4 33)), l.length, _, by simp only [absC, u22, c33], .inl ⟨rfl, k1, k2⟩⟩
theorem bools_of {d : DataW H} (h : Shp Tryd.prog 5 42 d) : ∃ sv m bs, absC Tryd.prog 5 42 d = [sv] ∧ GivenB sv m bs := by
  rcases shp_slice u42 h with rfl | ⟨l, sp, rfl, hl, hs⟩
  · exact ⟨.nils, 0, [], by simp only [absC, u42], .inr ⟨rfl, rfl⟩⟩
  · have gen : ∀ l : List (DataW H), (∀ y ∈ l, Shp Tryd.prog 4 4 y) → ∃ bs : List Bool, bs.length = l.length ∧ l.flatMap (absC Tryd.prog 4 4) = bs.map bo := fun l => by
      induction l with
      | nil => exact fun _ => ⟨[], rfl, rfl⟩
      | cons y r ih =>
        intro hs
        obtain ⟨bs, k1, k2⟩ := ih fun z hz => hs z (by simp [hz])
        obtain ⟨b, rfl⟩ := shp_bool u4 (hs y (by simp))
        refine ⟨b :: bs, by simp [k1], ?_⟩
        rw [List.flatMap_cons, k2]
        simp only [absC, u4, List.map_cons]
        rfl
    obtain ⟨bs, k1, k2⟩ := gen l hs
    refine ⟨.imm 1 l.length false (bs.map bo), l.length, bs, ?_, .inl ⟨rfl, k1⟩⟩
    rw [← k2]
    simp only [absC, u42, c4]
theorem arg_of {d : DataW H} (h : Shp Tryd.prog 6 45 d) : ∃ x : KArg, x.ok ∧ absC Tryd.prog 6 45 d = x.row := by
  obtain ⟨fs, hu, hf⟩ := u45
  obtain ⟨ds, rfl, hs⟩ := shp_struct hu h
  obtain ⟨f0, f1, f2, f3, f4, hfs⟩ : ∃ f0 f1 f2 f3 f4, fs.toList = [f0, f1, f2, f3, f4] := by
    match hl : fs.toList with
    | [] => rw [hl] at hf; simp at hf
    | [_] => rw [hl] at hf; simp at hf
    | [_, _] => rw [hl] at hf; simp at hf
    | [_, _, _] => rw [hl] at hf; simp at hf
    | [_, _, _, _] => rw [hl] at hf; simp at hf
    | [a, b, c, d, e] => exact ⟨_, _, _, _, _, rfl⟩
    | _ :: _ :: _ :: _ :: _ :: _ :: _ => rw [hl] at hf; simp at hf
  rw [hfs] at hf hs
  simp only [List.map_cons, List.map_nil, List.cons.injEq, and_true] at hf
  obtain ⟨t0, t1, t2, t3, t4⟩ := hf
  match ds, hs with
  | [d0, d1, d2, d3, d4], hs =>
  obtain ⟨s0, s1, s2, s3, s4, _⟩ := hs
  rw [t0] at s0; rw [t1] at s1; rw [t2] at s2; rw [t3] at s3; rw [t4] at s4
  obtain ⟨lv, len, cells, e0, hR⟩ := recs_of s0
  obtain ⟨sv, m, bs, e1, hB⟩ := bools_of s1
  obtain ⟨a, rfl, wa⟩ := shp_int u5 s2
  obtain ⟨f, rfl, wf⟩ := shp_int u5 s3
  obtain ⟨ps, hps, lp, cp⟩ := shp_nums u43 u73 c73 s4
  obtain ⟨pv, vp, PP⟩ : ∃ pv, absC Tryd.prog 5 43 d4 = [pv] ∧ ((ps = [] ∧ pv = .nils) ∨ ∃ fl, pv = .imm 1 ps.length fl (ps.map u16)) := by
    rcases cp with ⟨rfl, _, h⟩ | ⟨l, sp, rfl, h1, h⟩
    · exact ⟨_, h, .inl ⟨rfl, rfl⟩⟩
    · exact ⟨_, h, .inr ⟨false, rfl⟩⟩
  refine ⟨⟨lv, sv, pv, a, f, len, cells, m, bs, ps⟩, ⟨hR, hB, PP, fun v hv => wfU16 (hps v hv), wfU8 wa, wfU8 wf⟩, ?_⟩
  have ea : absC Tryd.prog 6 45 (.agg [d0, d1, .lit (.int .u8 a), .lit (.int .u8 f), d4]) = absF (absC Tryd.prog 5) fs.toList [d0, d1, .lit (.int .u8 a), .lit (.int .u8 f), d4] := by
    simp only [absC, hu]
  rw [ea, hfs]
  simp only [absF, t0, t1, t2, t3, t4, e0, e1, vp]
  simp only [absC, u5]
  rfl
end
theorem okWT {W : World} {ts : List (Nat × IntKind × List Int)} (h : TabsIn W ts) : OK (gW W) (stTab ts) W :=
  ⟨(okW W).imm, fun id o h => by simp [stTab, St.get, Tr.get] at h, fun id o _ _ h => by simp [stTab, St.get, Tr.get] at h, fun id o h => by simp [stTab, St.get, Tr.get] at h, rfl, fun p hp => by
    obtain ⟨t, ht, rfl⟩ := List.mem_map.1 hp
    obtain ⟨T, fr, hh⟩ := h t ht
    have hv : VRs (gW W) (intsAV t.2.1 t.2.2) (t.2.2.map fun z => Value.int t.2.1 z) := .of_get (by simp [intsAV]) fun i c u hc hu => by
      unfold intsAV at hc
      rw [List.getElem?_map] at hc hu
      obtain ⟨z, hz, rfl⟩ := Option.map_eq_some_iff.1 hc
      rw [hz] at hu
      cases hu
      exact .val _ rfl
    refine .iptr _ _ _ hv.1 hv.2 (fun u hu => ?_) ⟨rfl, ?_⟩
    · obtain ⟨z, _, rfl⟩ := List.mem_map.1 hu
      rfl
    · show _ <+: List.drop 0 (match W.heap[t.1]? with | some (.cells cs _ _) => cs.toList | _ => [])
      rw [hh]
      exact List.prefix_refl _⟩
theorem contract (H : Type) (enc : TypeId × Value → H) (W : World) (base : Nat) (args : Array Value) (ds gs : List (DataW H)) (before : List MemPlace)
    (hval : ∀ (j : Nat) t v, Tryd.f4.params[j]? = some t → args[j]? = some v → Value.okWide Tryd.prog W .any base t v)
    (hW : DataW.Whole enc Tryd.prog Tryd.f4.params.toList Rows.walKeepsSpec.vars false W args.toList ds gs before) (hL : laidMetH Tryd.prog Rows.walKeepsRow.laid W) :
    Calls Tryd.prog 4 args W fun e W' => ∃ v, e = .returned v ∧ Rows.walKeepsSpec.post enc Tryd.prog Tryd.f4 false true false false W args v W' := by
  have hW' := hW
  obtain ⟨p, q, hA0, hV, rfl, _, _⟩ := hW
  have hA : DataW.TrodAll enc Tryd.prog W 0 (fun _ => true) true Tryd.f4.params.toList args.toList ds p := hA0
  rw [Tryd.params4] at hA hval
  obtain ⟨v0, d0, rfl, rfl, h0⟩ := trodAll_one hA
  obtain ⟨rfl, rfl⟩ := trodVars_none hV
  simp only [List.append_nil] at hW'
  have hlt : ∀ x ∈ p, x.block < W.heap.size := fun x hx => by simpa using hW'.lt x hx
  obtain ⟨fs, hu, _⟩ := u45
  obtain ⟨cs, rfl, hcs⟩ := okWide_struct hu (hval 0 45 v0 rfl rfl)
  obtain ⟨f0, e0⟩ := id h0
  obtain ⟨x, hx, eb⟩ := arg_of (shp_of 6 45 shp45 f0 _ _ e0)
  have l0 := lift 6 45 good45 f0 _ _ (by rw [c45]; simpa [Value.cells, c45] using hcs) e0
  rw [eb] at l0
  have hcs' : (Value.agg cs).cells.toList = cs.toList := rfl
  rw [hcs'] at l0
  have hargs : VRs (gW W) [.agg x.row] [.agg cs] := by
    refine .cons ?_ (.nil _)
    have := VR.agg (g := gW W) _ cs.toList l0.1.1 l0.1.2 l0.2
    simpa using this
  have run' : Calls Tryd.prog 4 #[.agg cs] W fun e w' => e = .returned (.bool true) ∧ Below W.heap.size W w' :=
    (keeps_all hx (gW W) W _ (okWT (tabs hL)) hargs).mono fun e w' ⟨g', st', a, v, h1, h2, h3, h4⟩ => by
      subst h4
      rw [h3.val_inv] at h1
      exact ⟨h1, h2.os, h2.tape, h2.output, h2.size, fun b hb => h2.frame b hb fun id o ho => by
        have := (St.wget_get ho).1
        simp [stTab, St.get, Tr.get] at this⟩
  refine run'.mono fun e W' ⟨he, hb⟩ => ?_
  have k0 := Below.trod laidOut (by kernel_rfl) (of_decide_eq_true (by kernel_rfl)) h0 hb hlt
  exact ⟨_, he, ⟨_, _, _, [], _, [], hW', trodAll_mk1 (shut_bool Tryd.underlying4 _), trodAll_mk1 k0, rfl, hb.frame _, fun h => by cases h⟩⟩

noncomputable def laidWorld (os : Os) : World := World.laidAll Tryd.prog os Rows.walKeepsRow.laid
def wargs : Array Value := #[.agg #[.slice none 0 0, .slice none 0 0, .int .u8 0, .int .u8 0, .slice none 0 0]]
theorem laid_met (os : Os) : laidMet Tryd.prog Rows.walKeepsRow.laid ((laidWorld os).forCall (fun _ _ => 0) ⟨#[], wargs, []⟩).memory :=
  laidMet_laidAll wargs (by kernel_rfl) (by kernel_rfl)
theorem reads (os : Os) {H : Type} (enc : TypeId × Value → H) : ∃ places, DataW.whole enc Tryd.prog ((laidWorld os).forCall (fun _ _ => 0) ⟨#[], wargs, []⟩).memory Tryd.f4.params.toList Rows.walKeepsSpec.vars false wargs.toList 8 = some ([.agg [.nil, .nil, .lit (.int .u8 0), .lit (.int .u8 0), .nil]], [], places) :=
  ⟨[], by kernel_rfl⟩

set_option maxRecDepth 100000 in
theorem lifted (os : Os) (started : os.Started) (H : Type) (enc : TypeId × Value → H) (F : Stop.Interp) :
    ReturnsInHanded {} Tryd.checked os 4 .any ((OpenSpec.ofChange Rows.walKeepsSpec).preRow enc Tryd.prog Tryd.f4 Rows.walKeepsRow.domain false Rows.walKeepsRow.laid) (((OpenSpec.ofChange Rows.walKeepsSpec).at F).post enc Tryd.prog Tryd.f4 false true false false) := by
  obtain ⟨places, hx⟩ := reads os enc
  refine returnsInHanded_of_row (C := Tryd.checked) (s := OpenSpec.ofChange Rows.walKeepsSpec) own started (by kernel_rfl) Tryd.func4
    (witness_row_at (enc := enc) (C := Tryd.checked) false (laidWorld os) wargs rfl (by kernel_rfl) (by kernel_rfl) (by kernel_rfl)
      (OpenSpec.preRow_of_cond 8 hx (by kernel_rfl) (fun k hk => by cases hk) (by kernel_rfl) (laid_met os))) ?_
  intro W base args ds gs before hval hW _ _ _ hL _ _
  exact contract H enc W base args ds gs before hval hW hL

theorem said : Rows.WalKeepsSaid :=
  OpenClaim.holds_of_cond 4 Tryd.f4 rfl rfl rfl rfl rfl rfl rfl ⟨rfl, rfl, rfl, rfl, rfl⟩ rfl rfl rfl rfl rfl (by kernel_rfl) Tryd.func4 (by kernel_rfl)
    (of_decide_eq_true (by kernel_rfl)) (by unfold Func.isWrapper; first | (rw [if_pos (by decide +kernel)]; kernel_rfl) | (rw [if_neg (by decide +kernel)]; exact ⟨rfl, rfl⟩))
    (fun os started H enc _ F => by rw [OpenClaim.pre_eq_preRow]; exact lifted os started H enc F)

theorem w45 : Tryd.pinned.checked.prog.wantsStandIn 45 = false := by kernel_rfl
theorem plain (f : FuncId) (fn : Func) (hf : Tryd.pinned.checked.prog.funcNamed "escritoire/escritoirelaw15.WalKeeps" = some f) (hfn : Tryd.pinned.checked.prog.funcs[f]? = some fn) :
    false = Tryd.pinned.checked.prog.looks [] ∧ ∀ (j : Nat) t, fn.params[j]? = some t → Tryd.pinned.checked.prog.wantsStandIn t = false := by
  obtain rfl : f = 4 := Option.some.inj ((show Tryd.prog.funcNamed "escritoire/escritoirelaw15.WalKeeps" = some 4 by kernel_rfl).symm.trans hf) |>.symm
  obtain rfl : fn = Tryd.f4 := (Option.some.inj (Tryd.func4.symm.trans hfn)).symm
  refine ⟨by kernel_rfl, fun j t ht => ?_⟩
  rw [Tryd.params4] at ht
  match j, ht with
  | 0, ht => cases ht; exact w45
  | j + 1, ht => simp at ht
theorem card : Rows.WalKeepsCardSaid :=
  Claim7.holds_tied_plain_at .later [] _ _ _ _ said (fun _ h => by cases h) (by kernel_rfl) (fun _ h => by cases h) walKeeps_row_tie rfl ⟨rfl, rfl⟩ (by kernel_rfl) rfl plain (by kernel_rfl)
end Go.Proofs.YtalchcdenhfmiaaDoor.WalKeeps
