/- FilesFull of escritoirelaw13 returns true, whatever the quota and the lists, and they read as they did. No condition. -/
import Derived.Test.YtniaiciabfdbnaaRows
import Derived.WalkKit
import Derived.ProofKit
import Derived.OpenShut
import Derived.JoinedCond
import Derived.ChangeSlices
import Derived.Carry
import Derived.SizedLaws
import Derived.Test.YtniaiciabfdbnaaFl
namespace Go.Proofs.Ytniaiciabfdbnaa.FilesFull
set_option maxRecDepth 20000
open Go.ChangeShapes Go.WideShapes Go.ChangeAt Go.RowKit Go.Proofs.Ytniaiciabfdbnaa.E
set_option linter.unusedVariables false
theorem own : ownKnob Try.prog.godebug = none := by kernel_rfl
theorem laidOut : laidOutB Try.prog = true := by kernel_rfl
theorem good50 : goodT Try.prog 4 50 = true := by kernel_rfl
theorem good51 : goodT Try.prog 4 51 = true := by kernel_rfl
theorem c50 : Try.prog.cellsOf 50 = 1 := by kernel_rfl
theorem c51 : Try.prog.cellsOf 51 = 1 := by kernel_rfl
theorem c28 : Try.prog.cellsOf 28 = 1 := by kernel_rfl
theorem c5 : Try.prog.cellsOf 5 = 1 := by kernel_rfl
theorem b5 : Try.prog.bytesOf 5 = 1 := by kernel_rfl
theorem u50 : Try.prog.underlying 50 = some (.int .u16) := by kernel_rfl
theorem u51 : Try.prog.underlying 51 = some (.slice 28) := by kernel_rfl
theorem u28 : Try.prog.underlying 28 = some (.slice 5) := by kernel_rfl
theorem u5 : Try.prog.underlying 5 = some (.int .u8) := by kernel_rfl
section
variable {H : Type} {enc : TypeId × Value → H} {W : World} {sp : Nat → Bool} {held : Bool}
theorem fm1 {α β : Type} (f : α → β) : ∀ l : List α, l.flatMap (fun x => [f x]) = l.map f
  | [] => rfl
  | a :: l => by rw [List.flatMap_cons, fm1 f l]; rfl
theorem wf_u16 {n : Int} (h : (Lit.int .u16 n).wf = true) : 0 ≤ n ∧ n ≤ 65535 := by
  simp only [Lit.wf, decide_eq_true_eq, Bool.and_eq_true] at h
  have h1 : IntKind.u16.min = 0 := rfl
  have h2 : IntKind.u16.max = 65535 := rfl
  rw [h1, h2] at h
  exact h
theorem mem_weightsAll {P : Program} {e : TypeId} {w : Nat} : ∀ {l : List (DataW H)} {d : DataW H}, d ∈ l → w ∈ d.weights P e → w ∈ DataW.weightsAll P e l
  | [], d, h, _ => by cases h
  | a :: r, d, h, hw => by
    rw [DataW.weightsAll]
    rcases List.mem_cons.1 h with rfl | h
    · exact List.mem_append_left _ hw
    · exact List.mem_append_right _ (mem_weightsAll h hw)
theorem elem_abs {fuel : Nat} {cs : List Value} {x : DataW H × List MemPlace} (h : DataW.trod enc Try.prog W 0 sp held fuel 28 cs = some x) (hw : ∀ w ∈ x.1.weights Try.prog 28, w ≤ reachBytes) :
    ∃ b : AV, absC Try.prog 3 28 x.1 = [b] ∧ ElemF b ∧ ∀ ρ, ren ρ b = b := by
  rcases open_ints u28 u5 c5 h with ⟨_, rfl⟩ | ⟨a, len, cap, zs, _, _, hlc, _, hz, rfl, _, _⟩
  · exact ⟨.nils, by simp only [absC, u28], .inl rfl, fun ρ => rfl⟩
  · have hzl : len ≤ zs.length := by rw [hz]; split <;> omega
    have a5 : ∀ z : Int, absC (H := H) Try.prog 2 5 (.lit (.int .u8 z)) = [u8 z] := fun z => by simp only [absC, u5]; rfl
    have hl : (lits (H := H) .u8 (zs.take len)).length = len := by simp [lits]; omega
    have hlt : (zs.take len).length = len := by simp; omega
    refine ⟨.imm 1 (zs.take len).length false ((zs.take len).map u8), ?_, .inr ⟨false, zs.take len, rfl, ?_⟩, fun ρ => ?_⟩
    · have : absC (H := H) Try.prog 3 28 (.slice (lits .u8 (zs.take len)) (lits .u8 (zs.drop len))) = [.imm (Try.prog.cellsOf 5) (lits (H := H) .u8 (zs.take len)).length false ((lits (H := H) .u8 (zs.take len)).flatMap (absC Try.prog 2 5))] := by
        rw [absC]
        simp only [u28]
      rw [this, hl, c5, hlt]
      congr 2
      unfold lits
      rw [List.flatMap_map]
      simp only [a5]
      rw [fm1]
    · have := hw (((lits (H := H) .u8 (zs.take len)).length + (lits (H := H) .u8 (zs.drop len)).length) * Try.prog.bytesOf 5) (by
        rw [DataW.weights]
        simp only [u28]
        exact List.mem_cons_self ..)
      rw [hl, b5] at this
      simp only [reachBytes] at this
      rw [hlt]
      omega
    · simp only [ren, renL_u8]
theorem flat_props (f : DataW H → List AV) : ∀ ds : List (DataW H), (∀ d ∈ ds, ∃ b : AV, f d = [b] ∧ ElemF b ∧ ∀ ρ, ren ρ b = b) →
    (ds.flatMap f).length = ds.length ∧ (∀ (k : Nat) (b : AV), (ds.flatMap f)[k]? = some b → ElemF b) ∧ ∀ ρ, renL ρ (ds.flatMap f) = ds.flatMap f
  | [], _ => ⟨rfl, fun k b h => by simp at h, fun ρ => by simp [renL]⟩
  | d :: ds, h => by
    obtain ⟨b, h1, h2, h3⟩ := h d (List.mem_cons_self ..)
    obtain ⟨k1, k2, k3⟩ := flat_props f ds fun e he => h e (List.mem_cons_of_mem _ he)
    rw [List.flatMap_cons, h1]
    refine ⟨by simp [k1], fun k c hc => ?_, fun ρ => ?_⟩
    · cases k with
      | zero => simp at hc; rw [← hc]; exact h2
      | succ k => exact k2 k c (by simpa using hc)
    · simp only [List.cons_append, List.nil_append, renL, h3, k3]
theorem list_abs {fuel : Nat} {cs : List Value} {x : DataW H × List MemPlace} (h : DataW.trod enc Try.prog W 0 sp held fuel 51 cs = some x) (hw : ∀ w ∈ x.1.weights Try.prog 51, w ≤ reachBytes) :
    ∃ (L : AV) (nl : Nat) (cl : List AV), absC Try.prog 4 51 x.1 = [L] ∧ ListF L nl cl ∧ (L = .nils ∨ L = .imm 1 nl false cl) := by
  rcases DataW.trod_slice u51 h with ⟨rfl, rfl⟩ | ⟨a, len, cap, elems, rest, n, _, rfl, rfl, _, hlc, hcm, hel, hat, _, _⟩
  · exact ⟨.nils, 0, [], by simp only [absC, u51], ⟨.inr rfl, rfl, fun k b h => by simp at h, fun ρ => by simp [renL]⟩, .inl rfl⟩
  · have each : ∀ d ∈ elems.map (·.1), ∃ b : AV, absC Try.prog 3 28 d = [b] ∧ ElemF b ∧ ∀ ρ, ren ρ b = b := fun d hd => by
      obtain ⟨y, hy, rfl⟩ := List.mem_map.1 hd
      obtain ⟨i, hi, rfl⟩ := List.mem_iff_getElem.1 hy
      have h1 := hat i (by omega)
      rw [List.getElem?_eq_getElem hi] at h1
      obtain ⟨ci, k1, k2⟩ := Option.bind_eq_some_iff.1 h1
      refine elem_abs k2 fun w hww => hw w ?_
      rw [DataW.weights]
      simp only [u51]
      exact List.mem_cons_of_mem _ (List.mem_append_left _ (mem_weightsAll hd hww))
    obtain ⟨k1, k2, k3⟩ := flat_props (absC Try.prog 3 28) _ each
    refine ⟨.imm 1 (elems.map (·.1)).length false ((elems.map (·.1)).flatMap (absC Try.prog 3 28)), (elems.map (·.1)).length, _, ?_, ⟨.inl rfl, k1, k2, k3⟩, .inr rfl⟩
    have : ∀ (a b : List (DataW H)), absC (H := H) Try.prog 4 51 (.slice a b) = [.imm (Try.prog.cellsOf 28) a.length false (a.flatMap (absC Try.prog 3 28))] := fun a b => by
      simp only [absC, u51]
    rw [this, c28]
end
set_option maxRecDepth 100000 in
theorem lifted (os : Os) (started : os.Started) (H : Type) (enc : TypeId × Value → H) :
    ReturnsInHanded {} Try.checked os 6 .any (Rows.filesFullSpec.pre6 enc Try.prog Try.f6 Rows.filesFullRow.domain false) (Rows.filesFullSpec.post enc Try.prog Try.f6 false true false false) := by
  refine returnsInHanded_of_change_sized (C := Try.checked) own started (by kernel_rfl) Try.func6
    (ChangeSpec.witness6 (enc := enc) (C := Try.checked) false ⟨#[], #[.int .u16 0, .slice none 0 0], []⟩ 8 (by kernel_rfl) (by kernel_rfl) (by kernel_rfl) (by kernel_rfl)) ?_
  intro W base args ds gs before hval0 hW _ hsz0 _
  have hsz : (DataW.weightsEach Try.prog (Try.f6.params.toList ++ Rows.filesFullSpec.plain.varTypes Try.prog) (ds ++ gs)).all (· ≤ reachBytes) = true := hsz0
  clear hsz0
  have hval : ∀ (j : Nat) t v, Try.f6.params[j]? = some t → args[j]? = some v → Value.okWide Try.prog W .any base t v := hval0
  have hW' := hW
  obtain ⟨p, q, hA0, hV, rfl, _, _⟩ := hW
  have hA : DataW.TrodAll enc Try.prog W 0 (fun _ => true) true Try.f6.params.toList args.toList ds p := hA0
  rw [Try.params6] at hA hval hsz
  obtain ⟨v0, v1, d0, d1, p0, p1, rfl, rfl, rfl, h0, h1⟩ := trodAll_two hA
  obtain ⟨rfl, rfl⟩ := trodVars_none hV
  simp only [List.append_nil] at hW'
  have hlt : ∀ x ∈ p0 ++ p1, x.block < W.heap.size := fun x hx => by simpa using hW'.lt x hx
  obtain ⟨qv, rfl, rfl, rfl, hwf⟩ := open_int u50 (hval 0 50 v0 rfl rfl) h0
  obtain ⟨a1, n1, cap1, rfl⟩ := okWide_slice u51 (hval 1 51 v1 rfl rfl)
  obtain ⟨f1, e1⟩ := id h1
  have hw1 : ∀ w ∈ d1.weights Try.prog 51, w ≤ reachBytes := fun w hw => by
    have := List.all_eq_true.1 hsz w (by
      show w ∈ DataW.weightsEach Try.prog ([50, 51] ++ _) [_, d1]
      rw [List.cons_append, DataW.weightsEach]
      refine List.mem_append_right _ ?_
      rw [List.cons_append, DataW.weightsEach]
      exact List.mem_append_left _ hw)
    simpa using this
  obtain ⟨L, nl, cl, eb, hL, hsh⟩ := list_abs e1 hw1
  have l1 := lift 4 51 good51 f1 _ _ (by rw [c51]; rfl) e1
  rw [eb] at l1
  have hargs : VRs (gW W) [.val (.int .u16 qv), L] [.int .u16 qv, .slice a1 n1 cap1] := .cons (.val _ rfl) l1.1
  have run := full_all qv (wf_u16 hwf) hL hsh
  have run' : Calls Try.prog 6 #[.int .u16 qv, .slice a1 n1 cap1] W fun e w' => e = .returned (.bool true) ∧ Below W.heap.size W w' :=
    (run (gW W) W _ (okW W) hargs).mono fun e w' ⟨g', st', a, v, h1, h2, h3, h4⟩ => by
      subst h4
      rw [h3.val_inv] at h1
      exact ⟨h1, h2.os, h2.tape, h2.output, h2.size, fun b hb => h2.frame b hb fun id o ho => by
        have := (St.wget_get ho).1
        simp [st00, St.get, Tr.get] at this⟩
  refine run'.mono fun e W' ⟨he, hb⟩ => ?_
  have k0 := Below.trod laidOut (by kernel_rfl) (of_decide_eq_true (by kernel_rfl)) h0 hb fun x hx => hlt x (List.mem_append_left _ hx)
  have k1 := Below.trod laidOut (by kernel_rfl) (of_decide_eq_true (by kernel_rfl)) h1 hb fun x hx => hlt x (List.mem_append_right _ hx)
  exact ⟨_, he, ⟨_, _, _, [], _, [], hW', trodAll_mk1 (shut_bool Try.underlying4 _), trodAll_mk2 k0 k1, rfl, hb.frame _, fun h => by cases h⟩⟩
theorem holds : Rows.FilesFullSaid :=
  OpenClaim.holds_of_wide 6 Try.f6 rfl rfl rfl rfl rfl rfl rfl ⟨rfl, rfl, rfl, rfl, rfl⟩ rfl rfl rfl rfl rfl (by kernel_rfl) Try.func6 (by kernel_rfl)
    (of_decide_eq_true (by kernel_rfl)) (by unfold Func.isWrapper; first | (rw [if_pos (by decide +kernel)]; kernel_rfl) | (rw [if_neg (by decide +kernel)]; exact ⟨rfl, rfl⟩))
    (fun os started H enc _ => lifted os started H enc)
end Go.Proofs.Ytniaiciabfdbnaa.FilesFull
