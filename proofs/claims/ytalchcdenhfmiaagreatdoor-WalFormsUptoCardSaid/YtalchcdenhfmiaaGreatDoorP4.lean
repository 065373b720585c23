/- Part 4 of the proof, over the abstract machine: contracts of the functions that the statement reaches, joined out of several texts. Condition: none beyond those that the lemmas name. -/
import Derived.Test.YtalchcdenhfmiaaGreatDoorP3
namespace Go.Proofs.YtalchcdenhfmiaaGreatDoor.E
open Go Go.Proofs
section
set_option maxRecDepth 8000
/-! ### bytes, as they are read -/
def BS (st : St) (v : AV) (bs : List Int) : Prop := (v = .nils ∧ bs = []) ∨ (∃ f, v = .imm 1 bs.length f (bs.map u8)) ∨
  ∃ id off f vs, v = .sl id 1 off bs.length f ∧ st.get id = some (.row vs 5) ∧ (vs.drop off).take bs.length = bs.map u8 ∧ off + bs.length ≤ vs.length
theorem BS.len {st : St} {v : AV} {bs : List Int} (h : BS st v bs) : lenA E0 22 v = some (i64 bs.length) := by
  rcases h with ⟨rfl, rfl⟩ | ⟨f, rfl⟩ | ⟨id, off, f, vs, rfl, _⟩
  · exact lenS0 slB
  · kernel_rfl
  · exact lenS slB
theorem BS.cells {st : St} {v : AV} {bs : List Int} (h : BS st v bs) : sliceCells st v = some (bs.length, bs.map u8) := by
  rcases h with ⟨rfl, rfl⟩ | ⟨f, rfl⟩ | ⟨id, off, f, vs, rfl, hg, h1, h2⟩
  · rfl
  · rfl
  · simp only [sliceCells, hg]
    rw [if_pos (by omega), Nat.mul_one, h1]
theorem BS.at {st : St} {v : AV} {bs : List Int} (h : BS st v bs) {i : Nat} {x : Int} (hx : bs[i]? = some x) : ∃ q, indexAddrA E0 22 v (i64 i) = some q ∧ loadA E0 st 5 q = some (u8 x) := by
  have hi : i < bs.length := (List.getElem?_eq_some_iff.1 hx).1
  rcases h with ⟨_, rfl⟩ | ⟨f, rfl⟩ | ⟨id, off, f, vs, rfl, hg, h1, h2⟩
  · simp at hx
  · obtain ⟨⟨q, h1, h2⟩, h3⟩ := slB
    refine ⟨.iptr ((bs.map u8).drop (i * 1)), ?_, ?_⟩
    · simp only [indexAddrA, h1, h2, h3]
      rw [if_pos ⟨trivial, by omega, by omega, by decide⟩]; rfl
    · show partA E0 5 ((bs.map u8).drop (i * 1)) 0 = some (u8 x)
      exact plainT ty5 rfl (by rw [List.getElem?_drop]; simp [hx])
  · refine ⟨_, idxS slB hi, load_row hg (plainT ty5 rfl ?_)⟩
    have : ((vs.drop off).take bs.length)[i]? = some (u8 x) := by rw [h1, List.getElem?_map, hx]; rfl
    rw [List.getElem?_take, if_pos hi, List.getElem?_drop] at this
    rw [Nat.mul_one]; exact this
theorem BS.rest {st st' : St} {v : AV} {bs : List Int} (h : BS st v bs) (hr : Rest st st' []) : BS st' v bs := by
  rcases h with h | h | ⟨id, off, f, vs, h, hg, h1, h2⟩
  · exact .inl h
  · exact .inr (.inl h)
  · exact .inr (.inr ⟨id, off, f, vs, h, hr.keep _ _ (by simp) hg, h1, h2⟩)
theorem OwnB.bs {st : St} {v : AV} {bs : List Int} (h : OwnB st v bs) : BS st v bs := by
  rcases h with ⟨rfl, rfl⟩ | ⟨rfl, i, rfl, hg⟩ | ⟨_, i, rfl, hg⟩
  · exact .inl ⟨rfl, rfl⟩
  · exact .inr (.inr ⟨i, 0, true, [], rfl, hg, rfl, by simp⟩)
  · exact .inr (.inr ⟨i, 0, false, _, rfl, hg, by simp [List.take_of_length_le], by simp⟩)
/-! ### numbers -/
theorem mulN (a b : Nat) (h : a * b ≤ 9000000000000000000) : binA E0 .mul 3 (i64 a) (i64 b) = some (i64 ((a * b : Nat) : Int)) := by
  rw [Int.natCast_mul]; exact mul64 (by rw [← Int.natCast_mul]; omega)
theorem addN' (a b : Nat) (h : a + b ≤ 9000000000000000000) : binA E0 .add 3 (i64 a) (i64 b) = some (i64 ((a + b : Nat) : Int)) := by
  rw [Int.natCast_add]; exact add64 (by omega)
theorem remN' (k : IntKind) (x m : Nat) (hm : 0 < m) : pureVal (Op.intDiv .rem k (x : Int) (m : Int)) = some (.val (.int k ((x % m : Nat) : Int))) := by
  unfold Op.intDiv
  rw [if_neg (by omega)]
  have : ((x : Int)).tmod (m : Int) = ((x % m : Nat) : Int) := by rw [Int.tmod_eq_emod_of_nonneg (by omega)]; rfl
  simp only [this]
  rfl
theorem rem3 (x m : Nat) (hm : 0 < m) : binA E0 .rem 3 (i64 x) (i64 m) = some (i64 ((x % m : Nat) : Int)) := remN' .i64 x m hm
theorem rem79 (x m : Nat) (hm : 0 < m) : binA E0 .rem 79 (u64 x) (u64 m) = some (u64 ((x % m : Nat) : Int)) := remN' .u64 x m hm
theorem quo3 (x m : Nat) (hm : 0 < m) (h : x ≤ 9000000000000000000) : binA E0 .quo 3 (i64 x) (i64 m) = some (i64 ((x / m : Nat) : Int)) := by
  show pureVal (Op.intDiv .quo .i64 (x : Int) (m : Int)) = _
  unfold Op.intDiv
  rw [if_neg (by omega)]
  have : ((x : Int)).tdiv (m : Int) = ((x / m : Nat) : Int) := by rw [Int.tdiv_eq_ediv_of_nonneg (by omega)]; rfl
  have hle : x / m ≤ x := Nat.div_le_self _ _
  generalize x / m = d at this hle ⊢
  simp only [this]
  rw [IntWalk.i64_in _ (by omega)]
  rfl
theorem quo79 (x m : Nat) (hm : 0 < m) (h : x ≤ 9000000000000000000) : binA E0 .quo 79 (u64 x) (u64 m) = some (u64 ((x / m : Nat) : Int)) := by
  show pureVal (Op.intDiv .quo .u64 (x : Int) (m : Int)) = _
  unfold Op.intDiv
  rw [if_neg (by omega)]
  have : ((x : Int)).tdiv (m : Int) = ((x / m : Nat) : Int) := by rw [Int.tdiv_eq_ediv_of_nonneg (by omega)]; rfl
  have hle : x / m ≤ x := Nat.div_le_self _ _
  generalize x / m = d at this hle ⊢
  simp only [this]
  rw [IntWalk.u64_in _ (by omega)]
  rfl
theorem shr79 (a c : Nat) (h : c ≤ 64) : binA E0 .shr 79 (u64 a) (u64 c) = some (u64 ((a >>> c : Nat) : Int)) := by
  show pureVal (Op.shift .shr .u64 (a : Int) .u64 (c : Int)) = _
  unfold Op.shift
  rw [if_neg (by omega)]
  have e : (a : Int).fdiv (2 ^ (min c 64)) = ((a >>> c : Nat) : Int) := by
    rw [Nat.min_eq_left h, Int.fdiv_eq_ediv_of_nonneg _ (Int.le_of_lt (Int.pow_pos (by decide))), Nat.shiftRight_eq_div_pow, Int.natCast_ediv, Int.natCast_pow]
    rfl
  show some (AV.val (.int .u64 ((a : Int).fdiv (2 ^ (min c 64))))) = _
  rw [e]
theorem and79 (a : Nat) (h : a < 2 ^ 64) : binA E0 .and 79 (u64 a) (u64 1) = some (u64 ((a % 2 : Nat) : Int)) := by
  show some (AV.val (.int .u64 (IntKind.u64.wrap (((BitVec.ofInt 64 (a : Int)) &&& (BitVec.ofInt 64 ((1 : Nat) : Int))).toNat : Int)))) = _
  rw [BitVec.ofInt_natCast, BitVec.ofInt_natCast, BitVec.toNat_and, BitVec.toNat_ofNat, BitVec.toNat_ofNat, Nat.mod_eq_of_lt h, Nat.mod_eq_of_lt (by omega), Nat.and_one_is_mod, IntWalk.u64_in _ (by omega)]
theorem xor79 (a b : Nat) (ha : a < 2 ^ 64) (hb : b < 2 ^ 64) : binA E0 .xor 79 (u64 a) (u64 b) = some (u64 ((a ^^^ b : Nat) : Int)) := by
  show some (AV.val (.int .u64 (IntKind.u64.wrap (((BitVec.ofInt 64 (a : Int)) ^^^ (BitVec.ofInt 64 (b : Int))).toNat : Int)))) = _
  have hx : a ^^^ b < 2 ^ 64 := Nat.xor_lt_two_pow ha hb
  rw [BitVec.ofInt_natCast, BitVec.ofInt_natCast, BitVec.toNat_xor, BitVec.toNat_ofNat, BitVec.toNat_ofNat, Nat.mod_eq_of_lt ha, Nat.mod_eq_of_lt hb, IntWalk.u64_in _ (by omega)]
theorem mul79 (a b : Nat) (h : a * b ≤ 9000000000000000000) : binA E0 .mul 79 (u64 a) (u64 b) = some (u64 ((a * b : Nat) : Int)) := by
  rw [mulI, ← Int.natCast_mul, IntWalk.u64_in _ (by omega)]
theorem add79 (a b : Nat) (h : a + b ≤ 9000000000000000000) : binA E0 .add 79 (u64 a) (u64 b) = some (u64 ((a + b : Nat) : Int)) := by
  rw [addI, ← Int.natCast_add, IntWalk.u64_in _ (by omega)]
theorem add80 (a b : Nat) (h : a + b < 2 ^ 32) : binA E0 .add 80 (u32 a) (u32 b) = some (u32 ((a + b : Nat) : Int)) := by
  rw [addI, ← Int.natCast_add, IntWalk.u32_in _ (by omega)]
theorem shl80 (k : Nat) (hk : k < 32) : binA E0 .shl 80 (u32 1) (u64 ((31 - k : Nat) : Int)) = some (u32 ((2 ^ (31 - k) : Nat) : Int)) := by
  show pureVal (Op.shift .shl .u32 1 .u64 (((31 - k : Nat)) : Int)) = _
  unfold Op.shift
  rw [if_neg (by omega)]
  have hp : 2 ^ (31 - k) ≤ 2 ^ 31 := Nat.pow_le_pow_right (by decide) (by omega)
  show some (AV.val (.int .u32 (IntKind.u32.wrap (1 * 2 ^ (min (31 - k) 32))))) = _
  rw [Nat.min_eq_left (by omega), Int.one_mul, show (2 : Int) ^ (31 - k) = ((2 ^ (31 - k) : Nat) : Int) by rw [Int.natCast_pow]; rfl, IntWalk.u32_in _ ⟨Int.natCast_nonneg _, Int.ofNat_le.2 (Nat.le_trans hp (by decide))⟩]
theorem conv5_79 (st : St) (k : Nat) (h : k < 2 ^ 64) : convO E0 st 5 79 (u8 k) = some (u64 (k : Nat), st) := by
  have : convO E0 st 5 79 (u8 k) = some (u64 (IntKind.u64.wrap (k : Int)), st) := by kernel_rfl
  rw [this, IntWalk.u64_in _ (by omega)]
theorem conv3_79 (st : St) (k : Nat) (h : k < 2 ^ 64) : convO E0 st 3 79 (i64 k) = some (u64 (k : Nat), st) := by
  have : convO E0 st 3 79 (i64 k) = some (u64 (IntKind.u64.wrap (k : Int)), st) := by kernel_rfl
  rw [this, IntWalk.u64_in _ (by omega)]
theorem conv80_79 (st : St) (k : Nat) (h : k < 2 ^ 64) : convO E0 st 80 79 (u32 k) = some (u64 (k : Nat), st) := by
  have : convO E0 st 80 79 (u32 k) = some (u64 (IntKind.u64.wrap (k : Int)), st) := by kernel_rfl
  rw [this, IntWalk.u64_in _ (by omega)]
theorem conv79_5 (st : St) (k : Nat) (h : k < 256) : convO E0 st 79 5 (u64 k) = some (u8 (k : Nat), st) := by
  have : convO E0 st 79 5 (u64 k) = some (u8 (IntKind.u8.wrap (k : Int)), st) := by kernel_rfl
  rw [this, IntWalk.u8_in _ (by omega)]
theorem conv3_53 (st : St) (k : Nat) (h : k < 2 ^ 64) : convO E0 st 3 53 (i64 k) = some (u64 (k : Nat), st) := by
  have : convO E0 st 3 53 (i64 k) = some (u64 (IntKind.u64.wrap (k : Int)), st) := by kernel_rfl
  rw [this, IntWalk.u64_in _ (by omega)]
theorem conv5_3 (st : St) (k : Nat) (h : k < 256) : convO E0 st 5 3 (u8 k) = some (i64 (k : Nat), st) := by
  have : convO E0 st 5 3 (u8 k) = some (i64 (IntKind.i64.wrap (k : Int)), st) := by kernel_rfl
  rw [this, IntWalk.i64_in _ (by omega)]
end
section
set_option maxRecDepth 8000
/-! ### the document's Sum -/
theorem refReg_lt (c : Nat → Bool) (k : Nat) : refReg c k < 2 ^ 32 := (turned c k).1
theorem step_red {r : Nat} {b : Bool} (h : (2 * r + b.toNat) >>> 32 = 1) : refStep r b = (2 * r + b.toNat) ^^^ 0x104c11db7 := by unfold refStep; rw [if_pos h]
theorem step_not {r : Nat} {b : Bool} (h : ¬ (2 * r + b.toNat) >>> 32 = 1) : refStep r b = 2 * r + b.toNat := by unfold refStep; rw [if_neg h]
theorem refOut_lt {r : Nat} {q : BitVec 32} (_h : Turned r q) {k : Nat} (hk : k ≤ 32) : refOut r k < 2 ^ 32 := by
  obtain ⟨x, e, hl, _⟩ := refOut_bits r k hk
  rw [e]
  calc x * 2 ^ (32 - k) < 2 ^ k * 2 ^ (32 - k) := Nat.mul_lt_mul_of_pos_right hl (Nat.pow_pos (by decide))
    _ = 2 ^ 32 := by rw [← Nat.pow_add]; congr 1; omega
theorem bit_and (x j : Nat) : x >>> j % 2 = (x.testBit j).toNat := by
  rw [Nat.shiftRight_eq_div_pow, Nat.toNat_testBit]
theorem xor_bit (b : Bool) : b.toNat ^^^ 1 = (!b).toNat := by cases b <;> rfl
theorem sum_turn {st : St} {v : AV} {xs : List Nat} (hv : BS st v (xs.map Int.ofNat)) (h256 : ∀ x ∈ xs, x < 256) (hl : xs.length ≤ 1000000000000) {k : Nat} (hk : k < 8 * xs.length + 32) :
    ∀ T, f43L2 T v (u64 ((refReg (refBits xs) k : Nat) : Int)) (i64 k) → AW Tryz.prog (f43P 3) (fun ex T' z => ex = .normal ∧ f43L2 T' v (u64 ((refReg (refBits xs) (k + 1) : Nat) : Int)) (i64 (k + 1 : Nat)) ∧ z = st) T st := by
  intro T hT
  have hlen := hv.len
  rw [List.length_map] at hlen
  have hr := refReg_lt (refBits xs) k
  have m1 : binA E0 .mul 3 (i64 8) (i64 xs.length) = some (i64 ((8 * xs.length : Nat) : Int)) := mulN 8 xs.length (by omega)
  have a1 : binA E0 .add 3 (i64 ((8 * xs.length : Nat) : Int)) (i64 32) = some (i64 ((8 * xs.length + 32 : Nat) : Int)) := addN' (8 * xs.length) 32 (by omega)
  have l1 : binA E0 .lss 3 (i64 k) (i64 ((8 * xs.length + 32 : Nat) : Int)) = some TT := lssT (by omega)
  have m2 : binA E0 .mul 79 (u64 2) (u64 ((refReg (refBits xs) k : Nat) : Int)) = some (u64 ((2 * refReg (refBits xs) k : Nat) : Int)) := mul79 2 _ (by omega)
  have ak : binA E0 .add 3 (i64 k) (i64 1) = some (i64 ((k + 1 : Nat) : Int)) := addN' k 1 (by omega)
  have hb01 : ∀ b : Bool, b.toNat ≤ 1 := fun b => by cases b <;> decide
  have a2 : ∀ b : Bool, binA E0 .add 79 (u64 ((2 * refReg (refBits xs) k : Nat) : Int)) (u64 ((b.toNat : Nat) : Int)) = some (u64 ((2 * refReg (refBits xs) k + b.toNat : Nat) : Int)) := fun b => add79 _ _ (by have := hb01 b; omega)
  have sh : ∀ b : Bool, binA E0 .shr 79 (u64 ((2 * refReg (refBits xs) k + b.toNat : Nat) : Int)) (u64 32) = some (u64 (((2 * refReg (refBits xs) k + b.toNat) >>> 32 : Nat) : Int)) := fun b => shr79 _ 32 (by omega)
  have xr : ∀ b : Bool, binA E0 .xor 79 (u64 ((2 * refReg (refBits xs) k + b.toNat : Nat) : Int)) (u64 4374732215) = some (u64 (((2 * refReg (refBits xs) k + b.toNat) ^^^ 0x104c11db7 : Nat) : Int)) := fun b => xor79 _ 0x104c11db7 (by have := hb01 b; omega) (by decide)
  have xb : ∀ b : Bool, binA E0 .xor 79 (u64 ((b.toNat : Nat) : Int)) (u64 1) = some (u64 (((!b).toNat : Nat) : Int)) := fun b => by
    have := xor79 b.toNat 1 (by have := hb01 b; omega) (by decide)
    rw [xor_bit] at this; exact this
  have hstep : refReg (refBits xs) (k + 1) = refStep (refReg (refBits xs) k) (refBits xs k) := rfl
  by_cases hb : k < 8 * xs.length
  · have l2 : binA E0 .lss 3 (i64 k) (i64 ((8 * xs.length : Nat) : Int)) = some TT := lssT (by omega)
    have hi : k / 8 < xs.length := by omega
    have hx : xs[k / 8]? = some xs[k / 8] := List.getElem?_eq_getElem hi
    have hx256 := h256 _ (List.getElem_mem hi)
    have hbits : bitsOf xs k = xs[k / 8].testBit (k % 8) := by unfold bitsOf; rw [List.getD_eq_getElem?_getD, hx]; rfl
    generalize xs[k / 8] = x at hx hx256 hbits
    obtain ⟨q, i1, i2⟩ := hv.at (i := k / 8) (x := Int.ofNat x) (by rw [List.getElem?_map, hx]; rfl)
    have s1 : binA E0 .shr 79 (u64 (x : Nat)) (u64 ((k % 8 : Nat) : Int)) = some (u64 ((x >>> (k % 8) : Nat) : Int)) := shr79 x (k % 8) (by omega)
    have n1 : binA E0 .and 79 (u64 ((x >>> (k % 8) : Nat) : Int)) (u64 1) = some (u64 (((bitsOf xs k).toNat : Nat) : Int)) := by
      have := and79 (x >>> (k % 8)) (by rw [Nat.shiftRight_eq_div_pow]; exact Nat.lt_of_le_of_lt (Nat.div_le_self _ _) (by omega))
      rw [bit_and, ← hbits] at this; exact this
    have q1 := quo3 k 8 (by decide) (by omega)
    have r1 := rem3 k 8 (by decide)
    have c1 := conv5_79 st x (by omega)
    have c2 := conv3_53 st (k % 8) (by omega)
    by_cases hv32 : k < 32
    · have hc : refBits xs k = !(bitsOf xs k) := by unfold refBits; rw [if_pos hv32]
      by_cases hr1 : (2 * refReg (refBits xs) k + (!(bitsOf xs k)).toNat) >>> 32 = 1
      · rw [hstep, hc, step_red hr1]
        exact f43_3_TTTT hlen m1 a1 l1 hlen m1 l2 q1 i1 i2 c1 r1 c2 s1 n1 (lssT (by omega)) (xb _) m2 (a2 _) (sh _) (eqlT (by rw [hr1]; rfl)) (xr _) ak hT
      · rw [hstep, hc, step_not hr1]
        exact f43_3_TTTF hlen m1 a1 l1 hlen m1 l2 q1 i1 i2 c1 r1 c2 s1 n1 (lssT (by omega)) (xb _) m2 (a2 _) (sh _) (eqlF (fun e => hr1 (by exact_mod_cast e))) ak hT
    · have hc : refBits xs k = bitsOf xs k := by unfold refBits; rw [if_neg hv32]
      by_cases hr1 : (2 * refReg (refBits xs) k + (bitsOf xs k).toNat) >>> 32 = 1
      · rw [hstep, hc, step_red hr1]
        exact f43_3_TTFT hlen m1 a1 l1 hlen m1 l2 q1 i1 i2 c1 r1 c2 s1 n1 (lssF (by omega)) m2 (a2 _) (sh _) (eqlT (by rw [hr1]; rfl)) (xr _) ak hT
      · rw [hstep, hc, step_not hr1]
        exact f43_3_TTFF hlen m1 a1 l1 hlen m1 l2 q1 i1 i2 c1 r1 c2 s1 n1 (lssF (by omega)) m2 (a2 _) (sh _) (eqlF (fun e => hr1 (by exact_mod_cast e))) ak hT
  · have l2 : binA E0 .lss 3 (i64 k) (i64 ((8 * xs.length : Nat) : Int)) = some FF := lssF (by omega)
    have h0 : bitsOf xs k = false := by
      unfold bitsOf
      rw [List.getD_eq_getElem?_getD, List.getElem?_eq_none (by omega)]
      simp
    have m0 : (u64 0 : AV) = u64 (((false : Bool).toNat : Nat) : Int) := rfl
    by_cases hv32 : k < 32
    · have hc : refBits xs k = !false := by unfold refBits; rw [if_pos hv32, h0]
      have x0 : binA E0 .xor 79 (u64 0) (u64 1) = some (u64 (((!false).toNat : Nat) : Int)) := xb false
      by_cases hr1 : (2 * refReg (refBits xs) k + (!false).toNat) >>> 32 = 1
      · rw [hstep, hc, step_red hr1]
        exact f43_3_TFTT hlen m1 a1 l1 hlen m1 l2 (lssT (by omega)) x0 m2 (a2 _) (sh _) (eqlT (by rw [hr1]; rfl)) (xr _) ak hT
      · rw [hstep, hc, step_not hr1]
        exact f43_3_TFTF hlen m1 a1 l1 hlen m1 l2 (lssT (by omega)) x0 m2 (a2 _) (sh _) (eqlF (fun e => hr1 (by exact_mod_cast e))) ak hT
    · have hc : refBits xs k = false := by unfold refBits; rw [if_neg hv32, h0]
      have a0 : binA E0 .add 79 (u64 ((2 * refReg (refBits xs) k : Nat) : Int)) (u64 0) = some (u64 ((2 * refReg (refBits xs) k + (false : Bool).toNat : Nat) : Int)) := a2 false
      by_cases hr1 : (2 * refReg (refBits xs) k + (false : Bool).toNat) >>> 32 = 1
      · rw [hstep, hc, step_red hr1]
        exact f43_3_TFFT hlen m1 a1 l1 hlen m1 l2 (lssF (by omega)) m2 a0 (sh _) (eqlT (by rw [hr1]; rfl)) (xr _) ak hT
      · rw [hstep, hc, step_not hr1]
        exact f43_3_TFFF hlen m1 a1 l1 hlen m1 l2 (lssF (by omega)) m2 a0 (sh _) (eqlF (fun e => hr1 (by exact_mod_cast e))) ak hT
theorem out_turn {st : St} {r : Nat} {q : BitVec 32} (h : Turned r q) {k : Nat} (hk : k < 32) :
    ∀ T, f43L5 T (u64 (r : Nat)) (u32 ((refOut r k : Nat) : Int)) (i64 k) → AW Tryz.prog (f43P 6) (fun ex T' z => ex = .normal ∧ f43L5 T' (u64 (r : Nat)) (u32 ((refOut r (k + 1) : Nat) : Int)) (i64 (k + 1 : Nat)) ∧ z = st) T st := by
  intro T hT
  have hr := h.1
  have s1 : binA E0 .shr 79 (u64 (r : Nat)) (u64 (k : Nat)) = some (u64 ((r >>> k : Nat) : Int)) := shr79 r k (by omega)
  have n1 : binA E0 .and 79 (u64 ((r >>> k : Nat) : Int)) (u64 1) = some (u64 (((r.testBit k).toNat : Nat) : Int)) := by
    have := and79 (r >>> k) (by rw [Nat.shiftRight_eq_div_pow]; exact Nat.lt_of_le_of_lt (Nat.div_le_self _ _) (by omega))
    rw [bit_and] at this; exact this
  have ak : binA E0 .add 3 (i64 k) (i64 1) = some (i64 ((k + 1 : Nat) : Int)) := addN' k 1 (by omega)
  have ho := refOut_lt h (k := k + 1) (by omega)
  cases hb : r.testBit k with
  | true =>
    have e : refOut r (k + 1) = refOut r k := by simp [refOut, hb]
    rw [hb] at n1
    rw [e]
    exact f43_6_TF (lssT (by omega)) (conv3_53 st k (by omega)) s1 n1 (eqlF (by decide)) ak hT
  | false =>
    have e : refOut r (k + 1) = refOut r k + 2 ^ (31 - k) := by simp [refOut, hb]
    rw [hb] at n1
    rw [e] at ho ⊢
    have sb : binA E0 .sub 3 (i64 31) (i64 k) = some (i64 ((31 - k : Nat) : Int)) := by
      rw [show ((31 - k : Nat) : Int) = 31 - (k : Int) by omega]
      exact sub64 (by omega)
    exact f43_6_TT (lssT (by omega)) (conv3_53 st k (by omega)) s1 n1 (eqlT rfl) sb (conv3_53 st (31 - k) (by omega)) (shl80 k hk) (add80 _ _ ho) ak hT
theorem sumR_ok {st : St} {v : AV} {xs : List Nat} (hv : BS st v (xs.map Int.ofNat)) (h256 : ∀ x ∈ xs, x < 256) (hl : xs.length ≤ 1000000000000) : obC 43 [v] st (u32 (crcMore 0 (xs.map Int.ofNat))) st := by
  rw [sums_agree xs h256]
  have hlen := hv.len
  rw [List.length_map] at hlen
  have m1 : binA E0 .mul 3 (i64 8) (i64 xs.length) = some (i64 ((8 * xs.length : Nat) : Int)) := mulN 8 xs.length (by omega)
  have a1 : binA E0 .add 3 (i64 ((8 * xs.length : Nat) : Int)) (i64 32) = some (i64 ((8 * xs.length + 32 : Nat) : Int)) := addN' (8 * xs.length) 32 (by omega)
  have ht := turned (refBits xs) (8 * xs.length + 32)
  refine ACalls.body (E := E0) hE Tryz.func43 f43body ?_
  refine AW.andThen (f43_0 ⟨rfl, rfl⟩) fun T1 q1 => ?_
  refine AW.andThen (f43_1 q1) fun T2 q2 => ?_
  refine AW.andThen (AW.andThen (f43_2 q2) fun T3 q3 => AW.turns (In := fun k T => f43L2 T v (u64 ((refReg (refBits xs) k : Nat) : Int)) (i64 k)) (L := fun T => f43L3 T (u64 ((refReg (refBits xs) (8 * xs.length + 32) : Nat) : Int))) (c := fun _ => st) (n := 8 * xs.length + 32) (sf := st) rfl q3 (fun k hk T hT => sum_turn hv h256 hl hk T hT) (fun T hT => f43_3_F hlen m1 a1 (lssF (by omega)) hT)) fun T4 q4 => ?_
  refine AW.andThen (f43_4 q4) fun T5 q5 => ?_
  refine AW.andThen (AW.andThen (f43_5 q5) fun T6 q6 => AW.turns (In := fun k T => f43L5 T (u64 ((refReg (refBits xs) (8 * xs.length + 32) : Nat) : Int)) (u32 ((refOut (refReg (refBits xs) (8 * xs.length + 32)) k : Nat) : Int)) (i64 k)) (L := fun T => f43L6 T (u32 ((refOut (refReg (refBits xs) (8 * xs.length + 32)) 32 : Nat) : Int))) (c := fun _ => st) (n := 32) (sf := st) rfl q6 (fun k hk T hT => out_turn ht hk T hT) (fun T hT => f43_6_F (lssF (by omega)) hT)) fun T7 q7 => ?_
  refine AW.atRet (f43_7 q7) fun T8 q8 => ?_
  refine ⟨[T8.get 2], rfl, ?_⟩
  simp only [oneOrTup]
  rw [q8.2]
  exact ⟨rfl, trivial⟩
end
section
set_option maxRecDepth 8000
/-! ### the document's Num and Frame -/
def FreshB (st : St) (v : AV) : Prop := ∀ i o l f, v = .sl i 1 o l f → st.next ≤ i
theorem app_ownR {st0 st : St} {v x : AV} {bs c : List Int} (hw0 : st0.wf) (hl : st0.lock = []) (hr : Rest st0 st []) (hv : OwnB st v bs) (hf : FreshB st0 v) (hx : sliceCells st x = some (c.length, c.map u8)) (hb : bs.length + c.length ≤ big) :
    ∃ v' st', appendA E0 st 22 22 v x = some (v', st') ∧ OwnB st' v' (bs ++ c) ∧ Rest st0 st' [] ∧ FreshB st0 v' ∧ (∀ i, (∀ o l f, v ≠ .sl i 1 o l f) → ∀ p, st.get i = some p → st'.get i = some p) := by
  obtain ⟨v', st', a1, a2, a3, a4, a5, a6, a7, a8⟩ := app_own hv hr.wf (hr.lock.trans hl) hx hb
  refine ⟨v', st', a1, a2, ⟨fun i o hi ho => a3 i (fun o' l f e => ?_) o (hr.keep i o hi ho), Nat.le_trans hr.next a4, a5.trans hl.symm, a6.trans hr.gl, a7⟩, ?_, a3⟩
  · have := hf _ _ _ _ e
    have := hw0 _ _ ho
    omega
  · rcases a8 with ⟨rfl, rfl⟩ | ⟨l, f, rfl⟩
    · exact hf
    · intro i o l' f' e
      cases e
      exact hr.next
theorem sz4 (st : St) : obC 84 [i64 4] st TT st := ACalls.run hE noOv_ok (show evCallS Tryz.prog E0 noOv (fun _ => []) 100000 84 [i64 4] st [] = some (TT, st, [], []) by kernel_rfl) Ob.ok_nil
theorem make4 (st : St) : makeSliceA E0 st 22 (i64 4) (i64 4) = some (.sl st.next 1 0 4 true, st.push (.row ((List.replicate 4 (0 : Int)).map u8) 5)) := by kernel_rfl
def rowQ (n i : Nat) : List Int := List.replicate (4 - i) 0 ++ [((n / 256 ^ 3 % 256 : Nat) : Int), ((n / 256 ^ 2 % 256 : Nat) : Int), ((n / 256 ^ 1 % 256 : Nat) : Int), ((n / 256 ^ 0 % 256 : Nat) : Int)].drop (4 - i)
theorem rowQ_succ (n : Nat) {i : Nat} (h : i < 4) : (rowQ n i).set (3 - i) ((n / 256 ^ i % 256 : Nat) : Int) = rowQ n (i + 1) := by
  match i, h with
  | 0, _ => rfl
  | 1, _ => rfl
  | 2, _ => rfl
  | 3, _ => rfl
theorem rowQ_len (n : Nat) {i : Nat} (h : i ≤ 4) : (rowQ n i).length = 4 := by
  match i, h with
  | 0, _ => rfl
  | 1, _ => rfl
  | 2, _ => rfl
  | 3, _ => rfl
  | 4, _ => rfl
theorem rowQ4 (n : Nat) : rowQ n 4 = be4 n := by
  have b24 := byteAt_div n 24 (by omega)
  have b16 := byteAt_div n 16 (by omega)
  have b8 := byteAt_div n 8 (by omega)
  have b0 := byteAt_div n 0 (by omega)
  unfold be4
  rw [show (24 : Int) = ((24 : Nat) : Int) from rfl, show (16 : Int) = ((16 : Nat) : Int) from rfl, show (byteAt (n : Int) 8) = byteAt (n : Int) ((8 : Nat) : Int) from rfl, show (0 : Int) = ((0 : Nat) : Int) from rfl, b24, b16, b8, b0]
  rfl
theorem own_nil (st : St) : obC 85 [.nils] st .nils st := f85 (app_zero (.inl rfl) rfl rfl)
theorem conv_mod (σ : St) (x : Nat) : convO E0 σ 79 5 (u64 ((x % 256 : Nat) : Int)) = some (u8 ((x % 256 : Nat) : Int), σ) := conv79_5 σ _ (Nat.mod_lt _ (by decide))
theorem numR_ok {st : St} (hw : st.wf) (hl : st.lock = []) {n : Nat} (hn : n < 2 ^ 32) :
    ∃ v st', obC 42 [.nils, u64 n, i64 4] st (.tup [v, i64 0]) st' ∧ OwnB st' v (be4 n) ∧ Rest st st' [] ∧ FreshB st v := by
  have R0 : Rest st (st.push (.row ((List.replicate 4 (0 : Int)).map u8) 5)) [] := Rest.push hw _ _
  let Inv : Nat → St → Prop := fun i σ => σ.get st.next = some (.row ((rowQ n i).map u8) 5) ∧ Rest st σ []
  obtain ⟨c, c0, inv, step⟩ := chain_seq Inv (fun i σ σ' => ∀ T, f42L3 T .nils (u64 ((n / 256 ^ i : Nat) : Int)) (.sl st.next 1 0 4 true) (i64 (3 - (i : Nat) : Int)) → AW Tryz.prog (f42P 4) (fun ex T' z => ex = .normal ∧ f42L3 T' .nils (u64 ((n / 256 ^ (i + 1) : Nat) : Int)) (.sl st.next 1 0 4 true) (i64 (3 - ((i + 1 : Nat) : Int))) ∧ z = σ') T σ) 4 _ ⟨by rw [St.get_push, if_pos rfl]; rfl, R0⟩ (fun i σ hi ⟨hg, hR⟩ => by
    have hst := store_u8 (k := 3 - i) hg (hR.lock.trans hl) (by rw [rowQ_len n (by omega)]; omega) ((n / 256 ^ i % 256 : Nat) : Int)
    rw [rowQ_succ n hi] at hst
    refine ⟨_, ⟨by rw [St.get_set, if_pos rfl], hR.fresh (Rest.set (S := [st.next]) hR.wf (hR.wf _ _ hg) _ (by simp)) (by simp) hw⟩, fun T hT => ?_⟩
    have hq : n / 256 ^ (i + 1) = n / 256 ^ i / 256 := by rw [Nat.pow_succ, Nat.div_div_eq_div_mul]
    rw [hq, show (3 - ((i + 1 : Nat) : Int)) = (3 - (i : Int)) - 1 by omega]
    have hidx : indexAddrA E0 22 (.sl st.next 1 0 4 true) (i64 (3 - (i : Nat) : Int)) = some (.ptr st.next (3 - i)) := by
      rw [show (3 - (i : Nat) : Int) = ((3 - i : Nat) : Int) by omega]
      exact idx22 (by omega)
    have hle : n / 256 ^ i ≤ 9000000000000000000 := Nat.le_trans (Nat.div_le_self _ _) (by omega)
    exact f42_4_T (geqT (by omega)) (rem79 _ 256 (by decide)) (conv_mod σ _) hidx hst (quo79 _ 256 (by decide) hle) (sub64 (by omega)) hT)
  obtain ⟨g4, R4⟩ := inv 4 (Nat.le_refl _)
  rw [rowQ4] at g4
  have hx : sliceCells (c 4) (.sl st.next 1 0 4 true) = some ((be4 n).length, (be4 n).map u8) := by
    simp only [sliceCells, g4]
    rw [if_pos (by simp [be4])]
    rfl
  obtain ⟨v, st', a1, a2, a3, a4, _⟩ := app_ownR hw hl R4 (v := .nils) (.inl ⟨rfl, rfl⟩) (fun i o l f e => by cases e) hx (by simp [be4, big])
  refine ⟨v, st', ?_, by simpa using a2, a3, a4⟩
  refine ACalls.body (E := E0) hE Tryz.func42 f42body ?_
  refine AW.andThen (f42_0 (v0 := .nils) (n1 := n) (n2 := 4) ⟨rfl, rfl, rfl, rfl⟩) fun T1 q1 => ?_
  refine AW.andThen (f42_1_T (sz4 st) q1) fun T2 q2 => ?_
  refine AW.andThen (f42_2 (make4 st) q2) fun T3 q3 => ?_
  have z0 : n / 256 ^ 4 = 0 := Nat.div_eq_of_lt (by omega)
  refine AW.andThen (AW.andThen (f42_3 (sub64 (a := 4) (b := 1) (by omega)) q3) fun T4 q4 => AW.turns (In := fun i T => f42L3 T .nils (u64 ((n / 256 ^ i : Nat) : Int)) (.sl st.next 1 0 4 true) (i64 (3 - (i : Nat) : Int))) (L := fun T => f42L4 T .nils (u64 ((n / 256 ^ 4 : Nat) : Int)) (.sl st.next 1 0 4 true)) (c := c) (n := 4) (sf := c 4) (by rw [c0]) (by simpa using q4) (fun i hi T hT => step i hi T hT) (fun T hT => f42_4_F (geqF (by omega)) hT)) fun T5 q5 => ?_
  rw [z0] at q5
  refine AW.atRet (f42_5_F (n1 := ((0 : Nat) : Int)) (by kernel_rfl) (own_nil _) a1 q5) fun T6 q6 => ?_
  refine ⟨[T6.get 6, T6.get 7], rfl, ?_⟩
  simp only [oneOrTup]
  rw [q6.2.1, q6.2.2]
  exact ⟨rfl, trivial⟩
theorem frameR_0 {st : St} {v : AV} (hv : BS st v []) : obC 8 [v] st (.tup [.nils, i64 1]) st := f8_T hv.len (eqlT rfl)
theorem frameR_long {st : St} {v : AV} {d : List Int} (hv : BS st v d) (h : 4096 < d.length) : obC 8 [v] st (.tup [.nils, i64 3]) st := f8_FT hv.len (eqlF (by omega)) hv.len (gtrT (by omega))
theorem frameR_ok {st : St} (hw : st.wf) (hl : st.lock = []) {v : AV} {xs : List Nat} (hv : BS st v (xs.map Int.ofNat)) (h256 : ∀ x ∈ xs, x < 256) (h1 : 1 ≤ xs.length) (h2 : xs.length ≤ 4096) :
    ∃ v' st', obC 8 [v] st (.tup [v', i64 0]) st' ∧ OwnB st' v' (frameL (xs.map Int.ofNat)) ∧ Rest st st' [] ∧ FreshB st v' := by
  have hlen := hv.len
  rw [List.length_map] at hlen
  obtain ⟨a, s1, c1, o1, r1, f1⟩ := numR_ok hw hl (n := xs.length) (by omega)
  have hc := crc_range (xs.map Int.ofNat)
  obtain ⟨m, hm⟩ := Int.eq_ofNat_of_zero_le hc.1
  have hs := sumR_ok (hv.rest r1) h256 (by omega)
  rw [hm] at hs hc
  obtain ⟨b, s2, c2, o2, r2, f2⟩ := numR_ok r1.wf (r1.lock.trans hl) (n := m) (by omega)
  have o1' : OwnB s2 a (be4 xs.length) := by
    rcases o1 with h | ⟨h, i, e, hg⟩ | ⟨h, i, e, hg⟩
    · exact .inl h
    · exact .inr (.inl ⟨h, i, e, r2.keep _ _ (by simp) hg⟩)
    · exact .inr (.inr ⟨h, i, e, r2.keep _ _ (by simp) hg⟩)
  have r12 := r1.trans r2
  obtain ⟨e, s3, a3, o3, r3, f3, _⟩ := app_ownR hw hl r12 o1' f1 o2.bs.cells (by simp [be4, big])
  have hx := (hv.rest r3).cells
  obtain ⟨g, s4, a4, o4, r4, f4, _⟩ := app_ownR hw hl r3 o3 f3 hx (by simp [be4, big]; omega)
  have hU : crcU (xs.map Int.ofNat) = (m : Int) := by rw [crcU_eq, hm]
  refine ⟨g, s4, f8_FF hlen (eqlF (by omega)) hlen (gtrF (by omega)) hlen (conv3_79 st _ (by omega)) c1 hs (conv80_79 s1 m (by omega)) c2 a3 a4, ?_, r4, f4⟩
  unfold frameL
  rw [hU, List.length_map]
  exact o4
end
section
set_option maxRecDepth 8000
/-! ### the plain law: a frame is read as the document reads it -/
def val4 (xs : List Nat) : Nat := (xs.take 4).foldl (fun n b => 256 * n + b) 0
theorem fold4 (a b c d : Nat) (ha : a < 256) (hb : b < 256) (hc : c < 256) (hd : d < 256) : foldN [(a : Int), (b : Int), (c : Int), (d : Int)] = (((256 * (256 * (256 * (256 * 0 + a) + b) + c) + d : Nat)) : Int) := by
  unfold foldN
  simp only [List.foldl_cons, List.foldl_nil]
  have e : ∀ (m b : Nat), m < 2 ^ 56 → b < 256 → orU (shlU (m : Int) 8) (IntKind.u64.wrap (b : Int)) = ((m * 256 + b : Nat) : Int) := orU_nat
  rw [show (0 : Int) = ((0 : Nat) : Int) from rfl, e 0 _ (by omega) (by omega), e _ _ (by omega) (by omega), e _ _ (by omega) (by omega), e _ _ (by omega) (by omega)]
  congr 1
  omega
theorem be4_val (a b c d : Nat) (ha : a < 256) (hb : b < 256) (hc : c < 256) (hd : d < 256) : be4 ((256 * (256 * (256 * (256 * 0 + a) + b) + c) + d : Nat) : Int) = [(a : Int), (b : Int), (c : Int), (d : Int)] := by
  generalize hn : 256 * (256 * (256 * (256 * 0 + a) + b) + c) + d = n
  have b24 := byteAt_div n 24 (by omega)
  have b16 := byteAt_div n 16 (by omega)
  have b8 := byteAt_div n 8 (by omega)
  have b0 := byteAt_div n 0 (by omega)
  unfold be4
  rw [show (24 : Int) = ((24 : Nat) : Int) from rfl, show (16 : Int) = ((16 : Nat) : Int) from rfl, show (byteAt (n : Int) 8) = byteAt (n : Int) ((8 : Nat) : Int) from rfl, show (0 : Int) = ((0 : Nat) : Int) from rfl, b24, b16, b8, b0]
  have e1 : n / 2 ^ 24 % 256 = a := by omega
  have e2 : n / 2 ^ 16 % 256 = b := by omega
  have e3 : n / 2 ^ 8 % 256 = c := by omega
  have e4 : n / 2 ^ 0 % 256 = d := by omega
  rw [e1, e2, e3, e4]
theorem parse_short {bs : List Int} (h : bs.length < 8) : parse1 bs = none := by
  unfold parse1
  by_cases h1 : bs.length < 4
  · rw [if_pos h1]
  rw [if_neg h1]
  split
  · rfl
  split
  · rfl
  rw [if_pos (by rw [List.length_drop]; omega)]
theorem parse_ref {xs : List Nat} (h256 : ∀ x ∈ xs, x < 256) (hl : 8 ≤ xs.length) :
    parse1 (xs.map Int.ofNat) = if val4 xs < 1 then none else if 4096 < val4 xs then none else if xs.length - 8 < val4 xs then none else
      if frameL (((xs.drop 8).take (val4 xs)).map Int.ofNat) = (xs.take (8 + val4 xs)).map Int.ofNat then some (((xs.drop 8).take (val4 xs)).map Int.ofNat, (xs.drop (8 + val4 xs)).map Int.ofNat) else none := by
  match xs, hl, h256 with
  | a :: b :: c :: d :: e :: f :: g :: h :: r, _, h256 =>
    have ha := h256 a (by simp)
    have hb := h256 b (by simp)
    have hc := h256 c (by simp)
    have hd := h256 d (by simp)
    have he := h256 e (by simp)
    have hf := h256 f (by simp)
    have hg := h256 g (by simp)
    have hh := h256 h (by simp)
    have hv : val4 (a :: b :: c :: d :: e :: f :: g :: h :: r) = 256 * (256 * (256 * (256 * 0 + a) + b) + c) + d := rfl
    have bv := be4_val a b c d ha hb hc hd
    have n1 : num4 ((a :: b :: c :: d :: e :: f :: g :: h :: r).map Int.ofNat) = _ := fold4 a b c d ha hb hc hd
    have n2 : num4 (((a :: b :: c :: d :: e :: f :: g :: h :: r).map Int.ofNat).drop 4) = _ := fold4 e f g h he hf hg hh
    have sv := be4_val e f g h he hf hg hh
    rw [← hv] at n1 bv
    generalize val4 (a :: b :: c :: d :: e :: f :: g :: h :: r) = n at n1 bv hv
    have d8 : ((a :: b :: c :: d :: e :: f :: g :: h :: r).map Int.ofNat).drop 8 = r.map Int.ofNat := rfl
    have x8 : (a :: b :: c :: d :: e :: f :: g :: h :: r).drop 8 = r := rfl
    have ln : (a :: b :: c :: d :: e :: f :: g :: h :: r).length = r.length + 8 := rfl
    unfold parse1
    rw [if_neg (by rw [List.length_map, ln]; omega), n1, n2, d8, x8, ln]
    by_cases h1 : n < 1
    · rw [if_pos (by omega), if_pos h1]
    rw [if_neg (by omega), if_neg h1]
    by_cases h2 : 4096 < n
    · rw [if_pos (by omega), if_pos h2]
    rw [if_neg (by omega), if_neg h2, if_neg (by rw [List.length_drop, List.length_map, ln]; omega), Int.toNat_natCast, List.length_map]
    by_cases h3 : r.length < n
    · rw [if_pos h3, if_pos (show r.length + 8 - 8 < n by omega)]
    rw [if_neg h3, if_neg (show ¬ r.length + 8 - 8 < n by omega), ← List.map_take, ← List.map_drop]
    have hlen : ((r.take n).map Int.ofNat).length = n := by rw [List.length_map, List.length_take]; omega
    have hk : (a :: b :: c :: d :: e :: f :: g :: h :: r).take (8 + n) = a :: b :: c :: d :: e :: f :: g :: h :: r.take n := by rw [Nat.add_comm]; rfl
    have hk2 : (a :: b :: c :: d :: e :: f :: g :: h :: r).drop (8 + n) = r.drop n := by rw [Nat.add_comm]; rfl
    rw [hk, hk2]
    have hcr := crc_range ((r.take n).map Int.ofNat)
    rw [← crcU_eq] at hcr
    have hfr : frameL ((r.take n).map Int.ofNat) = (a :: b :: c :: d :: e :: f :: g :: h :: r.take n).map Int.ofNat ↔ crcU ((r.take n).map Int.ofNat) = ((256 * (256 * (256 * (256 * 0 + e) + f) + g) + h : Nat) : Int) := by
      unfold frameL
      rw [hlen, bv]
      constructor
      · intro q
        have q2 : be4 (crcU ((r.take n).map Int.ofNat)) = [(e : Int), (f : Int), (g : Int), (h : Int)] := by
          have := congrArg (fun l => (l.drop 4).take 4) q
          exact this
        have q3 := congrArg foldN q2
        obtain ⟨m, hm⟩ := Int.eq_ofNat_of_zero_le hcr.1
        rw [hm] at q3 hcr
        rw [foldN_be4 m (by omega), fold4 e f g h he hf hg hh] at q3
        rw [hm, q3]
      · intro q
        rw [q, sv]
        rfl
    by_cases h4 : crcU ((r.take n).map Int.ofNat) = ((256 * (256 * (256 * (256 * 0 + e) + f) + g) + h : Nat) : Int)
    · rw [if_neg (fun x => x h4), if_pos (hfr.2 h4)]
    · rw [if_pos h4, if_neg (fun x => h4 (hfr.1 x))]
end
section
set_option maxRecDepth 8000
/-! ### lists of rows of one's own -/
def vsOf (f : Bool) (js : List Nat) (R : List (List Int)) : List AV := List.zipWith (fun j d => AV.sl j 1 0 d.length f) js R
structure LO (st : St) (f : Bool) (l : AV) (js : List Nat) (R : List (List Int)) : Prop where
  len : js.length = R.length
  row : (R = [] ∧ l = .nils) ∨ (R ≠ [] ∧ ∃ id, l = .sl id 1 0 R.length false ∧ st.get id = some (.row (vsOf f js R) 22))
  each : ∀ (k j : Nat) (d : List Int), js[k]? = some j → R[k]? = some d → st.get j = some (.row (d.map u8) 5)
  nodup : js.Nodup
def FreshL (n0 : Nat) (l : AV) (js : List Nat) : Prop := (∀ j ∈ js, n0 ≤ j) ∧ ∀ i sz o k f, l = .sl i sz o k f → n0 ≤ i
theorem vsOf_len {f : Bool} {js : List Nat} {R : List (List Int)} (h : js.length = R.length) : (vsOf f js R).length = R.length := by
  unfold vsOf; rw [List.length_zipWith, h, Nat.min_self]
theorem vsOf_app {f : Bool} {js : List Nat} {R : List (List Int)} (h : js.length = R.length) (j : Nat) (d : List Int) : vsOf f (js ++ [j]) (R ++ [d]) = vsOf f js R ++ [.sl j 1 0 d.length f] := by
  unfold vsOf; rw [List.zipWith_append h]; rfl
theorem LO.nil (st : St) (f : Bool) : LO st f .nils [] [] := ⟨rfl, .inl ⟨rfl, rfl⟩, fun k j d h => by simp at h, List.nodup_nil⟩
theorem LO.rest {st st' : St} {f : Bool} {l : AV} {js : List Nat} {R : List (List Int)} (h : LO st f l js R) (hr : Rest st st' []) : LO st' f l js R := by
  refine ⟨h.len, ?_, fun k j d hj hd => hr.keep _ _ (by simp) (h.each k j d hj hd), h.nodup⟩
  rcases h.row with h1 | ⟨h1, id, h2, h3⟩
  · exact .inl h1
  · exact .inr ⟨h1, id, h2, hr.keep _ _ (by simp) h3⟩
theorem LO.app {st0 st : St} {f : Bool} {l : AV} {js : List Nat} {R : List (List Int)} (h : LO st f l js R) (hr : Rest st0 st []) (hw0 : st0.wf) (hl : st0.lock = []) (hf : FreshL st0.next l js) {j : Nat} {d : List Int} (hj : st.get j = some (.row (d.map u8) 5)) (hjn : st0.next ≤ j) (hnj : j ∉ js) (hb : R.length + 1 ≤ 1000000) :
    ∃ st', appendA E0 (st.push (.row [.sl j 1 0 d.length f] 22)) 32 32 l (.sl st.next 1 0 1 true) = some (.sl (st.next + 1) 1 0 (R.length + 1) false, st') ∧ LO st' f (.sl (st.next + 1) 1 0 (R.length + 1) false) (js ++ [j]) (R ++ [d]) ∧ Rest st0 st' [] ∧ FreshL st0.next (.sl (st.next + 1) 1 0 (R.length + 1) false) (js ++ [j]) ∧ ∀ i vs ty, st.get i = some (.row vs ty) → ty ≠ 22 → st'.get i = some (.row vs ty) := by
  have hw := hr.wf
  have hlk : st.lock = [] := hr.lock.trans hl
  have hx : sliceCells (st.push (.row [.sl j 1 0 d.length f] 22)) (.sl st.next 1 0 1 true) = some (1, [.sl j 1 0 d.length f]) := by
    rw [cells_sl (by rw [St.get_push, if_pos rfl]) (by simp)]
    rfl
  have hnx := hr.next
  have hfr : FreshL st0.next (.sl (st.next + 1) 1 0 (R.length + 1) false) (js ++ [j]) := ⟨fun k hk => by
    rcases List.mem_append.1 hk with hk | hk
    · exact hf.1 k hk
    · rw [List.mem_singleton.1 hk]; exact hjn, fun i sz o k g e => by cases e; omega⟩
  have hnd : (js ++ [j]).Nodup := List.nodup_append.2 ⟨h.nodup, by simp, fun a ha b hb' e => by
    rw [List.mem_singleton.1 hb'] at e; subst e; exact hnj ha⟩
  have fin : ∀ st' : St, st'.get (st.next + 1) = some (.row (vsOf f js R ++ [.sl j 1 0 d.length f]) 22) → (∀ i o, st.get i = some o → (∀ k g, l ≠ .sl i 1 0 k g) → st'.get i = some o) → st'.next = st.next + 2 → st'.lock = [] → st'.gl = st.gl → st'.wf →
      LO st' f (.sl (st.next + 1) 1 0 (R.length + 1) false) (js ++ [j]) (R ++ [d]) ∧ Rest st0 st' [] ∧ FreshL st0.next (.sl (st.next + 1) 1 0 (R.length + 1) false) (js ++ [j]) ∧ ∀ i vs ty, st.get i = some (.row vs ty) → ty ≠ 22 → st'.get i = some (.row vs ty) := fun st' hg hk hn hlk' hgl' hw' => by
    have h5' : ∀ i vs ty, st.get i = some (.row vs ty) → ty ≠ 22 → ∀ k g, l ≠ .sl i 1 0 k g := fun i vs ty hi hty k g e => by
      rcases h.row with ⟨_, e2⟩ | ⟨_, id, e2, e3⟩
      · rw [e2] at e; cases e
      · rw [e2] at e; cases e
        rw [hi] at e3
        simp only [Option.some.injEq, AObj.row.injEq] at e3
        exact hty e3.2
    have h5 : ∀ i vs, st.get i = some (.row vs 5) → ∀ k g, l ≠ .sl i 1 0 k g := fun i vs hi => h5' i vs 5 hi (by decide)
    refine ⟨⟨by simp [h.len], .inr ⟨by simp, st.next + 1, by simp, ?_⟩, fun k j' d' h1 h2 => ?_, hnd⟩, ⟨fun i o hi ho => hk i o (hr.keep i o hi ho) fun k g e => ?_, by omega, hlk'.trans hl.symm, hgl'.trans hr.gl, hw'⟩, hfr, fun i vs ty hi hty => hk i _ hi (h5' i vs ty hi hty)⟩
    · rw [hg, vsOf_app h.len]
    · by_cases hlt : k < js.length
      · rw [List.getElem?_append_left hlt] at h1
        rw [List.getElem?_append_left (by rw [← h.len]; exact hlt)] at h2
        have := h.each k j' d' h1 h2
        exact hk _ _ this (h5 _ _ this)
      · have e1 : k = js.length := by
          have := (List.getElem?_eq_some_iff.1 h1).1
          simp at this; omega
        subst e1
        rw [List.getElem?_append_right (Nat.le_refl _), Nat.sub_self] at h1
        rw [h.len, List.getElem?_append_right (Nat.le_refl _), Nat.sub_self] at h2
        simp only [List.getElem?_cons_zero, Option.some.injEq] at h1 h2
        subst h1; subst h2
        exact hk _ _ hj (h5 _ _ hj)
    · have := hf.2 _ _ _ _ _ e
      have := hw0 _ _ ho
      omega
  rcases h.row with ⟨hR, hl'⟩ | ⟨hne, id, hl', hg⟩
  · subst hl'
    have hv0 : vsOf f js R = [] := by subst hR; unfold vsOf; simp
    have hR0 : R.length = 0 := by rw [hR]; rfl
    refine ⟨(st.push (.row [.sl j 1 0 d.length f] 22)).push (.row [.sl j 1 0 d.length f] 22), ?_, fin _ ?_ ?_ ?_ ?_ ?_ ?_⟩
    · rw [lapp_nil hx rfl (by omega) (by omega), hR0]; rfl
    · rw [hv0, St.get_push, if_pos (by simp)]; rfl
    · intro i o ho _
      have := hw _ _ ho
      rw [St.get_push, if_neg (by rw [St.next_push]; omega), St.get_push, if_neg (by omega)]; exact ho
    · rfl
    · simpa using hlk
    · rfl
    · exact push_wf (push_wf hw _) _
  · subst hl'
    have hid := hw _ _ hg
    have hg' : (st.push (.row [.sl j 1 0 d.length f] 22)).get id = some (.row (vsOf f js R) 22) := by rw [St.get_push, if_neg (by omega)]; exact hg
    refine ⟨_, lapp_row hg' (by simpa using hlk) (vsOf_len h.len).symm hx rfl (by omega) hb, fin _ ?_ ?_ ?_ ?_ ?_ ?_⟩
    · rw [St.get_push, if_pos (by simp)]
    · intro i o ho hne'
      have := hw _ _ ho
      rw [St.get_push, if_neg (by rw [St.next_del, St.next_push]; omega), St.get_del, if_neg (fun e => hne' _ _ (by rw [e])), St.get_push, if_neg (by omega)]; exact ho
    · rfl
    · simpa using hlk
    · rfl
    · exact push_wf (del_wf (push_wf hw _) _) _
end
section
set_option maxRecDepth 8000
/-! ### slices of bytes; strings of bytes; loops that end with a return -/
theorem bounds_mid {len lo hi : Nat} (h1 : lo ≤ hi) (h2 : hi ≤ len) : boundsA len len (some (i64 lo)) (some (i64 hi)) none = some (lo, hi, len) := by
  have e1 : natLe (i64 hi) len = some hi := by
    show (if 0 ≤ (hi : Int) ∧ (hi : Int) ≤ len then some (hi : Int).toNat else none) = some hi
    rw [if_pos ⟨by omega, by omega⟩]; rfl
  have e2 : natLe (i64 lo) hi = some lo := by
    show (if 0 ≤ (lo : Int) ∧ (lo : Int) ≤ hi then some (lo : Int).toNat else none) = some lo
    rw [if_pos ⟨by omega, by omega⟩]; rfl
  delta boundsA
  simp only [e1, e2]
theorem BS.slice {st : St} {v : AV} {bs : List Int} (h : BS st v bs) {lo hi : Nat} (h1 : lo ≤ hi) (h2 : hi ≤ bs.length) : ∃ w, sliceA E0 st 22 v (some (i64 lo)) (some (i64 hi)) none = some w ∧ BS st w ((bs.drop lo).take (hi - lo)) := by
  have sz5 : tySize E0 5 = some 1 := by kernel_rfl
  have hln : ((bs.drop lo).take (hi - lo)).length = hi - lo := by rw [List.length_take, List.length_drop]; omega
  rcases h with ⟨rfl, rfl⟩ | ⟨fl, rfl⟩ | ⟨id, off, f, vs, rfl, hg, h3, h4⟩
  · have e1 : lo = 0 := by simp at h2; omega
    have e2 : hi = 0 := by simpa using h2
    subst e1; subst e2
    exact ⟨.nils, by kernel_rfl, .inl ⟨rfl, by simp⟩⟩
  · simp only [sliceA, ty28, sz5, if_true, bounds_mid h1 h2]
    exact ⟨_, rfl, .inr (.inl ⟨_, by rw [hln, Nat.mul_one, Nat.mul_one, List.map_take, List.map_drop]⟩)⟩
  · simp only [sliceA, ty28, sz5, if_true, bounds_mid h1 h2]
    by_cases he : hi = lo
    · rw [if_pos he]
      have e0 : (bs.drop lo).take (hi - lo) = [] := by rw [he, Nat.sub_self]; rfl
      exact ⟨_, rfl, .inr (.inl ⟨false, by rw [e0]; rfl⟩)⟩
    · rw [if_neg he]
      refine ⟨_, rfl, .inr (.inr ⟨id, off + lo, _, vs, by rw [hln, Nat.mul_one], hg, ?_, by rw [hln]; omega⟩)⟩
      rw [hln]
      have h5 := congrArg (fun l => (l.drop lo).take (hi - lo)) h3
      simp only [List.drop_take, List.drop_drop, List.take_take] at h5
      rw [Nat.min_eq_left (by omega)] at h5
      rw [h5, List.map_take, List.map_drop]
theorem BS.str {st : St} {v : AV} {bs : List Int} (h : BS st v bs) : bytesStrA E0 st 22 9 v = some (str (strOfNums bs)) := by
  have h := h.cells
  obtain ⟨i, j, k, h1, h2, h3, h4, h5, h6⟩ : ∃ i j k, E0.ty 22 = some i ∧ E0.ty 9 = some j ∧ E0.ty 5 = some k ∧ i.desc = .slice 5 ∧ j.desc = .string ∧ k.desc = .int .u8 := ⟨_, _, _, rfl, rfl, rfl, by kernel_rfl, by kernel_rfl, by kernel_rfl⟩
  simp only [bytesStrA, h, h1, h2, h4, h5, h3, h6, numsA_u8, if_true]
theorem u8_back {x : Int} (h : 0 ≤ x ∧ x < 256) : ((UInt8.ofNat x.toNat).toNat : Int) = x := by
  have : (UInt8.ofNat x.toNat).toNat = x.toNat % 256 := rfl
  rw [this]; omega
theorem u8s_back {l : List Int} (h : ∀ x ∈ l, 0 ≤ x ∧ x < 256) : (l.map fun n => UInt8.ofNat n.toNat).map (fun b => (b.toNat : Int)) = l := by
  rw [List.map_map]
  conv => rhs; rw [← List.map_id l]
  exact List.map_congr_left fun x hx => u8_back (h x hx)
theorem strOf_inj {l m : List Int} (hl : ∀ x ∈ l, 0 ≤ x ∧ x < 256) (hm : ∀ x ∈ m, 0 ≤ x ∧ x < 256) (h : strOfNums l = strOfNums m) : l = m := by
  have h1 : (l.map fun n => UInt8.ofNat n.toNat) = m.map fun n => UInt8.ofNat n.toNat := by
    have := congrArg (fun s : ByteArray => s.data.toList) h
    simpa [strOfNums] using this
  rw [← u8s_back hl, ← u8s_back hm, h1]
theorem byteAt_range (n c : Int) : 0 ≤ byteAt n c ∧ byteAt n c < 256 := by
  unfold byteAt
  rw [IntKind.wrap_u8]
  omega
theorem frameL_range {d : List Int} (h : ∀ x ∈ d, 0 ≤ x ∧ x < 256) : ∀ x ∈ frameL d, 0 ≤ x ∧ x < 256 := by
  intro x hx
  unfold frameL be4 at hx
  simp only [List.mem_append, List.mem_cons, List.not_mem_nil, or_false] at hx
  rcases hx with (((rfl | rfl | rfl | rfl)) | (rfl | rfl | rfl | rfl)) | hx
  all_goals first | exact byteAt_range _ _ | exact h x hx
theorem nat_range {xs : List Nat} (h : ∀ x ∈ xs, x < 256) : ∀ x ∈ xs.map Int.ofNat, 0 ≤ x ∧ x < 256 := by
  intro x hx
  obtain ⟨y, hy, rfl⟩ := List.mem_map.1 hx
  have := h y hy
  exact ⟨Int.natCast_nonneg _, by show (y : Int) < 256; omega⟩
theorem AW.blockR {P : Program} {c : Code} {id : Nat} {L : Tm → Prop} {T : Tm} {st s : St} (h : AW P c (fun ex T' st' => ex = .ret ∧ L T' ∧ st' = s) T st) : AW P (.block id c) (fun ex T' st' => ex = .ret ∧ L T' ∧ st' = s) T st :=
  .block (h.mono fun ex T' st' ⟨h1, h2, h3⟩ => by subst h1; exact ⟨rfl, h2, h3⟩)
theorem AW.exitThen {P : Program} {a b : Code} {id : Nat} {Q : Exit → Tm → St → Prop} {L : Tm → Prop} {T : Tm} {st s : St} (h : AW P a (fun ex T' st' => ex = .exit id ∧ L T' ∧ st' = s) T st) (k : ∀ T', L T' → Q (.exit id) T' s) : AW P (.seq a b) Q T st :=
  .seq (h.mono fun ex T' st' ⟨h1, h2, h3⟩ => by
    subst h1; subst h3
    exact k T' h2)
theorem AW.turnsRet {P : Program} {body : Code} {id : Nat} {In : Nat → Tm → Prop} {L : Tm → Prop} {c : Nat → St} {n : Nat} {T : Tm} {st sf : St} (h0 : st = c 0) (hT : In 0 T)
    (turn : ∀ i, i < n → ∀ T, In i T → AW P body (fun ex T' st' => ex = .normal ∧ In (i + 1) T' ∧ st' = c (i + 1)) T (c i))
    (fin : ∀ T, In n T → AW P body (fun ex T' st' => ex = .ret ∧ L T' ∧ st' = sf) T (c n)) :
    AW P (.block id (.loop body)) (fun ex T' st' => ex = .ret ∧ L T' ∧ st' = sf) T st := by
  subst h0
  refine .block ((AW.loop (fun m T st' => ∃ i : Nat, i ≤ n ∧ m = n - i ∧ st' = c i ∧ In i T) (Q := fun ex T' st' => ex = .ret ∧ L T' ∧ st' = sf) n ⟨0, by omega, rfl, rfl, hT⟩ fun m T st' hI => ?_).mono fun ex T' st' ⟨h1, h2, h3⟩ => ?_)
  · obtain ⟨i, hi, rfl, rfl, hin⟩ := hI
    by_cases hlt : i < n
    · refine (turn i hlt T hin).mono fun ex T' st2 ⟨he, hin', hst⟩ => ?_
      subst he
      exact ⟨n - (i + 1), by omega, i + 1, by omega, rfl, hst, hin'⟩
    · obtain rfl : i = n := by omega
      refine (fin T hin).mono fun ex T' st2 ⟨he, hL, hst⟩ => ?_
      subst he
      exact ⟨rfl, hL, hst⟩
  · subst h1
    exact ⟨rfl, h2, h3⟩
/-- a chain of turns that ends, because a number falls -/
theorem chain_wf {α : Type} (I : α → St → Prop) (μ : α → Nat) (Step : α → St → α → St → Prop) (End : α → St → Prop) (h : ∀ a s, I a s → End a s ∨ ∃ a' s', I a' s' ∧ μ a' < μ a ∧ Step a s a' s') : ∀ (k : Nat) (a : α) (s : St), μ a ≤ k → I a s →
    ∃ (n : Nat) (c : Nat → α) (σ : Nat → St), c 0 = a ∧ σ 0 = s ∧ (∀ i, i < n → Step (c i) (σ i) (c (i + 1)) (σ (i + 1))) ∧ End (c n) (σ n) := by
  intro k
  induction k with
  | zero =>
    intro a s hm hI
    rcases h a s hI with he | ⟨a', s', _, hlt, _⟩
    · exact ⟨0, fun _ => a, fun _ => s, rfl, rfl, fun i hi => by omega, he⟩
    · omega
  | succ k ih =>
    intro a s hm hI
    rcases h a s hI with he | ⟨a', s', hI', hlt, hs⟩
    · exact ⟨0, fun _ => a, fun _ => s, rfl, rfl, fun i hi => by omega, he⟩
    · obtain ⟨n, c, σ, c0, s0, ht, he⟩ := ih a' s' (by omega) hI'
      refine ⟨n + 1, fun i => match i with | 0 => a | i + 1 => c i, fun i => match i with | 0 => s | i + 1 => σ i, rfl, rfl, fun i hi => ?_, he⟩
      match i, hi with
      | 0, _ => simp only; rw [c0, s0]; exact hs
      | i + 1, hi => exact ht i (by omega)
end
section
set_option maxRecDepth 8000
/-! ### the document's Split -/
noncomputable def f10B : Code := .seq (f10P 3) (.block 1 (.seq (f10P 4) (.seq (.seq (f10P 5) (.block 2 (.loop (f10P 6)))) (f10P 7))))
def gf (ys : List Nat) (i : Nat) : Nat := (ys.take i).foldl (fun n b => 256 * n + b) 0
theorem gf_step {ys : List Nat} (h256 : ∀ x ∈ ys, x < 256) (hl : 4 ≤ ys.length) {i : Nat} (hi : i < 4) : ∃ x, ys[i]? = some x ∧ x < 256 ∧ gf ys (i + 1) = 256 * gf ys i + x ∧ gf ys i < 2 ^ 24 := by
  match ys, hl, h256 with
  | a :: b :: c :: d :: r, _, h256 =>
    have ha := h256 a (by simp)
    have hb := h256 b (by simp)
    have hc := h256 c (by simp)
    have hd := h256 d (by simp)
    have e0 : gf (a :: b :: c :: d :: r) 0 = 0 := rfl
    have e1 : gf (a :: b :: c :: d :: r) 1 = 256 * 0 + a := rfl
    have e2 : gf (a :: b :: c :: d :: r) 2 = 256 * (256 * 0 + a) + b := rfl
    have e3 : gf (a :: b :: c :: d :: r) 3 = 256 * (256 * (256 * 0 + a) + b) + c := rfl
    match i, hi with
    | 0, _ => exact ⟨a, rfl, ha, rfl, by rw [e0]; omega⟩
    | 1, _ => exact ⟨b, rfl, hb, rfl, by rw [e1]; omega⟩
    | 2, _ => exact ⟨c, rfl, hc, rfl, by rw [e2]; omega⟩
    | 3, _ => exact ⟨d, rfl, hd, rfl, by rw [e3]; omega⟩
theorem inner4 {st : St} {v l : AV} {xs : List Nat} (hv : BS st v (xs.map Int.ofNat)) (h256 : ∀ x ∈ xs, x < 256) (hA : xs.length ≤ 2000000) {k : Nat} (hk : k + 8 ≤ xs.length) {X : Code} {Q : Exit → Tm → St → Prop} (next : ∀ T', f10L4 T' v l (i64 k) (i64 (val4 (xs.drop k) : Nat)) → AW Tryz.prog X Q T' st) :
    ∀ T, f10L2 T v l (i64 k) → AW Tryz.prog (.seq (f10P 4) (.seq (.seq (f10P 5) (.block 2 (.loop (f10P 6)))) X)) Q T st := by
  intro T hT
  have hd : ∀ x ∈ xs.drop k, x < 256 := fun x hx => h256 x (List.mem_of_mem_drop hx)
  refine AW.andThen (f10_4 hT) fun T1 q1 => ?_
  refine AW.andThen (AW.andThen (f10_5 q1) fun T2 q2 => AW.turns (In := fun i T => f10L5 T v l (i64 k) (i64 (gf (xs.drop k) i : Nat)) (i64 i)) (L := fun T => f10L4 T v l (i64 k) (i64 (gf (xs.drop k) 4 : Nat))) (c := fun _ => st) (n := 4) (sf := st) rfl q2 (fun i hi T hT => ?_) (fun T hT => f10_6_F (lssF (by omega)) hT)) fun T3 q3 => next T3 q3
  obtain ⟨x, hx, hx256, hs, hb⟩ := gf_step hd (by rw [List.length_drop]; omega) hi
  rw [List.getElem?_drop] at hx
  obtain ⟨q, i1, i2⟩ := hv.at (i := k + i) (x := Int.ofNat x) (by rw [List.getElem?_map, hx]; rfl)
  rw [hs]
  exact f10_6_T (lssT (by omega)) (mulN 256 _ (by omega)) (addN' k i (by omega)) i1 i2 (conv5_3 st x (by omega)) (addN' (256 * gf (xs.drop k) i) x (by omega)) (addN' i 1 (by omega)) hT
theorem build32 (st : St) (j k : Nat) (f : Bool) : buildSliceA E0 st 32 1 [(0, .sl j 1 0 k f)] = some (.sl st.next 1 0 1 true, st.push (.row [.sl j 1 0 k f] 22)) := by kernel_rfl
def RSpl (xs : List Nat) (st0 : St) (a : Nat × AV) (s : St) : Prop := ∃ js R, LO s false a.2 js R ∧ Rest st0 s [] ∧ FreshL st0.next a.2 js ∧ a.1 ≤ xs.length ∧ 9 * R.length ≤ a.1 ∧ R ++ splitN ((xs.drop a.1).map Int.ofNat).length ((xs.drop a.1).map Int.ofNat) = splitN (xs.map Int.ofNat).length (xs.map Int.ofNat)
def REnd (xs : List Nat) (st0 : St) (v : AV) (a : Nat × AV) (s : St) : Prop := ∃ sf js, LO sf false a.2 js (splitN (xs.map Int.ofNat).length (xs.map Int.ofNat)) ∧ Rest st0 sf [] ∧ FreshL st0.next a.2 js ∧
  ((∀ T, f10L2 T v a.2 (i64 a.1) → AW Tryz.prog f10B (fun ex T' st' => ex = .exit 0 ∧ f10L3 T' a.2 ∧ st' = sf) T s) ∨ (∀ T, f10L2 T v a.2 (i64 a.1) → AW Tryz.prog f10B (fun ex T' st' => ex = .ret ∧ f10L6 T' a.2 ∧ st' = sf) T s))
def RStep (v : AV) (a : Nat × AV) (s : St) (a' : Nat × AV) (s' : St) : Prop := ∀ T, f10L2 T v a.2 (i64 a.1) → AW Tryz.prog f10B (fun ex T' st' => ex = .normal ∧ f10L2 T' v a'.2 (i64 a'.1) ∧ st' = s') T s
theorem rspl {st0 : St} (hw0 : st0.wf) (hl0 : st0.lock = []) {v : AV} {xs : List Nat} (hv0 : BS st0 v (xs.map Int.ofNat)) (h256 : ∀ x ∈ xs, x < 256) (hA : xs.length ≤ 2000000) (a : Nat × AV) (s : St) (h : RSpl xs st0 a s) :
    REnd xs st0 v a s ∨ ∃ a' s', RSpl xs st0 a' s' ∧ xs.length - a'.1 < xs.length - a.1 ∧ RStep v a s a' s' := by
  obtain ⟨k, l⟩ := a
  obtain ⟨js, R, hL, hr, hf, hk, hR9, hlaw⟩ := h
  simp only at hL hf hk hR9 hlaw
  have hv := hv0.rest hr
  have hlen := hv.len
  rw [List.length_map] at hlen
  have hs1 : binA E0 .sub 3 (i64 (xs.length : Nat)) (i64 (k : Nat)) = some (i64 ((xs.length - k : Nat) : Int)) := by
    rw [show ((xs.length - k : Nat) : Int) = (xs.length : Int) - (k : Int) by omega]; exact sub64 (by omega)
  have hdl : (xs.drop k).length = xs.length - k := List.length_drop
  have stop : ∀ sf : St, LO sf false l js R → Rest st0 sf [] → parse1 ((xs.drop k).map Int.ofNat) = none → LO sf false l js (splitN (xs.map Int.ofNat).length (xs.map Int.ofNat)) := fun sf h1 _ hp => by
    rw [split_none hp, List.append_nil] at hlaw
    rw [← hlaw]; exact h1
  by_cases h8 : xs.length - k < 8
  · have hp : parse1 ((xs.drop k).map Int.ofNat) = none := parse_short (by rw [List.length_map, hdl]; exact h8)
    refine .inl ⟨s, js, stop s hL hr hp, hr, hf, .inl fun T hT => ?_⟩
    exact AW.exitThen (f10_3_F hlen hs1 (geqF (by omega)) hT) fun T' q => ⟨rfl, q, rfl⟩
  have hd : ∀ x ∈ xs.drop k, x < 256 := fun x hx => h256 x (List.mem_of_mem_drop hx)
  have hpr := parse_ref hd (by omega)
  rw [hdl] at hpr
  have hin : ∀ {Q : Exit → Tm → St → Prop}, (∀ T', f10L4 T' v l (i64 k) (i64 (val4 (xs.drop k) : Nat)) → AW Tryz.prog (f10P 7) Q T' s) → ∀ T, f10L2 T v l (i64 k) → AW Tryz.prog (.seq (f10P 4) (.seq (.seq (f10P 5) (.block 2 (.loop (f10P 6)))) (f10P 7))) Q T s := fun nx => inner4 hv h256 hA (by omega) nx
  have go : ∀ {Q : Exit → Tm → St → Prop}, (∀ T, f10L2 T v l (i64 k) → AW Tryz.prog (.block 1 (.seq (f10P 4) (.seq (.seq (f10P 5) (.block 2 (.loop (f10P 6)))) (f10P 7)))) Q T s) → ∀ T, f10L2 T v l (i64 k) → AW Tryz.prog f10B Q T s := fun nx T hT => AW.andThen (f10_3_T hlen hs1 (geqT (by omega)) hT) fun T' q => nx T' q
  generalize val4 (xs.drop k) = n at hpr hin
  by_cases h1 : n < 1
  · rw [if_pos h1] at hpr
    exact .inl ⟨s, js, stop s hL hr hpr, hr, hf, .inr (go fun T hT => AW.blockR (hin (fun T' q => f10_7_T (lssT (by omega)) q) T hT))⟩
  rw [if_neg h1] at hpr
  by_cases h2 : 4096 < n
  · rw [if_pos h2] at hpr
    exact .inl ⟨s, js, stop s hL hr hpr, hr, hf, .inr (go fun T hT => AW.blockR (hin (fun T' q => f10_7_FT (lssF (by omega)) (gtrT (by omega)) q) T hT))⟩
  rw [if_neg h2] at hpr
  have hs2 : binA E0 .sub 3 (i64 ((xs.length - k : Nat) : Int)) (i64 8) = some (i64 ((xs.length - k - 8 : Nat) : Int)) := by
    rw [show ((xs.length - k - 8 : Nat) : Int) = ((xs.length - k : Nat) : Int) - 8 by omega]; exact sub64 (by omega)
  by_cases h3 : xs.length - k - 8 < n
  · rw [if_pos h3] at hpr
    exact .inl ⟨s, js, stop s hL hr hpr, hr, hf, .inr (go fun T hT => AW.blockR (hin (fun T' q => f10_7_FFT (lssF (by omega)) (gtrF (by omega)) hlen hs1 hs2 (gtrT (by omega)) q) T hT))⟩
  rw [if_neg h3] at hpr
  have a8 : binA E0 .add 3 (i64 (k : Nat)) (i64 8) = some (i64 ((k + 8 : Nat) : Int)) := addN' k 8 (by omega)
  have an : binA E0 .add 3 (i64 ((k + 8 : Nat) : Int)) (i64 (n : Nat)) = some (i64 ((k + 8 + n : Nat) : Int)) := addN' (k + 8) n (by omega)
  obtain ⟨w, w1, w2⟩ := hv.slice (lo := k + 8) (hi := k + 8 + n) (by omega) (by rw [List.length_map]; omega)
  have hD : ((xs.map Int.ofNat).drop (k + 8)).take (k + 8 + n - (k + 8)) = (((xs.drop k).drop 8).take n).map Int.ofNat := by
    rw [List.drop_drop, List.map_take, List.map_drop, Nat.add_sub_cancel_left]
  rw [hD] at w2
  have hY : ((xs.map Int.ofNat).drop k).take (k + 8 + n - k) = ((xs.drop k).take (8 + n)).map Int.ofNat := by
    rw [List.map_take, List.map_drop]; congr 1; omega
  have hDl : (((xs.drop k).drop 8).take n).length = n := by rw [List.length_take, List.length_drop, hdl]; omega
  have hD256 : ∀ x ∈ ((xs.drop k).drop 8).take n, x < 256 := fun x hx => hd x (List.mem_of_mem_drop (List.mem_of_mem_take hx))
  have hY256 : ∀ x ∈ (xs.drop k).take (8 + n), x < 256 := fun x hx => hd x (List.mem_of_mem_take hx)
  generalize ((xs.drop k).drop 8).take n = D at hD w2 hpr hDl hD256
  have wc := w2.cells
  rw [List.length_map, hDl] at wc
  have ap := app_nil wc (by rw [List.length_map, List.length_map, hDl]) (by omega) (by unfold big; omega)
  have hw := hr.wf
  have rp : Rest s (s.push (.row ((D.map Int.ofNat).map u8) 5)) [] := Rest.push hw _ _
  have gj : (s.push (.row ((D.map Int.ofNat).map u8) 5)).get s.next = some (.row ((D.map Int.ofNat).map u8) 5) := by rw [St.get_push, if_pos rfl]
  have bj : BS (s.push (.row ((D.map Int.ofNat).map u8) 5)) (.sl s.next 1 0 n false) (D.map Int.ofNat) := by
    refine .inr (.inr ⟨s.next, 0, false, _, by rw [List.length_map, hDl], gj, ?_, by simp⟩)
    rw [List.drop_zero, List.take_of_length_le (by simp)]
  obtain ⟨fr, s2, c1, o1, r1, f1⟩ := frameR_ok rp.wf (rp.lock.trans (hr.lock.trans hl0)) bj hD256 (by omega) (by omega)
  have r2 := (hr.trans rp).trans r1
  have gj2 := r1.keep _ _ (by simp) gj
  obtain ⟨y, y1, y2⟩ := (hv0.rest r2).slice (lo := k) (hi := k + 8 + n) (by omega) (by rw [List.length_map]; omega)
  rw [hY] at y2
  have hLo := (hL.rest rp).rest r1
  by_cases h4 : frameL (D.map Int.ofNat) = ((xs.drop k).take (8 + n)).map Int.ofNat
  · rw [if_pos h4] at hpr
    have hjs : s.next ∉ js := fun hm => by
      obtain ⟨i, hi, e⟩ := List.getElem_of_mem hm
      have hi2 : i < R.length := by rw [← hL.len]; exact hi
      have := hL.each i s.next R[i] (by rw [List.getElem?_eq_getElem hi, e]) (List.getElem?_eq_getElem hi2)
      have := hw _ _ this
      omega
    obtain ⟨s4, p1, p2, p3, p4, _⟩ := hLo.app (d := D.map Int.ofNat) r2 hw0 hl0 hf gj2 hr.next hjs (by omega)
    rw [List.length_map, hDl] at p1
    refine .inr ⟨(k + (8 + n), .sl (s2.next + 1) 1 0 (R.length + 1) false), s4, ⟨js ++ [s.next], R ++ [D.map Int.ofNat], p2, p3, p4, by omega, by simp only [List.length_append, List.length_cons, List.length_nil]; omega, ?_⟩, by simp only; omega, go fun T hT => AW.blockN (hin (fun T' q => ?_) T hT)⟩
    · rw [← hlaw, split_some hpr, List.append_assoc]
      simp only [List.cons_append, List.nil_append, List.drop_drop]
    · exact f10_7_FFFF (lssF (by omega)) (gtrF (by omega)) hlen hs1 hs2 (gtrF (by omega)) a8 a8 an w1 ap c1 o1.bs.str a8 an y1 y2.str (neSF (by rw [h4])) (build32 s2 s.next n false) p1 (addN' 8 n (by omega)) (addN' k (8 + n) (by omega)) q
  · rw [if_neg h4] at hpr
    have hne : strOfNums (frameL (D.map Int.ofNat)) ≠ strOfNums (((xs.drop k).take (8 + n)).map Int.ofNat) := fun e => h4 (strOf_inj (frameL_range (nat_range hD256)) (nat_range hY256) e)
    refine .inl ⟨s2, js, stop s2 hLo r2 hpr, r2, hf, .inr (go fun T hT => AW.blockR (hin (fun T' q => ?_) T hT))⟩
    exact f10_7_FFFT (lssF (by omega)) (gtrF (by omega)) hlen hs1 hs2 (gtrF (by omega)) a8 a8 an w1 ap c1 o1.bs.str a8 an y1 y2.str (neST hne) q
theorem splitR_ok {st : St} (hw : st.wf) (hl : st.lock = []) {v : AV} {xs : List Nat} (hv : BS st v (xs.map Int.ofNat)) (h256 : ∀ x ∈ xs, x < 256) (hA : xs.length ≤ 2000000) :
    ∃ l js st', obC 10 [v] st l st' ∧ LO st' false l js (splitN (xs.map Int.ofNat).length (xs.map Int.ofNat)) ∧ Rest st st' [] ∧ FreshL st.next l js := by
  obtain ⟨n, c, σ, c0, s0, ht, sf, js, he1, he2, he3, he4⟩ := chain_wf (RSpl xs st) (fun a => xs.length - a.1) (RStep v) (REnd xs st v) (rspl hw hl hv h256 hA) xs.length (0, .nils) st (by simp) ⟨[], [], LO.nil st false, Rest.refl hw _, ⟨fun j hj => (by cases hj), fun i sz o k f e => (by cases e)⟩, by simp, by simp, by simp⟩
  refine ⟨(c n).2, js, sf, ?_, he1, he2, he3⟩
  refine ACalls.body (E := E0) hE Tryz.func10 f10body ?_
  refine AW.andThen (f10_0 ⟨rfl, rfl⟩) fun T1 q1 => ?_
  refine AW.andThen (f10_1 q1) fun T2 q2 => ?_
  refine AW.andThen (f10_2 q2) fun T3 q3 => ?_
  have hin : f10L2 T3 v (c 0).2 (i64 (c 0).1) := by rw [c0]; exact q3
  rcases he4 with he4 | he4
  · refine AW.andThen (AW.turns (In := fun i T => f10L2 T v (c i).2 (i64 (c i).1)) (L := fun T => f10L3 T (c n).2) (c := σ) (n := n) (sf := sf) s0.symm hin (fun i hi T hT => ht i hi T hT) he4) fun T4 q4 => ?_
    refine AW.atRet (f10_8 q4) fun T5 q5 => ?_
    refine ⟨[T5.get 2], rfl, ?_⟩
    simp only [oneOrTup]
    rw [q5.2]
    exact ⟨rfl, trivial⟩
  · refine AW.retThen (AW.turnsRet (In := fun i T => f10L2 T v (c i).2 (i64 (c i).1)) (L := fun T => f10L6 T (c n).2) (c := σ) (n := n) (sf := sf) s0.symm hin (fun i hi T hT => ht i hi T hT) he4) fun T5 q5 => ?_
    refine ⟨[T5.get 2], rfl, ?_⟩
    simp only [oneOrTup]
    rw [q5.2]
    exact ⟨rfl, trivial⟩
end
section
set_option maxRecDepth 8000
/-! ### the program's Split, rows of one's own -/
theorem LO.take {st : St} {f : Bool} {l : AV} {js : List Nat} {R : List (List Int)} (h : LO st f l js R) {left : AV} {r : Nat} (hr : st.get r = some (.row [left, TT] 137)) (hw : st.wf) (bs : List AV) (n : Nat) (lf : AV) : LO (takeSt st r 137 bs n lf) f l js R := by
  have kp : ∀ i vs ty, st.get i = some (.row vs ty) → ty ≠ 137 → (takeSt st r 137 bs n lf).get i = some (.row vs ty) := fun i vs ty hg hty => by
    have := hw _ _ hg
    rw [takeSt_get, if_neg (fun e => ?_), if_neg (by omega)]
    · exact hg
    · rw [e, hr] at hg
      simp only [Option.some.injEq, AObj.row.injEq] at hg
      exact hty hg.2.symm
  refine ⟨h.len, ?_, fun k j d hj hd => kp _ _ _ (h.each k j d hj hd) (by decide), h.nodup⟩
  rcases h.row with h1 | ⟨h1, id, h2, h3⟩
  · exact .inl h1
  · exact .inr ⟨h1, id, h2, kp _ _ _ h3 (by decide)⟩
theorem Rest.take {st0 st : St} (hk : Rest st0 st []) (hw0 : st0.wf) {r ty n : Nat} {bs : List AV} {lf : AV} (hr : st0.next ≤ r) (hrn : r < st.next) : Rest st0 (takeSt st r ty bs n lf) [] :=
  ⟨fun i o hi ho => by
    have := hw0 _ _ ho
    have hn := hk.next
    rw [takeSt_get, if_neg (by omega), if_neg (by omega)]
    exact hk.keep i o hi ho, by rw [takeSt_next]; have := hk.next; omega, by rw [takeSt_lock]; exact hk.lock, hk.gl, takeSt_wf hk.wf hrn⟩
theorem newU_own {st : St} {b : AV} {A : List Int} (hw : st.wf) (hb : OwnB st b A) (hA : A.length ≤ 2000000) :
    ∃ r left st', obC 44 [b] st (.ptr r 0) st' ∧ st.next ≤ r ∧ st'.get r = some (.row [left, TT] 137) ∧ LeftE st' left A ∧ Rest st st' [] := by
  rcases hb with ⟨rfl, rfl⟩ | ⟨rfl, i, rfl, hg⟩ | ⟨hne, i, rfl, hg⟩
  · exact new_own hw (.inl ⟨rfl, rfl⟩) (by simp)
  · exact new_own hw (.inr (.inl ⟨rfl, i, rfl, hg⟩)) (by simp)
  · have hi := hw _ _ hg
    have h0 : 0 < A.length := List.length_pos_iff.2 hne
    have hg' : (st.push (.row [] 5)).get i = some (.row (A.map u8) 5) := by rw [St.get_push, if_neg (by omega)]; exact hg
    have ha : appendA E0 (st.push (.row [] 5)) 22 22 (.sl st.next 1 0 0 true) (.sl i 1 0 A.length false) = some (.sl (st.next + 1) 1 0 A.length false, (st.push (.row [] 5)).push (.row (A.map u8) 5)) := by
      have := app_full (st := st.push (.row [] 5)) (id := st.next) (off := 0) (len := 0) (n := A.length) (vs := []) (c := A.map u8) (x := .sl i 1 0 A.length false) (by rw [St.get_push, if_pos rfl]) (by simp)
        (by rw [cells_sl hg' (by simp), List.drop_zero, List.take_of_length_le (by simp)]) (by simp) (by omega) (by unfold big; omega)
      simpa using this
    obtain ⟨x1, h1⟩ := run_of (newRun st (fun _ => (st.push (.row [] 5)).push (.row (A.map u8) 5)) i 0 A.length (st.next + 1) A.length false)
    refine ⟨st.next + 2, .sl (st.next + 1) 1 0 A.length false, _, ACalls.run hE (ov := noOv) noOv_ok h1 (by simp only [Ob.ok_cons, Ob.ok_nil, and_true]; exact ha), by omega, by rw [St.get_push, if_pos (by simp)], .inl (.inr ⟨by simpa using hne, st.next + 1, 0, false, A, by simp, ?_, by simp⟩), ((Rest.push hw _ _).trans (Rest.push (push_wf hw _) _ _)).trans (Rest.push (push_wf (push_wf hw _) _) _ _)⟩
    rw [St.get_push, if_neg (by simp), St.get_push, if_pos (by simp)]
structure SplU (A : List Int) (st0 : St) (r : Nat) (js : List Nat) (R : List (List Int)) (bs : List Int) (l : AV) (st : St) : Prop where
  rd : ∃ left, st.get r = some (.row [left, TT] 137) ∧ LeftR st left (bs.map u8)
  ls : LO st true l js R
  keep : Rest st0 st []
  law : R ++ splitN bs.length bs = splitN A.length A
  len : 9 * R.length + bs.length ≤ A.length
  fresh : FreshL st0.next l js
def UEnd (A : List Int) (st0 : St) (r : Nat) (l : AV) (st : St) : Prop := ∃ st' js, LO st' true l js (splitN A.length A) ∧ Rest st0 st' [] ∧ FreshL st0.next l js ∧ ∀ T, f9L2 T l (.ptr r 0) → AW Tryz.prog (f9P 4) (fun ex T' s => ex = .exit 0 ∧ f9L3 T' l ∧ s = st') T st
theorem SplU.done {A : List Int} {st0 : St} {r : Nat} {js : List Nat} {R : List (List Int)} {bs : List Int} {l : AV} {st : St} (h : SplU A st0 r js R bs l st) (hp : parse1 bs = none) {st' : St} (hls : LO st true l js R → LO st' true l js R) (hk : Rest st0 st' []) (hr : ∀ T, f9L2 T l (.ptr r 0) → AW Tryz.prog (f9P 4) (fun ex T' s => ex = .exit 0 ∧ f9L3 T' l ∧ s = st') T st) : UEnd A st0 r l st :=
  ⟨st', js, by
      have := h.law
      rw [split_none hp, List.append_nil] at this
      rw [← this]; exact hls h.ls, hk, h.fresh, hr⟩
theorem spl_detU {A : List Int} {st0 : St} {r : Nat} {js : List Nat} {R : List (List Int)} {bs : List Int} {l : AV} {st : St} (hI : SplU A st0 r js R bs l st) (hA : A.length ≤ 2000000) (hw0 : st0.wf) (hl0 : st0.lock = []) (hr0 : st0.next ≤ r) :
    UEnd A st0 r l st ∨
    (∃ js' R' bs' l' st', bs'.length < bs.length ∧ SplU A st0 r js' R' bs' l' st' ∧ ∀ T, f9L2 T l (.ptr r 0) → AW Tryz.prog (f9P 4) (fun ex T' s => ex = .normal ∧ f9L2 T' l' (.ptr r 0) ∧ s = st') T st) := by
  have hw := hI.keep.wf
  have hlk : st.lock = [] := hI.keep.lock.trans hl0
  obtain ⟨left, hrd, hL⟩ := hI.rd
  have hrn := hw _ _ hrd
  by_cases h4 : bs.length < 4
  · have hp : parse1 bs = none := by unfold parse1; rw [if_pos h4]
    exact .inl (hI.done hp (fun h => h) hI.keep fun T hT => f9_4_T (num_short hrd hL (by simpa using h4)) (neqT (by decide)) hT)
  obtain ⟨lf1, c1, L1, i1⟩ := num_ok hw hlk hrd hL (by omega) (by decide)
  have w1 := takeSt_wf (ty := 137) (n := 4) (bs := bs.map u8) (lf := lf1) hw hrn
  have r1 := takeSt_r (st := st) (r := r) (ty := 137) (n := 4) (bs := bs.map u8) (lf := lf1)
  have ls1 := fun (h : LO st true l js R) => h.take hrd hw (bs.map u8) 4 lf1
  have k1 : Rest st0 (takeSt st r 137 (bs.map u8) 4 lf1) [] := hI.keep.take hw0 hr0 hrn
  have x1 : st0.next ≤ (takeSt st r 137 (bs.map u8) 4 lf1).next := k1.next
  have lk1 : (takeSt st r 137 (bs.map u8) 4 lf1).lock = [] := by rw [takeSt_lock]; exact hlk
  have rn1 : r < (takeSt st r 137 (bs.map u8) 4 lf1).next := by rw [takeSt_next]; omega
  generalize hs1 : takeSt st r 137 (bs.map u8) 4 lf1 = st1 at *
  by_cases hn1 : num4 bs < 1
  · have hp : parse1 bs = none := by unfold parse1; rw [if_neg h4, if_pos hn1]
    exact .inl (hI.done hp ls1 k1 fun T hT => f9_4_FT c1 (neqF rfl) (lssT (by omega)) hT)
  by_cases hn2 : 4096 < num4 bs
  · have hp : parse1 bs = none := by unfold parse1; rw [if_neg h4, if_neg hn1, if_pos hn2]
    exact .inl (hI.done hp ls1 k1 fun T hT => f9_4_FFT c1 (neqF rfl) (lssF (by omega)) (gtrT (by omega)) hT)
  by_cases h8 : (bs.drop 4).length < 4
  · have hp : parse1 bs = none := by unfold parse1; rw [if_neg h4, if_neg hn1, if_neg hn2, if_pos h8]
    exact .inl (hI.done hp ls1 k1 fun T hT => f9_4_FFFT c1 (neqF rfl) (lssF (by omega)) (gtrF (by omega)) (num_short r1 L1 (by simpa using h8)) (neqT (by decide)) hT)
  have hd8 : (bs.drop 4).drop 4 = bs.drop 8 := by rw [List.drop_drop]
  obtain ⟨lf2, c2, L2, i2⟩ := num_ok w1 lk1 r1 L1 (by omega) (by decide)
  rw [hd8] at L2
  have w2 := takeSt_wf (ty := 137) (n := 4) (bs := (bs.drop 4).map u8) (lf := lf2) w1 rn1
  have r2 := takeSt_r (st := st1) (r := r) (ty := 137) (n := 4) (bs := (bs.drop 4).map u8) (lf := lf2)
  have ls2 := fun (h : LO st1 true l js R) => h.take r1 w1 ((bs.drop 4).map u8) 4 lf2
  have k2 : Rest st0 (takeSt st1 r 137 ((bs.drop 4).map u8) 4 lf2) [] := k1.take hw0 hr0 rn1
  have x2 : st0.next ≤ (takeSt st1 r 137 ((bs.drop 4).map u8) 4 lf2).next := k2.next
  have lk2 : (takeSt st1 r 137 ((bs.drop 4).map u8) 4 lf2).lock = [] := by rw [takeSt_lock]; exact lk1
  have rn2 : r < (takeSt st1 r 137 ((bs.drop 4).map u8) 4 lf2).next := by rw [takeSt_next]; omega
  generalize hs2 : takeSt st1 r 137 ((bs.drop 4).map u8) 4 lf2 = st2 at *
  obtain ⟨n, hn⟩ : ∃ n : Nat, num4 bs = (n : Int) := ⟨(num4 bs).toNat, by omega⟩
  have hnt : (num4 bs).toNat = n := by rw [hn]; rfl
  have hcv : convO E0 st2 79 3 (u64 (num4 bs)) = some (i64 n, st2) := by rw [hn]; exact conv64 st2 n (by omega)
  by_cases hsh : (bs.drop 8).length < n
  · have hp : parse1 bs = none := by unfold parse1; rw [if_neg h4, if_neg hn1, if_neg hn2, if_neg h8, if_pos (by rw [hnt]; exact hsh)]
    exact .inl (hI.done hp (fun h => ls2 (ls1 h)) k2 fun T hT => f9_4_FFFFT c1 (neqF rfl) (lssF (by omega)) (gtrF (by omega)) c2 (neqF rfl) hcv (take_short r2 L2 (by simpa using hsh)) (neqT (by decide)) hT)
  obtain ⟨lf3, c3, L3, i3⟩ := take_ok (n := n) w2 lk2 r2 L2 (by omega) (by simpa using hsh) (by omega) (by decide)
  rw [← List.map_drop] at L3
  have w3 := takeSt_wf (ty := 137) (n := n) (bs := (bs.drop 8).map u8) (lf := lf3) w2 rn2
  have r3 := takeSt_r (st := st2) (r := r) (ty := 137) (n := n) (bs := (bs.drop 8).map u8) (lf := lf3)
  have ls3 := fun (h : LO st2 true l js R) => h.take r2 w2 ((bs.drop 8).map u8) n lf3
  have k3 : Rest st0 (takeSt st2 r 137 ((bs.drop 8).map u8) n lf3) [] := k2.take hw0 hr0 rn2
  have x3 : st0.next ≤ (takeSt st2 r 137 ((bs.drop 8).map u8) n lf3).next := k3.next
  have g3 : (takeSt st2 r 137 ((bs.drop 8).map u8) n lf3).get st2.next = some (.row (((bs.drop 8).take n).map u8) 5) := by
    rw [takeSt_get, if_neg (by omega), if_pos rfl, List.map_take]
  generalize hs3 : takeSt st2 r 137 ((bs.drop 8).map u8) n lf3 = st3 at *
  have hdl : ((bs.drop 8).take n).length = n := by rw [List.length_take]; omega
  have c4 := sum_ok (f := true) g3 hdl.symm (by omega)
  by_cases hcr : crcU ((bs.drop 8).take n) ≠ num4 (bs.drop 4)
  · have hp : parse1 bs = none := by unfold parse1; rw [if_neg h4, if_neg hn1, if_neg hn2, if_neg h8, if_neg (by rw [hnt]; exact hsh), if_pos (by rw [hnt]; exact hcr)]
    exact .inl (hI.done hp (fun h => ls3 (ls2 (ls1 h))) k3 fun T hT => f9_4_FFFFFT c1 (neqF rfl) (lssF (by omega)) (gtrF (by omega)) c2 (neqF rfl) hcv c3 (neqF rfl) c4 (conv32 _ _) (neqT hcr) hT)
  have hp : parse1 bs = some ((bs.drop 8).take n, (bs.drop 8).drop n) := by
    unfold parse1; rw [if_neg h4, if_neg hn1, if_neg hn2, if_neg h8, if_neg (by rw [hnt]; exact hsh), if_neg (by rw [hnt]; exact hcr), hnt]
  have hlen := parse1_len hp
  simp only at hlen
  have l2 : LO st2 true l js R := ls2 (ls1 hI.ls)
  have l3 : LO st3 true l js R := ls3 l2
  have hlen2 := hI.len
  have hjs : st2.next ∉ js := fun hm => by
    obtain ⟨i, hi, e⟩ := List.getElem_of_mem hm
    have hi2 : i < R.length := by rw [← l2.len]; exact hi
    have := l2.each i st2.next R[i] (by rw [List.getElem?_eq_getElem hi, e]) (List.getElem?_eq_getElem hi2)
    have := w2 _ _ this
    omega
  obtain ⟨st5, ha, p2, p3, p4, kp5⟩ := l3.app (d := (bs.drop 8).take n) k3 hw0 hl0 hI.fresh g3 x2 hjs (by omega)
  rw [hdl] at ha
  refine .inr ⟨js ++ [st2.next], R ++ [(bs.drop 8).take n], (bs.drop 8).drop n, .sl (st3.next + 1) 1 0 (R.length + 1) false, st5, by omega, ⟨⟨lf3, kp5 _ _ _ r3 (by decide), ?_⟩, p2, p3, ?_, ?_, p4⟩, fun T hT => ?_⟩
  · rcases L3 with h | ⟨hne, id, off, full, B, h, hg, hd⟩
    · exact .inl h
    · exact .inr ⟨hne, id, off, full, B, h, kp5 _ _ _ hg (by decide), hd⟩
  · rw [← hI.law, split_some hp]
    simp
  · simp only [List.length_append, List.length_cons, List.length_nil]
    omega
  · exact f9_4_FFFFFF c1 (neqF rfl) (lssF (by omega)) (gtrF (by omega)) c2 (neqF rfl) hcv c3 (neqF rfl) c4 (conv32 _ _) (neqF (Classical.not_not.1 hcr)) (build32 st3 st2.next n true) ha hT
theorem splitU_ok {st : St} {b : AV} {A : List Int} (hw : st.wf) (hl : st.lock = []) (hb : OwnB st b A) (hA : A.length ≤ 2000000) :
    ∃ l js st', obC 9 [b] st l st' ∧ LO st' true l js (splitN A.length A) ∧ Rest st st' [] ∧ FreshL st.next l js := by
  obtain ⟨r, left, s1, hnew, hr0, hrd, hL, hk⟩ := newU_own hw hb hA
  have f0 : FreshL st.next .nils [] := ⟨fun j hj => (by cases hj), fun i sz o k f e => (by cases e)⟩
  obtain ⟨n, c, σ, c0, s0, ht, sf, js, h4, h5, h6, hf⟩ : ∃ (n : Nat) (c : Nat → AV) (σ : Nat → St), c 0 = .nils ∧ σ 0 = s1 ∧ (∀ i, i < n → ∀ T, f9L2 T (c i) (.ptr r 0) → AW Tryz.prog (f9P 4) (fun ex T' s => ex = .normal ∧ f9L2 T' (c (i + 1)) (.ptr r 0) ∧ s = σ (i + 1)) T (σ i)) ∧ UEnd A st r (c n) (σ n) := by
    rcases hL with hL | ⟨rfl, j, rfl⟩
    · obtain ⟨n, c, σ, c0, s0, ht, he⟩ := chain_wf (fun (a : List Int × AV) s => ∃ js R, SplU A st r js R a.1 a.2 s) (fun a => a.1.length) (fun a s a' s' => ∀ T, f9L2 T a.2 (.ptr r 0) → AW Tryz.prog (f9P 4) (fun ex T' z => ex = .normal ∧ f9L2 T' a'.2 (.ptr r 0) ∧ z = s') T s) (fun a s => UEnd A st r a.2 s)
        (fun a s ⟨js, R, hI⟩ => by
          rcases spl_detU hI hA hw hl hr0 with he | ⟨js', R', bs', l', st', hlt, hI', hs⟩
          · exact .inl he
          · exact .inr ⟨(bs', l'), st', ⟨js', R', hI'⟩, hlt, hs⟩) A.length (A, .nils) s1 (Nat.le_refl _) ⟨[], [], ⟨left, hrd, hL⟩, LO.nil _ _, hk, rfl, by simp, f0⟩
      exact ⟨n, fun i => (c i).2, σ, by show (c 0).2 = _; rw [c0], s0, ht, he⟩
    · exact ⟨0, fun _ => .nils, fun _ => s1, rfl, rfl, fun i h => by omega, s1, [], LO.nil _ _, hk, f0, fun T hT => f9_4_T (num_shortE hrd) (neqT (by decide)) hT⟩
  refine ⟨c n, js, sf, ?_, h4, h5, h6⟩
  refine ACalls.body (E := E0) hE Tryz.func9 f9body ?_
  refine AW.andThen (f9_0 ⟨rfl, rfl⟩) fun T1 q1 => .scope ?_
  refine AW.andThen (f9_1 q1) fun T2 q2 => ?_
  refine AW.andThen (f9_2 hnew q2) fun T3 q3 => ?_
  refine AW.andThen (f9_3 q3) fun T4 q4 => ?_
  refine AW.andThen (AW.turns (In := fun i T => f9L2 T (c i) (.ptr r 0)) (L := fun T => f9L3 T (c n)) (c := σ) (n := n) (sf := sf) s0.symm (by rw [c0]; exact q4) ht hf) fun T5 q5 => ?_
  refine AW.atRet (f9_5 q5) fun T6 q6 => ?_
  refine ⟨fun l h => (by cases h), [T6.get 2], rfl, ?_⟩
  simp only [oneOrTup]
  exact ⟨q6.2, trivial⟩
end
section
set_option maxRecDepth 100000
theorem f7_T_e (st : St) (x : AV) (n8 : Int) : evCallS Tryz.prog E0 noOv (fun _ => [2017, 2025, 2031, 6040, 6041, 7008, 7009, 7012, 7013, 7016]) 100000 7 [x] st [.av (i64 n8), .av TT] = some ((.tup [.nils, (i64 1)]), st, [], [lenA E0 22 x = some (i64 n8), binA E0 .eql 3 (i64 n8) (i64 0) = some TT]) := by kernel_rfl
theorem f7_T {st : St} {x : AV} {n8 : Int} (h1 : lenA E0 22 x = some (i64 n8)) (h2 : binA E0 .eql 3 (i64 n8) (i64 0) = some TT) : obC 7 [x] st (.tup [.nils, (i64 1)]) st := ACalls.run hE noOv_ok (f7_T_e st x n8) (Ob.ok_cons.2 ⟨h1, (Ob.ok_cons.2 ⟨h2, Ob.ok_nil⟩)⟩)
theorem f7_FT_e (st : St) (x : AV) (n8 n12 : Int) : evCallS Tryz.prog E0 noOv (fun _ => [2017, 2025, 2031, 6040, 6041, 7008, 7009, 7012, 7013, 7016]) 100000 7 [x] st [.av (i64 n8), .av FF, .av (i64 n12), .av TT] = some ((.tup [.nils, (i64 3)]), st, [], [lenA E0 22 x = some (i64 n8), binA E0 .eql 3 (i64 n8) (i64 0) = some FF, lenA E0 22 x = some (i64 n12), binA E0 .gtr 3 (i64 n12) (i64 4096) = some TT]) := by kernel_rfl
theorem f7_FT {st : St} {x : AV} {n8 n12 : Int} (h1 : lenA E0 22 x = some (i64 n8)) (h2 : binA E0 .eql 3 (i64 n8) (i64 0) = some FF) (h3 : lenA E0 22 x = some (i64 n12)) (h4 : binA E0 .gtr 3 (i64 n12) (i64 4096) = some TT) : obC 7 [x] st (.tup [.nils, (i64 3)]) st := ACalls.run hE noOv_ok (f7_FT_e st x n8 n12) (Ob.ok_cons.2 ⟨h1, (Ob.ok_cons.2 ⟨h2, (Ob.ok_cons.2 ⟨h3, (Ob.ok_cons.2 ⟨h4, Ob.ok_nil⟩)⟩)⟩)⟩)
theorem f7_FF_e (st s1 s2 s3 s4 : St) (x v18a v26a v31 : AV) (n8 n12 n16 n17 n18b n24 n25 n26b : Int) : evCallS Tryz.prog E0 noOv (fun _ => [2017, 2025, 2031, 6040, 6041, 7008, 7009, 7012, 7013, 7016]) 100000 7 [x] st [.av (i64 n8), .av FF, .av (i64 n12), .av FF, .av (i64 n16), .eff (u64 n17) id, .eff (.tup [v18a, (i64 n18b)]) (fun _ => s1), .eff (u32 n24) (fun _ => s2), .eff (u64 n25) id, .eff (.tup [v26a, (i64 n26b)]) (fun _ => s3), .eff v31 (fun _ => s4)] = some ((.tup [v31, (i64 0)]), s4, [], [lenA E0 22 x = some (i64 n8), binA E0 .eql 3 (i64 n8) (i64 0) = some FF, lenA E0 22 x = some (i64 n12), binA E0 .gtr 3 (i64 n12) (i64 4096) = some FF, lenA E0 22 x = some (i64 n16), convO E0 st 3 79 (i64 n16) = some ((u64 n17), st), obC 40 [.nils, (u64 n17), (i64 4)] st (.tup [v18a, (i64 n18b)]) s1, obC 41 [x] s1 (u32 n24) s2, convO E0 s2 80 79 (u32 n24) = some ((u64 n25), s2), obC 40 [v18a, (u64 n25), (i64 4)] s2 (.tup [v26a, (i64 n26b)]) s3, appendA E0 s3 22 22 v26a x = some (v31, s4)]) := by kernel_rfl
theorem f7_FF {st s1 s2 s3 s4 : St} {x v18a v26a v31 : AV} {n8 n12 n16 n17 n18b n24 n25 n26b : Int} (h1 : lenA E0 22 x = some (i64 n8)) (h2 : binA E0 .eql 3 (i64 n8) (i64 0) = some FF) (h3 : lenA E0 22 x = some (i64 n12)) (h4 : binA E0 .gtr 3 (i64 n12) (i64 4096) = some FF) (h5 : lenA E0 22 x = some (i64 n16)) (h6 : convO E0 st 3 79 (i64 n16) = some ((u64 n17), st)) (h7 : obC 40 [.nils, (u64 n17), (i64 4)] st (.tup [v18a, (i64 n18b)]) s1) (h8 : obC 41 [x] s1 (u32 n24) s2) (h9 : convO E0 s2 80 79 (u32 n24) = some ((u64 n25), s2)) (h10 : obC 40 [v18a, (u64 n25), (i64 4)] s2 (.tup [v26a, (i64 n26b)]) s3) (h11 : appendA E0 s3 22 22 v26a x = some (v31, s4)) : obC 7 [x] st (.tup [v31, (i64 0)]) s4 := ACalls.run hE noOv_ok (f7_FF_e st s1 s2 s3 s4 x v18a v26a v31 n8 n12 n16 n17 n18b n24 n25 n26b) (Ob.ok_cons.2 ⟨h1, (Ob.ok_cons.2 ⟨h2, (Ob.ok_cons.2 ⟨h3, (Ob.ok_cons.2 ⟨h4, (Ob.ok_cons.2 ⟨h5, (Ob.ok_cons.2 ⟨h6, (Ob.ok_cons.2 ⟨h7, (Ob.ok_cons.2 ⟨h8, (Ob.ok_cons.2 ⟨h9, (Ob.ok_cons.2 ⟨h10, (Ob.ok_cons.2 ⟨h11, Ob.ok_nil⟩)⟩)⟩)⟩)⟩)⟩)⟩)⟩)⟩)⟩)⟩)
end
section
set_option maxRecDepth 8000
/-! ### the program's Frame at a slice of one's own; bytes that are turned over -/
theorem OwnB.rest {st st' : St} {v : AV} {bs : List Int} (h : OwnB st v bs) (hr : Rest st st' []) : OwnB st' v bs := by
  rcases h with h | ⟨h, i, e, hg⟩ | ⟨h, i, e, hg⟩
  · exact .inl h
  · exact .inr (.inl ⟨h, i, e, hr.keep _ _ (by simp) hg⟩)
  · exact .inr (.inr ⟨h, i, e, hr.keep _ _ (by simp) hg⟩)
theorem num40 {st : St} {s : AV} {B : List Int} (hB : BR st s B) (hw : st.wf) (hl : st.lock = []) {n : Nat} (hn : n < 2 ^ 32) (hb : B.length + 4 ≤ 1000000) :
    ∃ i st', obC 40 [s, u64 n, i64 4] st (.tup [S4 i (B.length + 4), i64 0]) st' ∧ st'.get i = some (.row ((B ++ be4 n).map u8) 5) ∧ Rest st st' [] ∧ st.next ≤ i := by
  obtain ⟨i, st', c, hg, hl', hi, hx, hk, hw'⟩ := numW_ok hB hw hl (n := (n : Int)) (by omega) hb
  exact ⟨i, _, obC_gl c, hg, ⟨fun j o _ ho => hk j o ho, hx, hl'.trans hl.symm, rfl, hw'⟩, hi⟩
theorem frameU_0 {st : St} {v : AV} (hv : BS st v []) : obC 7 [v] st (.tup [.nils, i64 1]) st := f7_T hv.len (eqlT rfl)
theorem frameU_long {st : St} {v : AV} {d : List Int} (hv : BS st v d) (h : 4096 < d.length) : obC 7 [v] st (.tup [.nils, i64 3]) st := f7_FT hv.len (eqlF (by omega)) hv.len (gtrT (by omega))
theorem frameU_ok {st : St} (hw : st.wf) (hl : st.lock = []) {v : AV} {d : List Int} (hv : OwnB st v d) (h1 : 1 ≤ d.length) (h2 : d.length ≤ 4096) :
    ∃ v' st', obC 7 [v] st (.tup [v', i64 0]) st' ∧ OwnB st' v' (frameL d) ∧ Rest st st' [] ∧ FreshB st v' := by
  have hlen := hv.bs.len
  obtain ⟨i1, s1, c1, g1, r1, f1⟩ := num40 (st := st) (s := .nils) (B := []) (.inl ⟨rfl, rfl⟩) hw hl (n := d.length) (by omega) (by simp)
  have hc := crc_range d
  obtain ⟨m, hm⟩ := Int.eq_ofNat_of_zero_le hc.1
  rw [hm] at hc
  have hs : obC 41 [v] s1 (u32 (m : Int)) s1 := by
    rcases hv with ⟨rfl, _⟩ | ⟨rfl, _⟩ | ⟨_, i, rfl, hg⟩
    · simp at h1
    · simp at h1
    · rw [← hm]; exact sum_ok (r1.keep _ _ (by simp) hg) rfl (by omega)
  obtain ⟨i2, s2, c2, g2, r2, f2⟩ := num40 (st := s1) (s := S4 i1 (0 + 4)) (B := be4 d.length) (.inr ⟨by simp [be4], i1, rfl, by simpa using g1⟩) r1.wf (r1.lock.trans hl) (n := m) (by omega) (by simp [be4])
  have r12 := r1.trans r2
  have o2 : OwnB s2 (S4 i2 ((be4 (d.length : Nat)).length + 4)) (be4 d.length ++ be4 m) := .inr (.inr ⟨by simp [be4], i2, rfl, g2⟩)
  obtain ⟨g, s3, a3, o3, r3, f3, _⟩ := app_ownR hw hl r12 o2 (fun i o l f e => by
    simp only [S4, AV.sl.injEq] at e
    have := r1.next
    omega) (hv.bs.rest r12).cells (by simp [be4, big]; omega)
  have hU : crcU d = (m : Int) := by rw [crcU_eq, hm]
  refine ⟨g, s3, f7_FF hlen (eqlF (by omega)) hlen (gtrF (by omega)) hlen (conv3_79 st _ (by omega)) c1 hs (conv80_79 s1 m (by omega)) c2 a3, ?_, r3, f3⟩
  unfold frameL
  rw [hU]
  exact o3
theorem xorA (x : Int) : ∃ m, binA E0 .xor 5 (u8 x) (u8 255) = some (u8 m) := ⟨_, rfl⟩
theorem xor_chain {st : St} (hw : st.wf) (hl : st.lock = []) {o n : Nat} {fl : Bool} {d : List Int} (hg : st.get o = some (.row (d.map u8) 5)) (hd : d.length = n) :
    ∃ c : Nat → St, c 0 = st ∧ (∀ i, i ≤ n → Rest st (c i) [o]) ∧ ∀ i, i < n → ∃ x m, indexAddrA E0 22 (.sl o 1 0 n fl) (i64 i) = some (.ptr o i) ∧ loadA E0 (c i) 5 (.ptr o i) = some (u8 x) ∧ binA E0 .xor 5 (u8 x) (u8 255) = some (u8 m) ∧ storeA E0 (c i) 5 (.ptr o i) (u8 m) = some (c (i + 1)) := by
  obtain ⟨c, c0, inv, step⟩ := chain_seq (fun _ σ => ∃ l' : List Int, l'.length = n ∧ σ.get o = some (.row (l'.map u8) 5) ∧ Rest st σ [o]) (fun i σ σ' => ∃ x m, indexAddrA E0 22 (.sl o 1 0 n fl) (i64 i) = some (.ptr o i) ∧ loadA E0 σ 5 (.ptr o i) = some (u8 x) ∧ binA E0 .xor 5 (u8 x) (u8 255) = some (u8 m) ∧ storeA E0 σ 5 (.ptr o i) (u8 m) = some σ') n st ⟨d, hd, hg, Rest.refl hw _⟩ (fun i σ hi ⟨l', h1, h2, h3⟩ => by
    obtain ⟨m, hm⟩ := xorA l'[i]
    exact ⟨_, ⟨l'.set i m, by simp [h1], by rw [St.get_set, if_pos rfl], h3.trans (Rest.set h3.wf (h3.wf _ _ h2) _ (by simp))⟩, l'[i], m, idx22 hi, load_row h2 (plainT ty5 rfl (by rw [List.getElem?_map, List.getElem?_eq_getElem (by omega)]; rfl)), hm, store_u8 h2 (h3.lock.trans hl) (by omega) m⟩)
  exact ⟨c, c0, fun i hi => (by obtain ⟨_, _, _, h⟩ := inv i hi; exact h), step⟩
theorem slL : SlT 32 22 1 := ⟨⟨_, rfl, by kernel_rfl⟩, by kernel_rfl⟩
theorem LO.lenA {st : St} {f : Bool} {l : AV} {js : List Nat} {R : List (List Int)} (h : LO st f l js R) : lenA E0 32 l = some (i64 R.length) := by
  rcases h.row with ⟨rfl, rfl⟩ | ⟨_, id, rfl, _⟩
  · exact lenS0 slL
  · exact lenS slL
theorem tyL22 : ∃ i, E0.ty 22 = some i ∧ isAggD i.desc = false := ⟨_, rfl, by kernel_rfl⟩
theorem LO.at {st : St} (hw : st.wf) {f : Bool} {l : AV} {js : List Nat} {R : List (List Int)} (h : LO st f l js R) {i : Nat} (hi : i < R.length) :
    ∃ id j d, js[i]? = some j ∧ R[i]? = some d ∧ id < st.next ∧ indexAddrA E0 32 l (i64 i) = some (.ptr id i) ∧ loadA E0 st 22 (.ptr id i) = some (.sl j 1 0 d.length f) ∧ st.get j = some (.row (d.map u8) 5) := by
  have hj : i < js.length := by rw [h.len]; exact hi
  have e1 : js[i]? = some js[i] := List.getElem?_eq_getElem hj
  have e2 : R[i]? = some R[i] := List.getElem?_eq_getElem hi
  rcases h.row with ⟨rfl, rfl⟩ | ⟨_, id, rfl, hg⟩
  · simp at hi
  · refine ⟨id, js[i], R[i], e1, e2, hw _ _ hg, ?_, ?_, h.each i _ _ e1 e2⟩
    · have := idxS slL (f := id) (off := 0) (len := R.length) (fl := false) hi
      rw [Nat.zero_add, Nat.mul_one] at this
      exact this
    · obtain ⟨t, h1, h2⟩ := tyL22
      refine load_row hg (plainT h1 h2 ?_)
      unfold vsOf
      rw [List.getElem?_zipWith, e1, e2]
end
section
set_option maxRecDepth 100000
noncomputable def f3P (i : Nat) : Code := match Tryz.f3.body with
  | some (.seq x0 (.seq x1 (.seq x2 (.seq x3 (.seq x4 (.seq x5 (.seq x6 (.seq x7 (.seq (.seq x8 (.block 0 (.loop (.seq x9 (.seq x10 (.seq (.block 1 (.seq x11 (.seq x12 (.seq x13 (.block 2 (.loop x14)))))) x15)))))) (.seq (.seq x16 (.block 4 (.loop x17))) x18)))))))))) => [x0, x1, x2, x3, x4, x5, x6, x7, x8, x9, x10, x11, x12, x13, x14, x15, x16, x17, x18].getD i .skip
  | _ => .skip
theorem f3body : Tryz.f3.body = some (.seq (f3P 0) (.seq (f3P 1) (.seq (f3P 2) (.seq (f3P 3) (.seq (f3P 4) (.seq (f3P 5) (.seq (f3P 6) (.seq (f3P 7) (.seq (.seq (f3P 8) (.block 0 (.loop (.seq (f3P 9) (.seq (f3P 10) (.seq (.block 1 (.seq (f3P 11) (.seq (f3P 12) (.seq (f3P 13) (.block 2 (.loop (f3P 14))))))) (f3P 15))))))) (.seq (.seq (f3P 16) (.block 4 (.loop (f3P 17)))) (f3P 18))))))))))) := by kernel_rfl
def f3L0 (T : Tm) (a0 a1 a2 : AV) : Prop := T.n = 135 ∧ T.get 0 = a0 ∧ T.get 1 = a1 ∧ T.get 2 = a2
theorem f3_0_e (n0 : Int) (v1 v2 : AV) (st : St) : ((evS Tryz.prog E0 noOv noS 100000 [] (f3P 0) ⟨135, [(0, (i64 n0)), (1, v1), (2, v2)], []⟩ st []).map fun q => (q.1, q.2.1.n, ([q.2.1.get 0, q.2.1.get 1, q.2.1.get 2] : List AV), q.2.2.1, q.2.2.2.2)) = some (.normal, 135, [(i64 n0), v1, v2], st, []) := by kernel_rfl
theorem f3_0 {n0 : Int} {v1 v2 : AV} {st : St}  {T : Tm} (hT : f3L0 T (i64 n0) v1 v2) : AW Tryz.prog (f3P 0) (fun ex T' st' => ex = .normal ∧ f3L0 T' (i64 n0) v1 v2 ∧ st' = st) T st := by
  obtain ⟨hn, g0, g1, g2⟩ := hT
  exact (gen_run (G := fun T => ([T.get 0, T.get 1, T.get 2] : List AV)) hE (f3_0_e n0 v1 v2 st) Ob.ok_nil hn (conz g0 (conz g1 (one g2)))).mono fun ex T' st' ⟨q1, q2, q3, q4⟩ => by simp only [List.cons.injEq, and_true] at q3; exact ⟨q1, ⟨q2, q3⟩, q4⟩
def f3L1 (T : Tm) (a0 a1 a2 a7 a8 : AV) : Prop := T.n = 135 ∧ T.get 0 = a0 ∧ T.get 1 = a1 ∧ T.get 2 = a2 ∧ T.get 7 = a7 ∧ T.get 8 = a8
theorem f3_1_e (n0 : Int) (v1 v2 v22 v24 v25 v27 : AV) (st s1 s2 s3 s4 : St) : ((evS Tryz.prog E0 noOv noS 100000 [2022, 2024, 2025, 2027] (f3P 1) ⟨135, [(0, (i64 n0)), (1, v1), (2, v2)], []⟩ st [.eff v22 (fun _ => s1), .eff v24 (fun _ => s2), .eff v25 (fun _ => s3), .eff v27 (fun _ => s4)]).map fun q => (q.1, q.2.1.n, ([q.2.1.get 0, q.2.1.get 1, q.2.1.get 2, q.2.1.get 7, q.2.1.get 8] : List AV), q.2.2.1, q.2.2.2.2)) = some (.normal, 135, [(i64 n0), v1, v2, v24, v27], s4, [buildSliceA E0 st 22 0 [] = some (v22, s1), appendA E0 s1 22 22 v22 v1 = some (v24, s2), buildSliceA E0 s2 22 0 [] = some (v25, s3), appendA E0 s3 22 22 v25 v2 = some (v27, s4)]) := by kernel_rfl
theorem f3_1 {n0 : Int} {v1 v2 v22 v24 v25 v27 : AV} {st s1 s2 s3 s4 : St} (h1 : buildSliceA E0 st 22 0 [] = some (v22, s1)) (h2 : appendA E0 s1 22 22 v22 v1 = some (v24, s2)) (h3 : buildSliceA E0 s2 22 0 [] = some (v25, s3)) (h4 : appendA E0 s3 22 22 v25 v2 = some (v27, s4)) {T : Tm} (hT : f3L0 T (i64 n0) v1 v2) : AW Tryz.prog (f3P 1) (fun ex T' st' => ex = .normal ∧ f3L1 T' (i64 n0) v1 v2 v24 v27 ∧ st' = s4) T st := by
  obtain ⟨hn, g0, g1, g2⟩ := hT
  exact (gen_run (G := fun T => ([T.get 0, T.get 1, T.get 2, T.get 7, T.get 8] : List AV)) hE (f3_1_e n0 v1 v2 v22 v24 v25 v27 st s1 s2 s3 s4) (Ob.ok_cons.2 ⟨h1, (Ob.ok_cons.2 ⟨h2, (Ob.ok_cons.2 ⟨h3, (Ob.ok_cons.2 ⟨h4, Ob.ok_nil⟩)⟩)⟩)⟩) hn (conz g0 (conz g1 (one g2)))).mono fun ex T' st' ⟨q1, q2, q3, q4⟩ => by simp only [List.cons.injEq, and_true] at q3; exact ⟨q1, ⟨q2, q3⟩, q4⟩
def f3L2 (T : Tm) (a0 a1 a2 a7 a8 a9 a10 : AV) : Prop := T.n = 135 ∧ T.get 0 = a0 ∧ T.get 1 = a1 ∧ T.get 2 = a2 ∧ T.get 7 = a7 ∧ T.get 8 = a8 ∧ T.get 9 = a9 ∧ T.get 10 = a10
theorem f3_2_e (n0 n30b : Int) (v1 v2 v7 v8 : AV) (st s1 : St) (w30a : ByteArray) : ((evS Tryz.prog E0 noOv noS 100000 [6005] (f3P 2) ⟨135, [(0, (i64 n0)), (1, v1), (2, v2), (7, v7), (8, v8)], []⟩ st [.eff (.tup [(str w30a), (i64 n30b)]) (fun _ => s1)]).map fun q => (q.1, q.2.1.n, ([q.2.1.get 0, q.2.1.get 1, q.2.1.get 2, q.2.1.get 7, q.2.1.get 8, q.2.1.get 9, q.2.1.get 10] : List AV), q.2.2.1, q.2.2.2.2)) = some (.normal, 135, [(i64 n0), v1, v2, v7, v8, (str w30a), (i64 n30b)], s1, [obC 5 [(i64 n0)] st (.tup [(str w30a), (i64 n30b)]) s1]) := by kernel_rfl
theorem f3_2 {n0 n30b : Int} {v1 v2 v7 v8 : AV} {st s1 : St} {w30a : ByteArray} (h1 : obC 5 [(i64 n0)] st (.tup [(str w30a), (i64 n30b)]) s1) {T : Tm} (hT : f3L1 T (i64 n0) v1 v2 v7 v8) : AW Tryz.prog (f3P 2) (fun ex T' st' => ex = .normal ∧ f3L2 T' (i64 n0) v1 v2 v7 v8 (str w30a) (i64 n30b) ∧ st' = s1) T st := by
  obtain ⟨hn, g0, g1, g2, g7, g8⟩ := hT
  exact (gen_run (G := fun T => ([T.get 0, T.get 1, T.get 2, T.get 7, T.get 8, T.get 9, T.get 10] : List AV)) hE (f3_2_e n0 n30b v1 v2 v7 v8 st s1 w30a) (Ob.ok_cons.2 ⟨h1, Ob.ok_nil⟩) hn (conz g0 (conz g1 (conz g2 (conz g7 (one g8)))))).mono fun ex T' st' ⟨q1, q2, q3, q4⟩ => by simp only [List.cons.injEq, and_true] at q3; exact ⟨q1, ⟨q2, q3⟩, q4⟩
def f3L3 (T : Tm) (a1 a2 a7 a8 a9 a10 a11 a12 : AV) : Prop := T.n = 135 ∧ T.get 1 = a1 ∧ T.get 2 = a2 ∧ T.get 7 = a7 ∧ T.get 8 = a8 ∧ T.get 9 = a9 ∧ T.get 10 = a10 ∧ T.get 11 = a11 ∧ T.get 12 = a12
theorem f3_3_e (n0 n10 n35b : Int) (v1 v2 v7 v8 : AV) (w9 w35a : ByteArray) (st s1 : St) : ((evS Tryz.prog E0 noOv noS 100000 [6006] (f3P 3) ⟨135, [(0, (i64 n0)), (1, v1), (2, v2), (7, v7), (8, v8), (9, (str w9)), (10, (i64 n10))], []⟩ st [.eff (.tup [(str w35a), (i64 n35b)]) (fun _ => s1)]).map fun q => (q.1, q.2.1.n, ([q.2.1.get 1, q.2.1.get 2, q.2.1.get 7, q.2.1.get 8, q.2.1.get 9, q.2.1.get 10, q.2.1.get 11, q.2.1.get 12] : List AV), q.2.2.1, q.2.2.2.2)) = some (.normal, 135, [v1, v2, v7, v8, (str w9), (i64 n10), (str w35a), (i64 n35b)], s1, [obC 6 [(i64 n0)] st (.tup [(str w35a), (i64 n35b)]) s1]) := by kernel_rfl
theorem f3_3 {n0 n10 n35b : Int} {v1 v2 v7 v8 : AV} {w9 w35a : ByteArray} {st s1 : St} (h1 : obC 6 [(i64 n0)] st (.tup [(str w35a), (i64 n35b)]) s1) {T : Tm} (hT : f3L2 T (i64 n0) v1 v2 v7 v8 (str w9) (i64 n10)) : AW Tryz.prog (f3P 3) (fun ex T' st' => ex = .normal ∧ f3L3 T' v1 v2 v7 v8 (str w9) (i64 n10) (str w35a) (i64 n35b) ∧ st' = s1) T st := by
  obtain ⟨hn, g0, g1, g2, g7, g8, g9, g10⟩ := hT
  exact (gen_run (G := fun T => ([T.get 1, T.get 2, T.get 7, T.get 8, T.get 9, T.get 10, T.get 11, T.get 12] : List AV)) hE (f3_3_e n0 n10 n35b v1 v2 v7 v8 w9 w35a st s1) (Ob.ok_cons.2 ⟨h1, Ob.ok_nil⟩) hn (conz g0 (conz g1 (conz g2 (conz g7 (conz g8 (conz g9 (one g10)))))))).mono fun ex T' st' ⟨q1, q2, q3, q4⟩ => by simp only [List.cons.injEq, and_true] at q3; exact ⟨q1, ⟨q2, q3⟩, q4⟩
def f3L4 (T : Tm) (a1 a2 a7 a8 a9 a10 a11 a12 a13 a14 : AV) : Prop := T.n = 135 ∧ T.get 1 = a1 ∧ T.get 2 = a2 ∧ T.get 7 = a7 ∧ T.get 8 = a8 ∧ T.get 9 = a9 ∧ T.get 10 = a10 ∧ T.get 11 = a11 ∧ T.get 12 = a12 ∧ T.get 13 = a13 ∧ T.get 14 = a14
theorem f3_4_e (v1 v2 v7 v8 v40a : AV) (w9 w11 : ByteArray) (n10 n12 n40b : Int) (st s1 : St) : ((evS Tryz.prog E0 noOv noS 100000 [6007] (f3P 4) ⟨135, [(1, v1), (2, v2), (7, v7), (8, v8), (9, (str w9)), (10, (i64 n10)), (11, (str w11)), (12, (i64 n12))], []⟩ st [.eff (.tup [v40a, (i64 n40b)]) (fun _ => s1)]).map fun q => (q.1, q.2.1.n, ([q.2.1.get 1, q.2.1.get 2, q.2.1.get 7, q.2.1.get 8, q.2.1.get 9, q.2.1.get 10, q.2.1.get 11, q.2.1.get 12, q.2.1.get 13, q.2.1.get 14] : List AV), q.2.2.1, q.2.2.2.2)) = some (.normal, 135, [v1, v2, v7, v8, (str w9), (i64 n10), (str w11), (i64 n12), v40a, (i64 n40b)], s1, [obC 7 [v7] st (.tup [v40a, (i64 n40b)]) s1]) := by kernel_rfl
theorem f3_4 {v1 v2 v7 v8 v40a : AV} {w9 w11 : ByteArray} {n10 n12 n40b : Int} {st s1 : St} (h1 : obC 7 [v7] st (.tup [v40a, (i64 n40b)]) s1) {T : Tm} (hT : f3L3 T v1 v2 v7 v8 (str w9) (i64 n10) (str w11) (i64 n12)) : AW Tryz.prog (f3P 4) (fun ex T' st' => ex = .normal ∧ f3L4 T' v1 v2 v7 v8 (str w9) (i64 n10) (str w11) (i64 n12) v40a (i64 n40b) ∧ st' = s1) T st := by
  obtain ⟨hn, g1, g2, g7, g8, g9, g10, g11, g12⟩ := hT
  exact (gen_run (G := fun T => ([T.get 1, T.get 2, T.get 7, T.get 8, T.get 9, T.get 10, T.get 11, T.get 12, T.get 13, T.get 14] : List AV)) hE (f3_4_e v1 v2 v7 v8 v40a w9 w11 n10 n12 n40b st s1) (Ob.ok_cons.2 ⟨h1, Ob.ok_nil⟩) hn (conz g1 (conz g2 (conz g7 (conz g8 (conz g9 (conz g10 (conz g11 (one g12))))))))).mono fun ex T' st' ⟨q1, q2, q3, q4⟩ => by simp only [List.cons.injEq, and_true] at q3; exact ⟨q1, ⟨q2, q3⟩, q4⟩
def f3L5 (T : Tm) (a1 a2 a7 a8 a9 a10 a11 a12 a13 a14 a15 a16 : AV) : Prop := T.n = 135 ∧ T.get 1 = a1 ∧ T.get 2 = a2 ∧ T.get 7 = a7 ∧ T.get 8 = a8 ∧ T.get 9 = a9 ∧ T.get 10 = a10 ∧ T.get 11 = a11 ∧ T.get 12 = a12 ∧ T.get 13 = a13 ∧ T.get 14 = a14 ∧ T.get 15 = a15 ∧ T.get 16 = a16
theorem f3_5_e (v1 v2 v7 v8 v13 v45a : AV) (w9 w11 : ByteArray) (n10 n12 n14 n45b : Int) (st s1 : St) : ((evS Tryz.prog E0 noOv noS 100000 [6008] (f3P 5) ⟨135, [(1, v1), (2, v2), (7, v7), (8, v8), (9, (str w9)), (10, (i64 n10)), (11, (str w11)), (12, (i64 n12)), (13, v13), (14, (i64 n14))], []⟩ st [.eff (.tup [v45a, (i64 n45b)]) (fun _ => s1)]).map fun q => (q.1, q.2.1.n, ([q.2.1.get 1, q.2.1.get 2, q.2.1.get 7, q.2.1.get 8, q.2.1.get 9, q.2.1.get 10, q.2.1.get 11, q.2.1.get 12, q.2.1.get 13, q.2.1.get 14, q.2.1.get 15, q.2.1.get 16] : List AV), q.2.2.1, q.2.2.2.2)) = some (.normal, 135, [v1, v2, v7, v8, (str w9), (i64 n10), (str w11), (i64 n12), v13, (i64 n14), v45a, (i64 n45b)], s1, [obC 8 [v1] st (.tup [v45a, (i64 n45b)]) s1]) := by kernel_rfl
theorem f3_5 {v1 v2 v7 v8 v13 v45a : AV} {w9 w11 : ByteArray} {n10 n12 n14 n45b : Int} {st s1 : St} (h1 : obC 8 [v1] st (.tup [v45a, (i64 n45b)]) s1) {T : Tm} (hT : f3L4 T v1 v2 v7 v8 (str w9) (i64 n10) (str w11) (i64 n12) v13 (i64 n14)) : AW Tryz.prog (f3P 5) (fun ex T' st' => ex = .normal ∧ f3L5 T' v1 v2 v7 v8 (str w9) (i64 n10) (str w11) (i64 n12) v13 (i64 n14) v45a (i64 n45b) ∧ st' = s1) T st := by
  obtain ⟨hn, g1, g2, g7, g8, g9, g10, g11, g12, g13, g14⟩ := hT
  exact (gen_run (G := fun T => ([T.get 1, T.get 2, T.get 7, T.get 8, T.get 9, T.get 10, T.get 11, T.get 12, T.get 13, T.get 14, T.get 15, T.get 16] : List AV)) hE (f3_5_e v1 v2 v7 v8 v13 v45a w9 w11 n10 n12 n14 n45b st s1) (Ob.ok_cons.2 ⟨h1, Ob.ok_nil⟩) hn (conz g1 (conz g2 (conz g7 (conz g8 (conz g9 (conz g10 (conz g11 (conz g12 (conz g13 (one g14))))))))))).mono fun ex T' st' ⟨q1, q2, q3, q4⟩ => by simp only [List.cons.injEq, and_true] at q3; exact ⟨q1, ⟨q2, q3⟩, q4⟩
def f3L6 (T : Tm) (a1 a2 a7 a8 a9 a10 a11 a12 a13 a14 a15 a16 a17 a18 : AV) : Prop := T.n = 135 ∧ T.get 1 = a1 ∧ T.get 2 = a2 ∧ T.get 7 = a7 ∧ T.get 8 = a8 ∧ T.get 9 = a9 ∧ T.get 10 = a10 ∧ T.get 11 = a11 ∧ T.get 12 = a12 ∧ T.get 13 = a13 ∧ T.get 14 = a14 ∧ T.get 15 = a15 ∧ T.get 16 = a16 ∧ T.get 17 = a17 ∧ T.get 18 = a18
theorem f3_6_e (v1 v2 v7 v8 v13 v15 v49 v51 : AV) (w9 w11 : ByteArray) (n10 n12 n14 n16 : Int) (st s1 s2 : St) : ((evS Tryz.prog E0 noOv noS 100000 [6009, 6010] (f3P 6) ⟨135, [(1, v1), (2, v2), (7, v7), (8, v8), (9, (str w9)), (10, (i64 n10)), (11, (str w11)), (12, (i64 n12)), (13, v13), (14, (i64 n14)), (15, v15), (16, (i64 n16))], []⟩ st [.eff v49 (fun _ => s1), .eff v51 (fun _ => s2)]).map fun q => (q.1, q.2.1.n, ([q.2.1.get 1, q.2.1.get 2, q.2.1.get 7, q.2.1.get 8, q.2.1.get 9, q.2.1.get 10, q.2.1.get 11, q.2.1.get 12, q.2.1.get 13, q.2.1.get 14, q.2.1.get 15, q.2.1.get 16, q.2.1.get 17, q.2.1.get 18] : List AV), q.2.2.1, q.2.2.2.2)) = some (.normal, 135, [v1, v2, v7, v8, (str w9), (i64 n10), (str w11), (i64 n12), v13, (i64 n14), v15, (i64 n16), v49, v51], s2, [obC 9 [v8] st v49 s1, obC 10 [v2] s1 v51 s2]) := by kernel_rfl
theorem f3_6 {v1 v2 v7 v8 v13 v15 v49 v51 : AV} {w9 w11 : ByteArray} {n10 n12 n14 n16 : Int} {st s1 s2 : St} (h1 : obC 9 [v8] st v49 s1) (h2 : obC 10 [v2] s1 v51 s2) {T : Tm} (hT : f3L5 T v1 v2 v7 v8 (str w9) (i64 n10) (str w11) (i64 n12) v13 (i64 n14) v15 (i64 n16)) : AW Tryz.prog (f3P 6) (fun ex T' st' => ex = .normal ∧ f3L6 T' v1 v2 v7 v8 (str w9) (i64 n10) (str w11) (i64 n12) v13 (i64 n14) v15 (i64 n16) v49 v51 ∧ st' = s2) T st := by
  obtain ⟨hn, g1, g2, g7, g8, g9, g10, g11, g12, g13, g14, g15, g16⟩ := hT
  exact (gen_run (G := fun T => ([T.get 1, T.get 2, T.get 7, T.get 8, T.get 9, T.get 10, T.get 11, T.get 12, T.get 13, T.get 14, T.get 15, T.get 16, T.get 17, T.get 18] : List AV)) hE (f3_6_e v1 v2 v7 v8 v13 v15 v49 v51 w9 w11 n10 n12 n14 n16 st s1 s2) (Ob.ok_cons.2 ⟨h1, (Ob.ok_cons.2 ⟨h2, Ob.ok_nil⟩)⟩) hn (conz g1 (conz g2 (conz g7 (conz g8 (conz g9 (conz g10 (conz g11 (conz g12 (conz g13 (conz g14 (conz g15 (one g16))))))))))))).mono fun ex T' st' ⟨q1, q2, q3, q4⟩ => by simp only [List.cons.injEq, and_true] at q3; exact ⟨q1, ⟨q2, q3⟩, q4⟩
def f3L7 (T : Tm) (a6 : AV) : Prop := T.n = 135 ∧ T.get 6 = a6
theorem f3_7_T_e (v1 v2 v7 v8 v13 v15 v17 v18 : AV) (w9 w11 : ByteArray) (n10 n12 n14 n16 : Int) (st : St) : ((evS Tryz.prog E0 noOv noS 100000 [6011, 7054, 7058, 7069, 7073, 7075, 7076] (f3P 7) ⟨135, [(1, v1), (2, v2), (7, v7), (8, v8), (9, (str w9)), (10, (i64 n10)), (11, (str w11)), (12, (i64 n12)), (13, v13), (14, (i64 n14)), (15, v15), (16, (i64 n16)), (17, v17), (18, v18)], []⟩ st [.av TT]).map fun q => (q.1, q.2.1.n, ([q.2.1.get 6] : List AV), q.2.2.1, q.2.2.2.2)) = some (.ret, 135, [FF], st, [binA E0 .neq 9 (str w9) (str w11) = some TT]) := by kernel_rfl
theorem f3_7_T {v1 v2 v7 v8 v13 v15 v17 v18 : AV} {w9 w11 : ByteArray} {n10 n12 n14 n16 : Int} {st : St} (h1 : binA E0 .neq 9 (str w9) (str w11) = some TT) {T : Tm} (hT : f3L6 T v1 v2 v7 v8 (str w9) (i64 n10) (str w11) (i64 n12) v13 (i64 n14) v15 (i64 n16) v17 v18) : AW Tryz.prog (f3P 7) (fun ex T' st' => ex = .ret ∧ f3L7 T' FF ∧ st' = st) T st := by
  obtain ⟨hn, g1, g2, g7, g8, g9, g10, g11, g12, g13, g14, g15, g16, g17, g18⟩ := hT
  exact (gen_run (G := fun T => ([T.get 6] : List AV)) hE (f3_7_T_e v1 v2 v7 v8 v13 v15 v17 v18 w9 w11 n10 n12 n14 n16 st) (Ob.ok_cons.2 ⟨h1, Ob.ok_nil⟩) hn (conz g1 (conz g2 (conz g7 (conz g8 (conz g9 (conz g10 (conz g11 (conz g12 (conz g13 (conz g14 (conz g15 (conz g16 (conz g17 (one g18))))))))))))))).mono fun ex T' st' ⟨q1, q2, q3, q4⟩ => by simp only [List.cons.injEq, and_true] at q3; exact ⟨q1, ⟨q2, q3⟩, q4⟩
theorem f3_7_FT_e (v1 v2 v7 v8 v13 v15 v17 v18 : AV) (w9 w11 : ByteArray) (n10 n12 n14 n16 : Int) (st : St) : ((evS Tryz.prog E0 noOv noS 100000 [6011, 7054, 7058, 7069, 7073, 7075, 7076] (f3P 7) ⟨135, [(1, v1), (2, v2), (7, v7), (8, v8), (9, (str w9)), (10, (i64 n10)), (11, (str w11)), (12, (i64 n12)), (13, v13), (14, (i64 n14)), (15, v15), (16, (i64 n16)), (17, v17), (18, v18)], []⟩ st [.av FF, .av TT]).map fun q => (q.1, q.2.1.n, ([q.2.1.get 6] : List AV), q.2.2.1, q.2.2.2.2)) = some (.ret, 135, [FF], st, [binA E0 .neq 9 (str w9) (str w11) = some FF, binA E0 .neq 3 (i64 n10) (i64 n12) = some TT]) := by kernel_rfl
theorem f3_7_FT {v1 v2 v7 v8 v13 v15 v17 v18 : AV} {w9 w11 : ByteArray} {n10 n12 n14 n16 : Int} {st : St} (h1 : binA E0 .neq 9 (str w9) (str w11) = some FF) (h2 : binA E0 .neq 3 (i64 n10) (i64 n12) = some TT) {T : Tm} (hT : f3L6 T v1 v2 v7 v8 (str w9) (i64 n10) (str w11) (i64 n12) v13 (i64 n14) v15 (i64 n16) v17 v18) : AW Tryz.prog (f3P 7) (fun ex T' st' => ex = .ret ∧ f3L7 T' FF ∧ st' = st) T st := by
  obtain ⟨hn, g1, g2, g7, g8, g9, g10, g11, g12, g13, g14, g15, g16, g17, g18⟩ := hT
  exact (gen_run (G := fun T => ([T.get 6] : List AV)) hE (f3_7_FT_e v1 v2 v7 v8 v13 v15 v17 v18 w9 w11 n10 n12 n14 n16 st) (Ob.ok_cons.2 ⟨h1, (Ob.ok_cons.2 ⟨h2, Ob.ok_nil⟩)⟩) hn (conz g1 (conz g2 (conz g7 (conz g8 (conz g9 (conz g10 (conz g11 (conz g12 (conz g13 (conz g14 (conz g15 (conz g16 (conz g17 (one g18))))))))))))))).mono fun ex T' st' ⟨q1, q2, q3, q4⟩ => by simp only [List.cons.injEq, and_true] at q3; exact ⟨q1, ⟨q2, q3⟩, q4⟩
theorem f3_7_FFTT_e (v1 v2 v7 v8 v13 v15 v17 v18 : AV) (w9 w11 : ByteArray) (n10 n12 n14 n16 : Int) (st s1 : St) : ((evS Tryz.prog E0 noOv noS 100000 [6011, 7054, 7058, 7069, 7073, 7075, 7076] (f3P 7) ⟨135, [(1, v1), (2, v2), (7, v7), (8, v8), (9, (str w9)), (10, (i64 n10)), (11, (str w11)), (12, (i64 n12)), (13, v13), (14, (i64 n14)), (15, v15), (16, (i64 n16)), (17, v17), (18, v18)], []⟩ st [.av FF, .av FF, .eff TT (fun _ => s1), .av TT]).map fun q => (q.1, q.2.1.n, ([q.2.1.get 6] : List AV), q.2.2.1, q.2.2.2.2)) = some (.ret, 135, [FF], s1, [binA E0 .neq 9 (str w9) (str w11) = some FF, binA E0 .neq 3 (i64 n10) (i64 n12) = some FF, obC 11 [v13, v15] st TT s1, binA E0 .neq 3 (i64 n14) (i64 n16) = some TT]) := by kernel_rfl
theorem f3_7_FFTT {v1 v2 v7 v8 v13 v15 v17 v18 : AV} {w9 w11 : ByteArray} {n10 n12 n14 n16 : Int} {st s1 : St} (h1 : binA E0 .neq 9 (str w9) (str w11) = some FF) (h2 : binA E0 .neq 3 (i64 n10) (i64 n12) = some FF) (h3 : obC 11 [v13, v15] st TT s1) (h4 : binA E0 .neq 3 (i64 n14) (i64 n16) = some TT) {T : Tm} (hT : f3L6 T v1 v2 v7 v8 (str w9) (i64 n10) (str w11) (i64 n12) v13 (i64 n14) v15 (i64 n16) v17 v18) : AW Tryz.prog (f3P 7) (fun ex T' st' => ex = .ret ∧ f3L7 T' FF ∧ st' = s1) T st := by
  obtain ⟨hn, g1, g2, g7, g8, g9, g10, g11, g12, g13, g14, g15, g16, g17, g18⟩ := hT
  exact (gen_run (G := fun T => ([T.get 6] : List AV)) hE (f3_7_FFTT_e v1 v2 v7 v8 v13 v15 v17 v18 w9 w11 n10 n12 n14 n16 st s1) (Ob.ok_cons.2 ⟨h1, (Ob.ok_cons.2 ⟨h2, (Ob.ok_cons.2 ⟨h3, (Ob.ok_cons.2 ⟨h4, Ob.ok_nil⟩)⟩)⟩)⟩) hn (conz g1 (conz g2 (conz g7 (conz g8 (conz g9 (conz g10 (conz g11 (conz g12 (conz g13 (conz g14 (conz g15 (conz g16 (conz g17 (one g18))))))))))))))).mono fun ex T' st' ⟨q1, q2, q3, q4⟩ => by simp only [List.cons.injEq, and_true] at q3; exact ⟨q1, ⟨q2, q3⟩, q4⟩
theorem f3_7_FFTFT_e (v1 v2 v7 v8 v13 v15 v17 v18 : AV) (w9 w11 : ByteArray) (n10 n12 n14 n16 n73 n75 : Int) (st s1 : St) : ((evS Tryz.prog E0 noOv noS 100000 [6011, 7054, 7058, 7069, 7073, 7075, 7076] (f3P 7) ⟨135, [(1, v1), (2, v2), (7, v7), (8, v8), (9, (str w9)), (10, (i64 n10)), (11, (str w11)), (12, (i64 n12)), (13, v13), (14, (i64 n14)), (15, v15), (16, (i64 n16)), (17, v17), (18, v18)], []⟩ st [.av FF, .av FF, .eff TT (fun _ => s1), .av FF, .av (i64 n73), .av (i64 n75), .av TT]).map fun q => (q.1, q.2.1.n, ([q.2.1.get 6] : List AV), q.2.2.1, q.2.2.2.2)) = some (.ret, 135, [FF], s1, [binA E0 .neq 9 (str w9) (str w11) = some FF, binA E0 .neq 3 (i64 n10) (i64 n12) = some FF, obC 11 [v13, v15] st TT s1, binA E0 .neq 3 (i64 n14) (i64 n16) = some FF, lenA E0 32 v17 = some (i64 n73), lenA E0 32 v18 = some (i64 n75), binA E0 .neq 3 (i64 n73) (i64 n75) = some TT]) := by kernel_rfl
theorem f3_7_FFTFT {v1 v2 v7 v8 v13 v15 v17 v18 : AV} {w9 w11 : ByteArray} {n10 n12 n14 n16 n73 n75 : Int} {st s1 : St} (h1 : binA E0 .neq 9 (str w9) (str w11) = some FF) (h2 : binA E0 .neq 3 (i64 n10) (i64 n12) = some FF) (h3 : obC 11 [v13, v15] st TT s1) (h4 : binA E0 .neq 3 (i64 n14) (i64 n16) = some FF) (h5 : lenA E0 32 v17 = some (i64 n73)) (h6 : lenA E0 32 v18 = some (i64 n75)) (h7 : binA E0 .neq 3 (i64 n73) (i64 n75) = some TT) {T : Tm} (hT : f3L6 T v1 v2 v7 v8 (str w9) (i64 n10) (str w11) (i64 n12) v13 (i64 n14) v15 (i64 n16) v17 v18) : AW Tryz.prog (f3P 7) (fun ex T' st' => ex = .ret ∧ f3L7 T' FF ∧ st' = s1) T st := by
  obtain ⟨hn, g1, g2, g7, g8, g9, g10, g11, g12, g13, g14, g15, g16, g17, g18⟩ := hT
  exact (gen_run (G := fun T => ([T.get 6] : List AV)) hE (f3_7_FFTFT_e v1 v2 v7 v8 v13 v15 v17 v18 w9 w11 n10 n12 n14 n16 n73 n75 st s1) (Ob.ok_cons.2 ⟨h1, (Ob.ok_cons.2 ⟨h2, (Ob.ok_cons.2 ⟨h3, (Ob.ok_cons.2 ⟨h4, (Ob.ok_cons.2 ⟨h5, (Ob.ok_cons.2 ⟨h6, (Ob.ok_cons.2 ⟨h7, Ob.ok_nil⟩)⟩)⟩)⟩)⟩)⟩)⟩) hn (conz g1 (conz g2 (conz g7 (conz g8 (conz g9 (conz g10 (conz g11 (conz g12 (conz g13 (conz g14 (conz g15 (conz g16 (conz g17 (one g18))))))))))))))).mono fun ex T' st' ⟨q1, q2, q3, q4⟩ => by simp only [List.cons.injEq, and_true] at q3; exact ⟨q1, ⟨q2, q3⟩, q4⟩
def f3L8 (T : Tm) (a1 a2 a7 a8 a13 a17 a18 : AV) : Prop := T.n = 135 ∧ T.get 1 = a1 ∧ T.get 2 = a2 ∧ T.get 7 = a7 ∧ T.get 8 = a8 ∧ T.get 13 = a13 ∧ T.get 17 = a17 ∧ T.get 18 = a18
theorem f3_7_FFTFF_e (v1 v2 v7 v8 v13 v15 v17 v18 : AV) (w9 w11 : ByteArray) (n10 n12 n14 n16 n73 n75 : Int) (st s1 : St) : ((evS Tryz.prog E0 noOv noS 100000 [6011, 7054, 7058, 7069, 7073, 7075, 7076] (f3P 7) ⟨135, [(1, v1), (2, v2), (7, v7), (8, v8), (9, (str w9)), (10, (i64 n10)), (11, (str w11)), (12, (i64 n12)), (13, v13), (14, (i64 n14)), (15, v15), (16, (i64 n16)), (17, v17), (18, v18)], []⟩ st [.av FF, .av FF, .eff TT (fun _ => s1), .av FF, .av (i64 n73), .av (i64 n75), .av FF]).map fun q => (q.1, q.2.1.n, ([q.2.1.get 1, q.2.1.get 2, q.2.1.get 7, q.2.1.get 8, q.2.1.get 13, q.2.1.get 17, q.2.1.get 18] : List AV), q.2.2.1, q.2.2.2.2)) = some (.normal, 135, [v1, v2, v7, v8, v13, v17, v18], s1, [binA E0 .neq 9 (str w9) (str w11) = some FF, binA E0 .neq 3 (i64 n10) (i64 n12) = some FF, obC 11 [v13, v15] st TT s1, binA E0 .neq 3 (i64 n14) (i64 n16) = some FF, lenA E0 32 v17 = some (i64 n73), lenA E0 32 v18 = some (i64 n75), binA E0 .neq 3 (i64 n73) (i64 n75) = some FF]) := by kernel_rfl
theorem f3_7_FFTFF {v1 v2 v7 v8 v13 v15 v17 v18 : AV} {w9 w11 : ByteArray} {n10 n12 n14 n16 n73 n75 : Int} {st s1 : St} (h1 : binA E0 .neq 9 (str w9) (str w11) = some FF) (h2 : binA E0 .neq 3 (i64 n10) (i64 n12) = some FF) (h3 : obC 11 [v13, v15] st TT s1) (h4 : binA E0 .neq 3 (i64 n14) (i64 n16) = some FF) (h5 : lenA E0 32 v17 = some (i64 n73)) (h6 : lenA E0 32 v18 = some (i64 n75)) (h7 : binA E0 .neq 3 (i64 n73) (i64 n75) = some FF) {T : Tm} (hT : f3L6 T v1 v2 v7 v8 (str w9) (i64 n10) (str w11) (i64 n12) v13 (i64 n14) v15 (i64 n16) v17 v18) : AW Tryz.prog (f3P 7) (fun ex T' st' => ex = .normal ∧ f3L8 T' v1 v2 v7 v8 v13 v17 v18 ∧ st' = s1) T st := by
  obtain ⟨hn, g1, g2, g7, g8, g9, g10, g11, g12, g13, g14, g15, g16, g17, g18⟩ := hT
  exact (gen_run (G := fun T => ([T.get 1, T.get 2, T.get 7, T.get 8, T.get 13, T.get 17, T.get 18] : List AV)) hE (f3_7_FFTFF_e v1 v2 v7 v8 v13 v15 v17 v18 w9 w11 n10 n12 n14 n16 n73 n75 st s1) (Ob.ok_cons.2 ⟨h1, (Ob.ok_cons.2 ⟨h2, (Ob.ok_cons.2 ⟨h3, (Ob.ok_cons.2 ⟨h4, (Ob.ok_cons.2 ⟨h5, (Ob.ok_cons.2 ⟨h6, (Ob.ok_cons.2 ⟨h7, Ob.ok_nil⟩)⟩)⟩)⟩)⟩)⟩)⟩) hn (conz g1 (conz g2 (conz g7 (conz g8 (conz g9 (conz g10 (conz g11 (conz g12 (conz g13 (conz g14 (conz g15 (conz g16 (conz g17 (one g18))))))))))))))).mono fun ex T' st' ⟨q1, q2, q3, q4⟩ => by simp only [List.cons.injEq, and_true] at q3; exact ⟨q1, ⟨q2, q3⟩, q4⟩
theorem f3_7_FFF_e (v1 v2 v7 v8 v13 v15 v17 v18 : AV) (w9 w11 : ByteArray) (n10 n12 n14 n16 : Int) (st s1 : St) : ((evS Tryz.prog E0 noOv noS 100000 [6011, 7054, 7058, 7069, 7073, 7075, 7076] (f3P 7) ⟨135, [(1, v1), (2, v2), (7, v7), (8, v8), (9, (str w9)), (10, (i64 n10)), (11, (str w11)), (12, (i64 n12)), (13, v13), (14, (i64 n14)), (15, v15), (16, (i64 n16)), (17, v17), (18, v18)], []⟩ st [.av FF, .av FF, .eff FF (fun _ => s1)]).map fun q => (q.1, q.2.1.n, ([q.2.1.get 6] : List AV), q.2.2.1, q.2.2.2.2)) = some (.ret, 135, [FF], s1, [binA E0 .neq 9 (str w9) (str w11) = some FF, binA E0 .neq 3 (i64 n10) (i64 n12) = some FF, obC 11 [v13, v15] st FF s1]) := by kernel_rfl
theorem f3_7_FFF {v1 v2 v7 v8 v13 v15 v17 v18 : AV} {w9 w11 : ByteArray} {n10 n12 n14 n16 : Int} {st s1 : St} (h1 : binA E0 .neq 9 (str w9) (str w11) = some FF) (h2 : binA E0 .neq 3 (i64 n10) (i64 n12) = some FF) (h3 : obC 11 [v13, v15] st FF s1) {T : Tm} (hT : f3L6 T v1 v2 v7 v8 (str w9) (i64 n10) (str w11) (i64 n12) v13 (i64 n14) v15 (i64 n16) v17 v18) : AW Tryz.prog (f3P 7) (fun ex T' st' => ex = .ret ∧ f3L7 T' FF ∧ st' = s1) T st := by
  obtain ⟨hn, g1, g2, g7, g8, g9, g10, g11, g12, g13, g14, g15, g16, g17, g18⟩ := hT
  exact (gen_run (G := fun T => ([T.get 6] : List AV)) hE (f3_7_FFF_e v1 v2 v7 v8 v13 v15 v17 v18 w9 w11 n10 n12 n14 n16 st s1) (Ob.ok_cons.2 ⟨h1, (Ob.ok_cons.2 ⟨h2, (Ob.ok_cons.2 ⟨h3, Ob.ok_nil⟩)⟩)⟩) hn (conz g1 (conz g2 (conz g7 (conz g8 (conz g9 (conz g10 (conz g11 (conz g12 (conz g13 (conz g14 (conz g15 (conz g16 (conz g17 (one g18))))))))))))))).mono fun ex T' st' ⟨q1, q2, q3, q4⟩ => by simp only [List.cons.injEq, and_true] at q3; exact ⟨q1, ⟨q2, q3⟩, q4⟩
def f3L9 (T : Tm) (a1 a2 a7 a8 a13 a17 a18 a79 a80 : AV) : Prop := T.n = 135 ∧ T.get 1 = a1 ∧ T.get 2 = a2 ∧ T.get 7 = a7 ∧ T.get 8 = a8 ∧ T.get 13 = a13 ∧ T.get 17 = a17 ∧ T.get 18 = a18 ∧ T.get 79 = a79 ∧ T.get 80 = a80
theorem f3_8_e (v1 v2 v7 v8 v13 v17 v18 : AV) (st : St) (n79 : Int) : ((evS Tryz.prog E0 noOv noS 100000 [7079] (f3P 8) ⟨135, [(1, v1), (2, v2), (7, v7), (8, v8), (13, v13), (17, v17), (18, v18)], []⟩ st [.av (i64 n79)]).map fun q => (q.1, q.2.1.n, ([q.2.1.get 1, q.2.1.get 2, q.2.1.get 7, q.2.1.get 8, q.2.1.get 13, q.2.1.get 17, q.2.1.get 18, q.2.1.get 79, q.2.1.get 80] : List AV), q.2.2.1, q.2.2.2.2)) = some (.normal, 135, [v1, v2, v7, v8, v13, v17, v18, (i64 n79), (i64 0)], st, [lenA E0 32 v17 = some (i64 n79)]) := by kernel_rfl
theorem f3_8 {v1 v2 v7 v8 v13 v17 v18 : AV} {st : St} {n79 : Int} (h1 : lenA E0 32 v17 = some (i64 n79)) {T : Tm} (hT : f3L8 T v1 v2 v7 v8 v13 v17 v18) : AW Tryz.prog (f3P 8) (fun ex T' st' => ex = .normal ∧ f3L9 T' v1 v2 v7 v8 v13 v17 v18 (i64 n79) (i64 0) ∧ st' = st) T st := by
  obtain ⟨hn, g1, g2, g7, g8, g13, g17, g18⟩ := hT
  exact (gen_run (G := fun T => ([T.get 1, T.get 2, T.get 7, T.get 8, T.get 13, T.get 17, T.get 18, T.get 79, T.get 80] : List AV)) hE (f3_8_e v1 v2 v7 v8 v13 v17 v18 st n79) (Ob.ok_cons.2 ⟨h1, Ob.ok_nil⟩) hn (conz g1 (conz g2 (conz g7 (conz g8 (conz g13 (conz g17 (one g18)))))))).mono fun ex T' st' ⟨q1, q2, q3, q4⟩ => by simp only [List.cons.injEq, and_true] at q3; exact ⟨q1, ⟨q2, q3⟩, q4⟩
def f3L10 (T : Tm) (a1 a2 a7 a8 a13 a17 a18 a79 a80 a81 : AV) : Prop := T.n = 135 ∧ T.get 1 = a1 ∧ T.get 2 = a2 ∧ T.get 7 = a7 ∧ T.get 8 = a8 ∧ T.get 13 = a13 ∧ T.get 17 = a17 ∧ T.get 18 = a18 ∧ T.get 79 = a79 ∧ T.get 80 = a80 ∧ T.get 81 = a81
theorem f3_9_T_e (v1 v2 v7 v8 v13 v17 v18 : AV) (n79 n80 : Int) (st : St) : ((evS Tryz.prog E0 noOv noS 100000 [7081] (f3P 9) ⟨135, [(1, v1), (2, v2), (7, v7), (8, v8), (13, v13), (17, v17), (18, v18), (79, (i64 n79)), (80, (i64 n80))], []⟩ st [.av TT]).map fun q => (q.1, q.2.1.n, ([q.2.1.get 1, q.2.1.get 2, q.2.1.get 7, q.2.1.get 8, q.2.1.get 13, q.2.1.get 17, q.2.1.get 18, q.2.1.get 79, q.2.1.get 80, q.2.1.get 81] : List AV), q.2.2.1, q.2.2.2.2)) = some (.normal, 135, [v1, v2, v7, v8, v13, v17, v18, (i64 n79), (i64 n80), TT], st, [binA E0 .lss 3 (i64 n80) (i64 n79) = some TT]) := by kernel_rfl
theorem f3_9_T {v1 v2 v7 v8 v13 v17 v18 : AV} {n79 n80 : Int} {st : St} (h1 : binA E0 .lss 3 (i64 n80) (i64 n79) = some TT) {T : Tm} (hT : f3L9 T v1 v2 v7 v8 v13 v17 v18 (i64 n79) (i64 n80)) : AW Tryz.prog (f3P 9) (fun ex T' st' => ex = .normal ∧ f3L10 T' v1 v2 v7 v8 v13 v17 v18 (i64 n79) (i64 n80) TT ∧ st' = st) T st := by
  obtain ⟨hn, g1, g2, g7, g8, g13, g17, g18, g79, g80⟩ := hT
  exact (gen_run (G := fun T => ([T.get 1, T.get 2, T.get 7, T.get 8, T.get 13, T.get 17, T.get 18, T.get 79, T.get 80, T.get 81] : List AV)) hE (f3_9_T_e v1 v2 v7 v8 v13 v17 v18 n79 n80 st) (Ob.ok_cons.2 ⟨h1, Ob.ok_nil⟩) hn (conz g1 (conz g2 (conz g7 (conz g8 (conz g13 (conz g17 (conz g18 (conz g79 (one g80)))))))))).mono fun ex T' st' ⟨q1, q2, q3, q4⟩ => by simp only [List.cons.injEq, and_true] at q3; exact ⟨q1, ⟨q2, q3⟩, q4⟩
theorem f3_9_F_e (v1 v2 v7 v8 v13 v17 v18 : AV) (n79 n80 : Int) (st : St) : ((evS Tryz.prog E0 noOv noS 100000 [7081] (f3P 9) ⟨135, [(1, v1), (2, v2), (7, v7), (8, v8), (13, v13), (17, v17), (18, v18), (79, (i64 n79)), (80, (i64 n80))], []⟩ st [.av FF]).map fun q => (q.1, q.2.1.n, ([q.2.1.get 1, q.2.1.get 2, q.2.1.get 7, q.2.1.get 8, q.2.1.get 13, q.2.1.get 17, q.2.1.get 18, q.2.1.get 79, q.2.1.get 80, q.2.1.get 81] : List AV), q.2.2.1, q.2.2.2.2)) = some (.normal, 135, [v1, v2, v7, v8, v13, v17, v18, (i64 n79), (i64 n80), FF], st, [binA E0 .lss 3 (i64 n80) (i64 n79) = some FF]) := by kernel_rfl
theorem f3_9_F {v1 v2 v7 v8 v13 v17 v18 : AV} {n79 n80 : Int} {st : St} (h1 : binA E0 .lss 3 (i64 n80) (i64 n79) = some FF) {T : Tm} (hT : f3L9 T v1 v2 v7 v8 v13 v17 v18 (i64 n79) (i64 n80)) : AW Tryz.prog (f3P 9) (fun ex T' st' => ex = .normal ∧ f3L10 T' v1 v2 v7 v8 v13 v17 v18 (i64 n79) (i64 n80) FF ∧ st' = st) T st := by
  obtain ⟨hn, g1, g2, g7, g8, g13, g17, g18, g79, g80⟩ := hT
  exact (gen_run (G := fun T => ([T.get 1, T.get 2, T.get 7, T.get 8, T.get 13, T.get 17, T.get 18, T.get 79, T.get 80, T.get 81] : List AV)) hE (f3_9_F_e v1 v2 v7 v8 v13 v17 v18 n79 n80 st) (Ob.ok_cons.2 ⟨h1, Ob.ok_nil⟩) hn (conz g1 (conz g2 (conz g7 (conz g8 (conz g13 (conz g17 (conz g18 (conz g79 (one g80)))))))))).mono fun ex T' st' ⟨q1, q2, q3, q4⟩ => by simp only [List.cons.injEq, and_true] at q3; exact ⟨q1, ⟨q2, q3⟩, q4⟩
theorem f3_10_T_e (v1 v2 v7 v8 v13 v17 v18 : AV) (n79 n80 : Int) (st : St) : ((evS Tryz.prog E0 noOv noS 100000 [] (f3P 10) ⟨135, [(1, v1), (2, v2), (7, v7), (8, v8), (13, v13), (17, v17), (18, v18), (79, (i64 n79)), (80, (i64 n80)), (81, TT)], []⟩ st []).map fun q => (q.1, q.2.1.n, ([q.2.1.get 1, q.2.1.get 2, q.2.1.get 7, q.2.1.get 8, q.2.1.get 13, q.2.1.get 17, q.2.1.get 18, q.2.1.get 79, q.2.1.get 80] : List AV), q.2.2.1, q.2.2.2.2)) = some (.normal, 135, [v1, v2, v7, v8, v13, v17, v18, (i64 n79), (i64 n80)], st, []) := by kernel_rfl
theorem f3_10_T {v1 v2 v7 v8 v13 v17 v18 : AV} {n79 n80 : Int} {st : St}  {T : Tm} (hT : f3L10 T v1 v2 v7 v8 v13 v17 v18 (i64 n79) (i64 n80) TT) : AW Tryz.prog (f3P 10) (fun ex T' st' => ex = .normal ∧ f3L9 T' v1 v2 v7 v8 v13 v17 v18 (i64 n79) (i64 n80) ∧ st' = st) T st := by
  obtain ⟨hn, g1, g2, g7, g8, g13, g17, g18, g79, g80, g81⟩ := hT
  exact (gen_run (G := fun T => ([T.get 1, T.get 2, T.get 7, T.get 8, T.get 13, T.get 17, T.get 18, T.get 79, T.get 80] : List AV)) hE (f3_10_T_e v1 v2 v7 v8 v13 v17 v18 n79 n80 st) Ob.ok_nil hn (conz g1 (conz g2 (conz g7 (conz g8 (conz g13 (conz g17 (conz g18 (conz g79 (conz g80 (one g81))))))))))).mono fun ex T' st' ⟨q1, q2, q3, q4⟩ => by simp only [List.cons.injEq, and_true] at q3; exact ⟨q1, ⟨q2, q3⟩, q4⟩
def f3L11 (T : Tm) (a1 a2 a7 a8 a13 : AV) : Prop := T.n = 135 ∧ T.get 1 = a1 ∧ T.get 2 = a2 ∧ T.get 7 = a7 ∧ T.get 8 = a8 ∧ T.get 13 = a13
theorem f3_10_F_e (v1 v2 v7 v8 v13 v17 v18 : AV) (n79 n80 : Int) (st : St) : ((evS Tryz.prog E0 noOv noS 100000 [] (f3P 10) ⟨135, [(1, v1), (2, v2), (7, v7), (8, v8), (13, v13), (17, v17), (18, v18), (79, (i64 n79)), (80, (i64 n80)), (81, FF)], []⟩ st []).map fun q => (q.1, q.2.1.n, ([q.2.1.get 1, q.2.1.get 2, q.2.1.get 7, q.2.1.get 8, q.2.1.get 13] : List AV), q.2.2.1, q.2.2.2.2)) = some ((.exit 0), 135, [v1, v2, v7, v8, v13], st, []) := by kernel_rfl
theorem f3_10_F {v1 v2 v7 v8 v13 v17 v18 : AV} {n79 n80 : Int} {st : St}  {T : Tm} (hT : f3L10 T v1 v2 v7 v8 v13 v17 v18 (i64 n79) (i64 n80) FF) : AW Tryz.prog (f3P 10) (fun ex T' st' => ex = (.exit 0) ∧ f3L11 T' v1 v2 v7 v8 v13 ∧ st' = st) T st := by
  obtain ⟨hn, g1, g2, g7, g8, g13, g17, g18, g79, g80, g81⟩ := hT
  exact (gen_run (G := fun T => ([T.get 1, T.get 2, T.get 7, T.get 8, T.get 13] : List AV)) hE (f3_10_F_e v1 v2 v7 v8 v13 v17 v18 n79 n80 st) Ob.ok_nil hn (conz g1 (conz g2 (conz g7 (conz g8 (conz g13 (conz g17 (conz g18 (conz g79 (conz g80 (one g81))))))))))).mono fun ex T' st' ⟨q1, q2, q3, q4⟩ => by simp only [List.cons.injEq, and_true] at q3; exact ⟨q1, ⟨q2, q3⟩, q4⟩
def f3L12 (T : Tm) (a1 a2 a7 a8 a13 a17 a18 a19 a79 a80 : AV) : Prop := T.n = 135 ∧ T.get 1 = a1 ∧ T.get 2 = a2 ∧ T.get 7 = a7 ∧ T.get 8 = a8 ∧ T.get 13 = a13 ∧ T.get 17 = a17 ∧ T.get 18 = a18 ∧ T.get 19 = a19 ∧ T.get 79 = a79 ∧ T.get 80 = a80
theorem f3_11_e (v1 v2 v7 v8 v13 v17 v18 : AV) (n79 n80 : Int) (st : St) : ((evS Tryz.prog E0 noOv noS 100000 [] (f3P 11) ⟨135, [(1, v1), (2, v2), (7, v7), (8, v8), (13, v13), (17, v17), (18, v18), (79, (i64 n79)), (80, (i64 n80))], []⟩ st []).map fun q => (q.1, q.2.1.n, ([q.2.1.get 1, q.2.1.get 2, q.2.1.get 7, q.2.1.get 8, q.2.1.get 13, q.2.1.get 17, q.2.1.get 18, q.2.1.get 19, q.2.1.get 79, q.2.1.get 80] : List AV), q.2.2.1, q.2.2.2.2)) = some (.normal, 135, [v1, v2, v7, v8, v13, v17, v18, (i64 n80), (i64 n79), (i64 n80)], st, []) := by kernel_rfl
theorem f3_11 {v1 v2 v7 v8 v13 v17 v18 : AV} {n79 n80 : Int} {st : St}  {T : Tm} (hT : f3L9 T v1 v2 v7 v8 v13 v17 v18 (i64 n79) (i64 n80)) : AW Tryz.prog (f3P 11) (fun ex T' st' => ex = .normal ∧ f3L12 T' v1 v2 v7 v8 v13 v17 v18 (i64 n80) (i64 n79) (i64 n80) ∧ st' = st) T st := by
  obtain ⟨hn, g1, g2, g7, g8, g13, g17, g18, g79, g80⟩ := hT
  exact (gen_run (G := fun T => ([T.get 1, T.get 2, T.get 7, T.get 8, T.get 13, T.get 17, T.get 18, T.get 19, T.get 79, T.get 80] : List AV)) hE (f3_11_e v1 v2 v7 v8 v13 v17 v18 n79 n80 st) Ob.ok_nil hn (conz g1 (conz g2 (conz g7 (conz g8 (conz g13 (conz g17 (conz g18 (conz g79 (one g80)))))))))).mono fun ex T' st' ⟨q1, q2, q3, q4⟩ => by simp only [List.cons.injEq, and_true] at q3; exact ⟨q1, ⟨q2, q3⟩, q4⟩
theorem f3_12_T_e (v1 v2 v7 v8 v13 v17 v18 v86 v90 : AV) (n19 n79 n80 : Int) (st s1 : St) (p85 o85 p89 o89 : Nat) : ((evS Tryz.prog E0 noOv noS 100000 [6011, 7085, 7089, 8000] (f3P 12) ⟨135, [(1, v1), (2, v2), (7, v7), (8, v8), (13, v13), (17, v17), (18, v18), (19, (i64 n19)), (79, (i64 n79)), (80, (i64 n80))], []⟩ st [.eff (.ptr p85 o85) id, .eff v86 id, .eff (.ptr p89 o89) id, .eff v90 id, .eff TT (fun _ => s1)]).map fun q => (q.1, q.2.1.n, ([q.2.1.get 1, q.2.1.get 2, q.2.1.get 7, q.2.1.get 8, q.2.1.get 13, q.2.1.get 17, q.2.1.get 18, q.2.1.get 19, q.2.1.get 79, q.2.1.get 80] : List AV), q.2.2.1, q.2.2.2.2)) = some (.normal, 135, [v1, v2, v7, v8, v13, v17, v18, (i64 n19), (i64 n79), (i64 n80)], s1, [∀ k ∈ [p85, p89], k < st.next, indexAddrA E0 32 v17 (i64 n19) = some (.ptr p85 o85), [p85, p89].contains p85 = true ∧ loadA E0 st 22 (.ptr p85 o85) = some v86, indexAddrA E0 32 v18 (i64 n19) = some (.ptr p89 o89), [p85, p89].contains p89 = true ∧ loadA E0 st 22 (.ptr p89 o89) = some v90, (false = true → [p85, p89].all (fun k => (st.get k).isSome) = true), obC 11 [v86, v90] st TT s1]) := by kernel_rfl
theorem f3_12_T {v1 v2 v7 v8 v13 v17 v18 v86 v90 : AV} {n19 n79 n80 : Int} {st s1 : St} {p85 o85 p89 o89 : Nat} (h1 : ∀ k ∈ [p85, p89], k < st.next) (h2 : indexAddrA E0 32 v17 (i64 n19) = some (.ptr p85 o85)) (h3 : loadA E0 st 22 (.ptr p85 o85) = some v86) (h4 : indexAddrA E0 32 v18 (i64 n19) = some (.ptr p89 o89)) (h5 : loadA E0 st 22 (.ptr p89 o89) = some v90) (h6 : obC 11 [v86, v90] st TT s1) {T : Tm} (hT : f3L12 T v1 v2 v7 v8 v13 v17 v18 (i64 n19) (i64 n79) (i64 n80)) : AW Tryz.prog (f3P 12) (fun ex T' st' => ex = .normal ∧ f3L12 T' v1 v2 v7 v8 v13 v17 v18 (i64 n19) (i64 n79) (i64 n80) ∧ st' = s1) T st := by
  obtain ⟨hn, g1, g2, g7, g8, g13, g17, g18, g19, g79, g80⟩ := hT
  exact (gen_run (G := fun T => ([T.get 1, T.get 2, T.get 7, T.get 8, T.get 13, T.get 17, T.get 18, T.get 19, T.get 79, T.get 80] : List AV)) hE (f3_12_T_e v1 v2 v7 v8 v13 v17 v18 v86 v90 n19 n79 n80 st s1 p85 o85 p89 o89) (Ob.ok_cons.2 ⟨h1, (Ob.ok_cons.2 ⟨h2, (Ob.ok_cons.2 ⟨⟨by simp, h3⟩, (Ob.ok_cons.2 ⟨h4, (Ob.ok_cons.2 ⟨⟨by simp, h5⟩, (Ob.ok_cons.2 ⟨(fun h => by cases h), (Ob.ok_cons.2 ⟨h6, Ob.ok_nil⟩)⟩)⟩)⟩)⟩)⟩)⟩) hn (conz g1 (conz g2 (conz g7 (conz g8 (conz g13 (conz g17 (conz g18 (conz g19 (conz g79 (one g80))))))))))).mono fun ex T' st' ⟨q1, q2, q3, q4⟩ => by simp only [List.cons.injEq, and_true] at q3; exact ⟨q1, ⟨q2, q3⟩, q4⟩
theorem f3_12_F_e (v1 v2 v7 v8 v13 v17 v18 v86 v90 : AV) (n19 n79 n80 : Int) (st s1 : St) (p85 o85 p89 o89 : Nat) : ((evS Tryz.prog E0 noOv noS 100000 [6011, 7085, 7089, 8000] (f3P 12) ⟨135, [(1, v1), (2, v2), (7, v7), (8, v8), (13, v13), (17, v17), (18, v18), (19, (i64 n19)), (79, (i64 n79)), (80, (i64 n80))], []⟩ st [.eff (.ptr p85 o85) id, .eff v86 id, .eff (.ptr p89 o89) id, .eff v90 id, .eff FF (fun _ => s1)]).map fun q => (q.1, q.2.1.n, ([q.2.1.get 6] : List AV), q.2.2.1, q.2.2.2.2)) = some (.ret, 135, [FF], s1, [∀ k ∈ [p85, p89], k < st.next, indexAddrA E0 32 v17 (i64 n19) = some (.ptr p85 o85), [p85, p89].contains p85 = true ∧ loadA E0 st 22 (.ptr p85 o85) = some v86, indexAddrA E0 32 v18 (i64 n19) = some (.ptr p89 o89), [p85, p89].contains p89 = true ∧ loadA E0 st 22 (.ptr p89 o89) = some v90, (false = true → [p85, p89].all (fun k => (st.get k).isSome) = true), obC 11 [v86, v90] st FF s1]) := by kernel_rfl
theorem f3_12_F {v1 v2 v7 v8 v13 v17 v18 v86 v90 : AV} {n19 n79 n80 : Int} {st s1 : St} {p85 o85 p89 o89 : Nat} (h1 : ∀ k ∈ [p85, p89], k < st.next) (h2 : indexAddrA E0 32 v17 (i64 n19) = some (.ptr p85 o85)) (h3 : loadA E0 st 22 (.ptr p85 o85) = some v86) (h4 : indexAddrA E0 32 v18 (i64 n19) = some (.ptr p89 o89)) (h5 : loadA E0 st 22 (.ptr p89 o89) = some v90) (h6 : obC 11 [v86, v90] st FF s1) {T : Tm} (hT : f3L12 T v1 v2 v7 v8 v13 v17 v18 (i64 n19) (i64 n79) (i64 n80)) : AW Tryz.prog (f3P 12) (fun ex T' st' => ex = .ret ∧ f3L7 T' FF ∧ st' = s1) T st := by
  obtain ⟨hn, g1, g2, g7, g8, g13, g17, g18, g19, g79, g80⟩ := hT
  exact (gen_run (G := fun T => ([T.get 6] : List AV)) hE (f3_12_F_e v1 v2 v7 v8 v13 v17 v18 v86 v90 n19 n79 n80 st s1 p85 o85 p89 o89) (Ob.ok_cons.2 ⟨h1, (Ob.ok_cons.2 ⟨h2, (Ob.ok_cons.2 ⟨⟨by simp, h3⟩, (Ob.ok_cons.2 ⟨h4, (Ob.ok_cons.2 ⟨⟨by simp, h5⟩, (Ob.ok_cons.2 ⟨(fun h => by cases h), (Ob.ok_cons.2 ⟨h6, Ob.ok_nil⟩)⟩)⟩)⟩)⟩)⟩)⟩) hn (conz g1 (conz g2 (conz g7 (conz g8 (conz g13 (conz g17 (conz g18 (conz g19 (conz g79 (one g80))))))))))).mono fun ex T' st' ⟨q1, q2, q3, q4⟩ => by simp only [List.cons.injEq, and_true] at q3; exact ⟨q1, ⟨q2, q3⟩, q4⟩
def f3L13 (T : Tm) (a1 a2 a7 a8 a13 a17 a18 a19 a79 a80 a97 a98 : AV) : Prop := T.n = 135 ∧ T.get 1 = a1 ∧ T.get 2 = a2 ∧ T.get 7 = a7 ∧ T.get 8 = a8 ∧ T.get 13 = a13 ∧ T.get 17 = a17 ∧ T.get 18 = a18 ∧ T.get 19 = a19 ∧ T.get 79 = a79 ∧ T.get 80 = a80 ∧ T.get 97 = a97 ∧ T.get 98 = a98
theorem f3_13_e (v1 v2 v7 v8 v13 v17 v18 q95 v96 : AV) (n19 n79 n80 n97 : Int) (st : St) : ((evS Tryz.prog E0 noOv noS 100000 [2096, 7095, 7097] (f3P 13) ⟨135, [(1, v1), (2, v2), (7, v7), (8, v8), (13, v13), (17, v17), (18, v18), (19, (i64 n19)), (79, (i64 n79)), (80, (i64 n80))], []⟩ st [.av q95, .eff v96 id, .av (i64 n97)]).map fun q => (q.1, q.2.1.n, ([q.2.1.get 1, q.2.1.get 2, q.2.1.get 7, q.2.1.get 8, q.2.1.get 13, q.2.1.get 17, q.2.1.get 18, q.2.1.get 19, q.2.1.get 79, q.2.1.get 80, q.2.1.get 97, q.2.1.get 98] : List AV), q.2.2.1, q.2.2.2.2)) = some (.normal, 135, [v1, v2, v7, v8, v13, v17, v18, (i64 n19), (i64 n79), (i64 n80), (i64 n97), (i64 0)], st, [indexAddrA E0 32 v17 (i64 n19) = some q95, loadA E0 st 22 q95 = some v96 ∧ st = st, lenA E0 22 v96 = some (i64 n97)]) := by kernel_rfl
theorem f3_13 {v1 v2 v7 v8 v13 v17 v18 q95 v96 : AV} {n19 n79 n80 n97 : Int} {st : St} (h1 : indexAddrA E0 32 v17 (i64 n19) = some q95) (h2 : loadA E0 st 22 q95 = some v96) (h3 : lenA E0 22 v96 = some (i64 n97)) {T : Tm} (hT : f3L12 T v1 v2 v7 v8 v13 v17 v18 (i64 n19) (i64 n79) (i64 n80)) : AW Tryz.prog (f3P 13) (fun ex T' st' => ex = .normal ∧ f3L13 T' v1 v2 v7 v8 v13 v17 v18 (i64 n19) (i64 n79) (i64 n80) (i64 n97) (i64 0) ∧ st' = st) T st := by
  obtain ⟨hn, g1, g2, g7, g8, g13, g17, g18, g19, g79, g80⟩ := hT
  exact (gen_run (G := fun T => ([T.get 1, T.get 2, T.get 7, T.get 8, T.get 13, T.get 17, T.get 18, T.get 19, T.get 79, T.get 80, T.get 97, T.get 98] : List AV)) hE (f3_13_e v1 v2 v7 v8 v13 v17 v18 q95 v96 n19 n79 n80 n97 st) (Ob.ok_cons.2 ⟨h1, (Ob.ok_cons.2 ⟨⟨h2, rfl⟩, (Ob.ok_cons.2 ⟨h3, Ob.ok_nil⟩)⟩)⟩) hn (conz g1 (conz g2 (conz g7 (conz g8 (conz g13 (conz g17 (conz g18 (conz g19 (conz g79 (one g80))))))))))).mono fun ex T' st' ⟨q1, q2, q3, q4⟩ => by simp only [List.cons.injEq, and_true] at q3; exact ⟨q1, ⟨q2, q3⟩, q4⟩
theorem f3_14_T_e (v1 v2 v7 v8 v13 v17 v18 q103 v104 q106 q109 : AV) (n19 n79 n80 n97 n98 n107 n108 n110 : Int) (st s1 : St) : ((evS Tryz.prog E0 noOv noS 100000 [2104, 2107, 5000, 7099, 7103, 7106, 7108, 7109, 7110] (f3P 14) ⟨135, [(1, v1), (2, v2), (7, v7), (8, v8), (13, v13), (17, v17), (18, v18), (19, (i64 n19)), (79, (i64 n79)), (80, (i64 n80)), (97, (i64 n97)), (98, (i64 n98))], []⟩ st [.av TT, .av q103, .eff v104 id, .av q106, .eff (u8 n107) id, .av (u8 n108), .av q109, .eff .undef (fun _ => s1), .av (i64 n110)]).map fun q => (q.1, q.2.1.n, ([q.2.1.get 1, q.2.1.get 2, q.2.1.get 7, q.2.1.get 8, q.2.1.get 13, q.2.1.get 17, q.2.1.get 18, q.2.1.get 19, q.2.1.get 79, q.2.1.get 80, q.2.1.get 97, q.2.1.get 98] : List AV), q.2.2.1, q.2.2.2.2)) = some (.normal, 135, [v1, v2, v7, v8, v13, v17, v18, (i64 n19), (i64 n79), (i64 n80), (i64 n97), (i64 n110)], s1, [binA E0 .lss 3 (i64 n98) (i64 n97) = some TT, indexAddrA E0 32 v17 (i64 n19) = some q103, loadA E0 st 22 q103 = some v104 ∧ st = st, indexAddrA E0 22 v104 (i64 n98) = some q106, loadA E0 st 5 q106 = some (u8 n107) ∧ st = st, binA E0 .xor 5 (u8 n107) (u8 255) = some (u8 n108), indexAddrA E0 22 v104 (i64 n98) = some q109, storeA E0 st 5 q109 (u8 n108) = some s1, binA E0 .add 3 (i64 n98) (i64 1) = some (i64 n110)]) := by kernel_rfl
theorem f3_14_T {v1 v2 v7 v8 v13 v17 v18 q103 v104 q106 q109 : AV} {n19 n79 n80 n97 n98 n107 n108 n110 : Int} {st s1 : St} (h1 : binA E0 .lss 3 (i64 n98) (i64 n97) = some TT) (h2 : indexAddrA E0 32 v17 (i64 n19) = some q103) (h3 : loadA E0 st 22 q103 = some v104) (h4 : indexAddrA E0 22 v104 (i64 n98) = some q106) (h5 : loadA E0 st 5 q106 = some (u8 n107)) (h6 : binA E0 .xor 5 (u8 n107) (u8 255) = some (u8 n108)) (h7 : indexAddrA E0 22 v104 (i64 n98) = some q109) (h8 : storeA E0 st 5 q109 (u8 n108) = some s1) (h9 : binA E0 .add 3 (i64 n98) (i64 1) = some (i64 n110)) {T : Tm} (hT : f3L13 T v1 v2 v7 v8 v13 v17 v18 (i64 n19) (i64 n79) (i64 n80) (i64 n97) (i64 n98)) : AW Tryz.prog (f3P 14) (fun ex T' st' => ex = .normal ∧ f3L13 T' v1 v2 v7 v8 v13 v17 v18 (i64 n19) (i64 n79) (i64 n80) (i64 n97) (i64 n110) ∧ st' = s1) T st := by
  obtain ⟨hn, g1, g2, g7, g8, g13, g17, g18, g19, g79, g80, g97, g98⟩ := hT
  exact (gen_run (G := fun T => ([T.get 1, T.get 2, T.get 7, T.get 8, T.get 13, T.get 17, T.get 18, T.get 19, T.get 79, T.get 80, T.get 97, T.get 98] : List AV)) hE (f3_14_T_e v1 v2 v7 v8 v13 v17 v18 q103 v104 q106 q109 n19 n79 n80 n97 n98 n107 n108 n110 st s1) (Ob.ok_cons.2 ⟨h1, (Ob.ok_cons.2 ⟨h2, (Ob.ok_cons.2 ⟨⟨h3, rfl⟩, (Ob.ok_cons.2 ⟨h4, (Ob.ok_cons.2 ⟨⟨h5, rfl⟩, (Ob.ok_cons.2 ⟨h6, (Ob.ok_cons.2 ⟨h7, (Ob.ok_cons.2 ⟨h8, (Ob.ok_cons.2 ⟨h9, Ob.ok_nil⟩)⟩)⟩)⟩)⟩)⟩)⟩)⟩)⟩) hn (conz g1 (conz g2 (conz g7 (conz g8 (conz g13 (conz g17 (conz g18 (conz g19 (conz g79 (conz g80 (conz g97 (one g98))))))))))))).mono fun ex T' st' ⟨q1, q2, q3, q4⟩ => by simp only [List.cons.injEq, and_true] at q3; exact ⟨q1, ⟨q2, q3⟩, q4⟩
theorem f3_14_F_e (v1 v2 v7 v8 v13 v17 v18 : AV) (n19 n79 n80 n97 n98 : Int) (st : St) : ((evS Tryz.prog E0 noOv noS 100000 [2104, 2107, 5000, 7099, 7103, 7106, 7108, 7109, 7110] (f3P 14) ⟨135, [(1, v1), (2, v2), (7, v7), (8, v8), (13, v13), (17, v17), (18, v18), (19, (i64 n19)), (79, (i64 n79)), (80, (i64 n80)), (97, (i64 n97)), (98, (i64 n98))], []⟩ st [.av FF]).map fun q => (q.1, q.2.1.n, ([q.2.1.get 1, q.2.1.get 2, q.2.1.get 7, q.2.1.get 8, q.2.1.get 13, q.2.1.get 17, q.2.1.get 18, q.2.1.get 79, q.2.1.get 80] : List AV), q.2.2.1, q.2.2.2.2)) = some ((.exit 2), 135, [v1, v2, v7, v8, v13, v17, v18, (i64 n79), (i64 n80)], st, [binA E0 .lss 3 (i64 n98) (i64 n97) = some FF]) := by kernel_rfl
theorem f3_14_F {v1 v2 v7 v8 v13 v17 v18 : AV} {n19 n79 n80 n97 n98 : Int} {st : St} (h1 : binA E0 .lss 3 (i64 n98) (i64 n97) = some FF) {T : Tm} (hT : f3L13 T v1 v2 v7 v8 v13 v17 v18 (i64 n19) (i64 n79) (i64 n80) (i64 n97) (i64 n98)) : AW Tryz.prog (f3P 14) (fun ex T' st' => ex = (.exit 2) ∧ f3L9 T' v1 v2 v7 v8 v13 v17 v18 (i64 n79) (i64 n80) ∧ st' = st) T st := by
  obtain ⟨hn, g1, g2, g7, g8, g13, g17, g18, g19, g79, g80, g97, g98⟩ := hT
  exact (gen_run (G := fun T => ([T.get 1, T.get 2, T.get 7, T.get 8, T.get 13, T.get 17, T.get 18, T.get 79, T.get 80] : List AV)) hE (f3_14_F_e v1 v2 v7 v8 v13 v17 v18 n19 n79 n80 n97 n98 st) (Ob.ok_cons.2 ⟨h1, Ob.ok_nil⟩) hn (conz g1 (conz g2 (conz g7 (conz g8 (conz g13 (conz g17 (conz g18 (conz g19 (conz g79 (conz g80 (conz g97 (one g98))))))))))))).mono fun ex T' st' ⟨q1, q2, q3, q4⟩ => by simp only [List.cons.injEq, and_true] at q3; exact ⟨q1, ⟨q2, q3⟩, q4⟩
theorem f3_15_e (v1 v2 v7 v8 v13 v17 v18 : AV) (n79 n80 n111 : Int) (st : St) : ((evS Tryz.prog E0 noOv noS 100000 [7111] (f3P 15) ⟨135, [(1, v1), (2, v2), (7, v7), (8, v8), (13, v13), (17, v17), (18, v18), (79, (i64 n79)), (80, (i64 n80))], []⟩ st [.av (i64 n111)]).map fun q => (q.1, q.2.1.n, ([q.2.1.get 1, q.2.1.get 2, q.2.1.get 7, q.2.1.get 8, q.2.1.get 13, q.2.1.get 17, q.2.1.get 18, q.2.1.get 79, q.2.1.get 80] : List AV), q.2.2.1, q.2.2.2.2)) = some (.normal, 135, [v1, v2, v7, v8, v13, v17, v18, (i64 n79), (i64 n111)], st, [binA E0 .add 3 (i64 n80) (i64 1) = some (i64 n111)]) := by kernel_rfl
theorem f3_15 {v1 v2 v7 v8 v13 v17 v18 : AV} {n79 n80 n111 : Int} {st : St} (h1 : binA E0 .add 3 (i64 n80) (i64 1) = some (i64 n111)) {T : Tm} (hT : f3L9 T v1 v2 v7 v8 v13 v17 v18 (i64 n79) (i64 n80)) : AW Tryz.prog (f3P 15) (fun ex T' st' => ex = .normal ∧ f3L9 T' v1 v2 v7 v8 v13 v17 v18 (i64 n79) (i64 n111) ∧ st' = st) T st := by
  obtain ⟨hn, g1, g2, g7, g8, g13, g17, g18, g79, g80⟩ := hT
  exact (gen_run (G := fun T => ([T.get 1, T.get 2, T.get 7, T.get 8, T.get 13, T.get 17, T.get 18, T.get 79, T.get 80] : List AV)) hE (f3_15_e v1 v2 v7 v8 v13 v17 v18 n79 n80 n111 st) (Ob.ok_cons.2 ⟨h1, Ob.ok_nil⟩) hn (conz g1 (conz g2 (conz g7 (conz g8 (conz g13 (conz g17 (conz g18 (conz g79 (one g80)))))))))).mono fun ex T' st' ⟨q1, q2, q3, q4⟩ => by simp only [List.cons.injEq, and_true] at q3; exact ⟨q1, ⟨q2, q3⟩, q4⟩
def f3L14 (T : Tm) (a1 a2 a7 a8 a13 a113 a114 : AV) : Prop := T.n = 135 ∧ T.get 1 = a1 ∧ T.get 2 = a2 ∧ T.get 7 = a7 ∧ T.get 8 = a8 ∧ T.get 13 = a13 ∧ T.get 113 = a113 ∧ T.get 114 = a114
theorem f3_16_e (v1 v2 v7 v8 v13 : AV) (st : St) (n113 : Int) : ((evS Tryz.prog E0 noOv noS 100000 [7113] (f3P 16) ⟨135, [(1, v1), (2, v2), (7, v7), (8, v8), (13, v13)], []⟩ st [.av (i64 n113)]).map fun q => (q.1, q.2.1.n, ([q.2.1.get 1, q.2.1.get 2, q.2.1.get 7, q.2.1.get 8, q.2.1.get 13, q.2.1.get 113, q.2.1.get 114] : List AV), q.2.2.1, q.2.2.2.2)) = some (.normal, 135, [v1, v2, v7, v8, v13, (i64 n113), (i64 0)], st, [lenA E0 22 v13 = some (i64 n113)]) := by kernel_rfl
theorem f3_16 {v1 v2 v7 v8 v13 : AV} {st : St} {n113 : Int} (h1 : lenA E0 22 v13 = some (i64 n113)) {T : Tm} (hT : f3L11 T v1 v2 v7 v8 v13) : AW Tryz.prog (f3P 16) (fun ex T' st' => ex = .normal ∧ f3L14 T' v1 v2 v7 v8 v13 (i64 n113) (i64 0) ∧ st' = st) T st := by
  obtain ⟨hn, g1, g2, g7, g8, g13⟩ := hT
  exact (gen_run (G := fun T => ([T.get 1, T.get 2, T.get 7, T.get 8, T.get 13, T.get 113, T.get 114] : List AV)) hE (f3_16_e v1 v2 v7 v8 v13 st n113) (Ob.ok_cons.2 ⟨h1, Ob.ok_nil⟩) hn (conz g1 (conz g2 (conz g7 (conz g8 (one g13)))))).mono fun ex T' st' ⟨q1, q2, q3, q4⟩ => by simp only [List.cons.injEq, and_true] at q3; exact ⟨q1, ⟨q2, q3⟩, q4⟩
theorem f3_17_T_e (v1 v2 v7 v8 v13 q119 q122 : AV) (n113 n114 n120 n121 n123 : Int) (st s1 : St) : ((evS Tryz.prog E0 noOv noS 100000 [2120, 5000, 7115, 7119, 7121, 7122, 7123] (f3P 17) ⟨135, [(1, v1), (2, v2), (7, v7), (8, v8), (13, v13), (113, (i64 n113)), (114, (i64 n114))], []⟩ st [.av TT, .av q119, .eff (u8 n120) id, .av (u8 n121), .av q122, .eff .undef (fun _ => s1), .av (i64 n123)]).map fun q => (q.1, q.2.1.n, ([q.2.1.get 1, q.2.1.get 2, q.2.1.get 7, q.2.1.get 8, q.2.1.get 13, q.2.1.get 113, q.2.1.get 114] : List AV), q.2.2.1, q.2.2.2.2)) = some (.normal, 135, [v1, v2, v7, v8, v13, (i64 n113), (i64 n123)], s1, [binA E0 .lss 3 (i64 n114) (i64 n113) = some TT, indexAddrA E0 22 v13 (i64 n114) = some q119, loadA E0 st 5 q119 = some (u8 n120) ∧ st = st, binA E0 .xor 5 (u8 n120) (u8 255) = some (u8 n121), indexAddrA E0 22 v13 (i64 n114) = some q122, storeA E0 st 5 q122 (u8 n121) = some s1, binA E0 .add 3 (i64 n114) (i64 1) = some (i64 n123)]) := by kernel_rfl
theorem f3_17_T {v1 v2 v7 v8 v13 q119 q122 : AV} {n113 n114 n120 n121 n123 : Int} {st s1 : St} (h1 : binA E0 .lss 3 (i64 n114) (i64 n113) = some TT) (h2 : indexAddrA E0 22 v13 (i64 n114) = some q119) (h3 : loadA E0 st 5 q119 = some (u8 n120)) (h4 : binA E0 .xor 5 (u8 n120) (u8 255) = some (u8 n121)) (h5 : indexAddrA E0 22 v13 (i64 n114) = some q122) (h6 : storeA E0 st 5 q122 (u8 n121) = some s1) (h7 : binA E0 .add 3 (i64 n114) (i64 1) = some (i64 n123)) {T : Tm} (hT : f3L14 T v1 v2 v7 v8 v13 (i64 n113) (i64 n114)) : AW Tryz.prog (f3P 17) (fun ex T' st' => ex = .normal ∧ f3L14 T' v1 v2 v7 v8 v13 (i64 n113) (i64 n123) ∧ st' = s1) T st := by
  obtain ⟨hn, g1, g2, g7, g8, g13, g113, g114⟩ := hT
  exact (gen_run (G := fun T => ([T.get 1, T.get 2, T.get 7, T.get 8, T.get 13, T.get 113, T.get 114] : List AV)) hE (f3_17_T_e v1 v2 v7 v8 v13 q119 q122 n113 n114 n120 n121 n123 st s1) (Ob.ok_cons.2 ⟨h1, (Ob.ok_cons.2 ⟨h2, (Ob.ok_cons.2 ⟨⟨h3, rfl⟩, (Ob.ok_cons.2 ⟨h4, (Ob.ok_cons.2 ⟨h5, (Ob.ok_cons.2 ⟨h6, (Ob.ok_cons.2 ⟨h7, Ob.ok_nil⟩)⟩)⟩)⟩)⟩)⟩)⟩) hn (conz g1 (conz g2 (conz g7 (conz g8 (conz g13 (conz g113 (one g114)))))))).mono fun ex T' st' ⟨q1, q2, q3, q4⟩ => by simp only [List.cons.injEq, and_true] at q3; exact ⟨q1, ⟨q2, q3⟩, q4⟩
def f3L15 (T : Tm) (a1 a2 a7 a8 : AV) : Prop := T.n = 135 ∧ T.get 1 = a1 ∧ T.get 2 = a2 ∧ T.get 7 = a7 ∧ T.get 8 = a8
theorem f3_17_F_e (v1 v2 v7 v8 v13 : AV) (n113 n114 : Int) (st : St) : ((evS Tryz.prog E0 noOv noS 100000 [2120, 5000, 7115, 7119, 7121, 7122, 7123] (f3P 17) ⟨135, [(1, v1), (2, v2), (7, v7), (8, v8), (13, v13), (113, (i64 n113)), (114, (i64 n114))], []⟩ st [.av FF]).map fun q => (q.1, q.2.1.n, ([q.2.1.get 1, q.2.1.get 2, q.2.1.get 7, q.2.1.get 8] : List AV), q.2.2.1, q.2.2.2.2)) = some ((.exit 4), 135, [v1, v2, v7, v8], st, [binA E0 .lss 3 (i64 n114) (i64 n113) = some FF]) := by kernel_rfl
theorem f3_17_F {v1 v2 v7 v8 v13 : AV} {n113 n114 : Int} {st : St} (h1 : binA E0 .lss 3 (i64 n114) (i64 n113) = some FF) {T : Tm} (hT : f3L14 T v1 v2 v7 v8 v13 (i64 n113) (i64 n114)) : AW Tryz.prog (f3P 17) (fun ex T' st' => ex = (.exit 4) ∧ f3L15 T' v1 v2 v7 v8 ∧ st' = st) T st := by
  obtain ⟨hn, g1, g2, g7, g8, g13, g113, g114⟩ := hT
  exact (gen_run (G := fun T => ([T.get 1, T.get 2, T.get 7, T.get 8] : List AV)) hE (f3_17_F_e v1 v2 v7 v8 v13 n113 n114 st) (Ob.ok_cons.2 ⟨h1, Ob.ok_nil⟩) hn (conz g1 (conz g2 (conz g7 (conz g8 (conz g13 (conz g113 (one g114)))))))).mono fun ex T' st' ⟨q1, q2, q3, q4⟩ => by simp only [List.cons.injEq, and_true] at q3; exact ⟨q1, ⟨q2, q3⟩, q4⟩
theorem f3_18_TT_e (v1 v2 v7 v8 : AV) (st s1 s2 s3 : St) (b133 : Bool) : ((evS Tryz.prog E0 noOv noS 100000 [6011, 6012] (f3P 18) ⟨135, [(1, v1), (2, v2), (7, v7), (8, v8)], []⟩ st [.eff TT (fun _ => s1), .eff TT (fun _ => s2), .eff (bo b133) (fun _ => s3)]).map fun q => (q.1, q.2.1.n, ([q.2.1.get 6] : List AV), q.2.2.1, q.2.2.2.2)) = some (.ret, 135, [(bo b133)], s3, [obC 12 [] st TT s1, obC 11 [v7, v1] s1 TT s2, obC 11 [v8, v2] s2 (bo b133) s3]) := by kernel_rfl
theorem f3_18_TT {v1 v2 v7 v8 : AV} {st s1 s2 s3 : St} {b133 : Bool} (h1 : obC 12 [] st TT s1) (h2 : obC 11 [v7, v1] s1 TT s2) (h3 : obC 11 [v8, v2] s2 (bo b133) s3) {T : Tm} (hT : f3L15 T v1 v2 v7 v8) : AW Tryz.prog (f3P 18) (fun ex T' st' => ex = .ret ∧ f3L7 T' (bo b133) ∧ st' = s3) T st := by
  obtain ⟨hn, g1, g2, g7, g8⟩ := hT
  exact (gen_run (G := fun T => ([T.get 6] : List AV)) hE (f3_18_TT_e v1 v2 v7 v8 st s1 s2 s3 b133) (Ob.ok_cons.2 ⟨h1, (Ob.ok_cons.2 ⟨h2, (Ob.ok_cons.2 ⟨h3, Ob.ok_nil⟩)⟩)⟩) hn (conz g1 (conz g2 (conz g7 (one g8))))).mono fun ex T' st' ⟨q1, q2, q3, q4⟩ => by simp only [List.cons.injEq, and_true] at q3; exact ⟨q1, ⟨q2, q3⟩, q4⟩
theorem f3_18_TF_e (v1 v2 v7 v8 : AV) (st s1 s2 : St) : ((evS Tryz.prog E0 noOv noS 100000 [6011, 6012] (f3P 18) ⟨135, [(1, v1), (2, v2), (7, v7), (8, v8)], []⟩ st [.eff TT (fun _ => s1), .eff FF (fun _ => s2)]).map fun q => (q.1, q.2.1.n, ([q.2.1.get 6] : List AV), q.2.2.1, q.2.2.2.2)) = some (.ret, 135, [FF], s2, [obC 12 [] st TT s1, obC 11 [v7, v1] s1 FF s2]) := by kernel_rfl
theorem f3_18_TF {v1 v2 v7 v8 : AV} {st s1 s2 : St} (h1 : obC 12 [] st TT s1) (h2 : obC 11 [v7, v1] s1 FF s2) {T : Tm} (hT : f3L15 T v1 v2 v7 v8) : AW Tryz.prog (f3P 18) (fun ex T' st' => ex = .ret ∧ f3L7 T' FF ∧ st' = s2) T st := by
  obtain ⟨hn, g1, g2, g7, g8⟩ := hT
  exact (gen_run (G := fun T => ([T.get 6] : List AV)) hE (f3_18_TF_e v1 v2 v7 v8 st s1 s2) (Ob.ok_cons.2 ⟨h1, (Ob.ok_cons.2 ⟨h2, Ob.ok_nil⟩)⟩) hn (conz g1 (conz g2 (conz g7 (one g8))))).mono fun ex T' st' ⟨q1, q2, q3, q4⟩ => by simp only [List.cons.injEq, and_true] at q3; exact ⟨q1, ⟨q2, q3⟩, q4⟩
theorem f3_18_F_e (v1 v2 v7 v8 : AV) (st s1 : St) : ((evS Tryz.prog E0 noOv noS 100000 [6011, 6012] (f3P 18) ⟨135, [(1, v1), (2, v2), (7, v7), (8, v8)], []⟩ st [.eff FF (fun _ => s1)]).map fun q => (q.1, q.2.1.n, ([q.2.1.get 6] : List AV), q.2.2.1, q.2.2.2.2)) = some (.ret, 135, [FF], s1, [obC 12 [] st FF s1]) := by kernel_rfl
theorem f3_18_F {v1 v2 v7 v8 : AV} {st s1 : St} (h1 : obC 12 [] st FF s1) {T : Tm} (hT : f3L15 T v1 v2 v7 v8) : AW Tryz.prog (f3P 18) (fun ex T' st' => ex = .ret ∧ f3L7 T' FF ∧ st' = s1) T st := by
  obtain ⟨hn, g1, g2, g7, g8⟩ := hT
  exact (gen_run (G := fun T => ([T.get 6] : List AV)) hE (f3_18_F_e v1 v2 v7 v8 st s1) (Ob.ok_cons.2 ⟨h1, Ob.ok_nil⟩) hn (conz g1 (conz g2 (conz g7 (one g8))))).mono fun ex T' st' ⟨q1, q2, q3, q4⟩ => by simp only [List.cons.injEq, and_true] at q3; exact ⟨q1, ⟨q2, q3⟩, q4⟩
end
section
set_option maxRecDepth 8000
/-! ### WalForms, run -/
theorem nmsZ_ok {st : St} (hw : st.wf) (hl : st.lock = []) (hgl : st.gl = (stTab tabsD).gl) (n : Int) :
    ∃ w e s1 s2, obC 5 [i64 n] st (.tup [str w, i64 e]) s1 ∧ obC 6 [i64 n] s1 (.tup [str w, i64 e]) s2 ∧ Rest st s2 [] := by
  by_cases h : 1 ≤ n ∧ n ≤ 99999999
  · obtain ⟨m, rfl⟩ := Int.eq_ofNat_of_zero_le (show 0 ≤ n by omega)
    obtain ⟨s1, c1, r1⟩ := nameP_ok hw hgl (n := m) (by omega) (by omega)
    obtain ⟨s2, c2, r2⟩ := nameR_ok r1.wf (r1.lock.trans hl) (n := m) (by omega) (by omega)
    exact ⟨_, _, s1, s2, c1, c2, r1.trans r2⟩
  · exact ⟨_, _, st, st, nameP_bad (by omega), nameR_bad (by omega), Rest.refl hw _⟩
theorem BV.bs {v : AV} {bs : List Int} (h : BV v bs) (st : St) : BS st v bs := by
  rcases h with ⟨rfl, h⟩ | ⟨f, rfl⟩
  · first | exact .inl ⟨h, rfl⟩ | exact .inl ⟨rfl, h⟩
  · exact .inr (.inl ⟨f, rfl⟩)
theorem frames_ok {st : St} (hw : st.wf) (hl : st.lock = []) {v w : AV} {xs : List Nat} (hv : OwnB st v (xs.map Int.ofNat)) (hw1 : BV w (xs.map Int.ofNat)) (h256 : ∀ x ∈ xs, x < 256) :
    ∃ x y F e s1 s2, obC 7 [v] st (.tup [x, i64 e]) s1 ∧ obC 8 [w] s1 (.tup [y, i64 e]) s2 ∧ Rest st s2 [] ∧ OwnB s2 x F ∧ BS s2 y F ∧ FreshB st x ∧ F.length ≤ 5000 := by
  by_cases h0 : xs.length = 0
  · have e0 : xs = [] := List.eq_nil_of_length_eq_zero h0
    subst e0
    exact ⟨.nils, .nils, [], 1, st, st, frameU_0 hv.bs, frameR_0 (hw1.bs st), Rest.refl hw _, .inl ⟨rfl, rfl⟩, .inl ⟨rfl, rfl⟩, fun i o l f e => (by cases e), by simp⟩
  by_cases h1 : 4096 < xs.length
  · exact ⟨.nils, .nils, [], 3, st, st, frameU_long hv.bs (by simpa using h1), frameR_long (hw1.bs st) (by simpa using h1), Rest.refl hw _, .inl ⟨rfl, rfl⟩, .inl ⟨rfl, rfl⟩, fun i o l f e => (by cases e), by simp⟩
  · obtain ⟨x, s1, c1, o1, r1, f1⟩ := frameU_ok hw hl hv (by rw [List.length_map]; omega) (by rw [List.length_map]; omega)
    obtain ⟨y, s2, c2, o2, r2, f2⟩ := frameR_ok r1.wf (r1.lock.trans hl) (hw1.bs s1) h256 (by omega) (by omega)
    exact ⟨x, y, _, 0, s1, s2, c1, c2, r1.trans r2, o1.rest r2, o2.bs, f1, by rw [frame_len, List.length_map]; omega⟩
/-- a list behind rows that were turned over -/
theorem LO.atS {st σ : St} {S : List Nat} {f : Bool} {l : AV} {js : List Nat} {R : List (List Int)} (h : LO st f l js R) (hr : Rest st σ S) (h5 : ∀ i ∈ S, ∃ vs, st.get i = some (.row vs 5)) {i : Nat} (hi : i < R.length) :
    ∃ id j d, js[i]? = some j ∧ R[i]? = some d ∧ id < σ.next ∧ indexAddrA E0 32 l (i64 i) = some (.ptr id i) ∧ (∀ τ, Rest σ τ S → loadA E0 τ 22 (.ptr id i) = some (.sl j 1 0 d.length f)) ∧ st.get j = some (.row (d.map u8) 5) := by
  have hj : i < js.length := by rw [h.len]; exact hi
  have e1 : js[i]? = some js[i] := List.getElem?_eq_getElem hj
  have e2 : R[i]? = some R[i] := List.getElem?_eq_getElem hi
  rcases h.row with ⟨rfl, rfl⟩ | ⟨_, id, rfl, hg⟩
  · simp at hi
  · have hns : id ∉ S := fun hm => by
      obtain ⟨vs, h6⟩ := h5 id hm
      rw [hg] at h6
      simp at h6
    have hgσ := hr.keep _ _ hns hg
    refine ⟨id, js[i], R[i], e1, e2, hr.wf _ _ hgσ, ?_, fun τ hτ => ?_, h.each i _ _ e1 e2⟩
    · have := idxS slL (f := id) (off := 0) (len := R.length) (fl := false) hi
      rw [Nat.zero_add, Nat.mul_one] at this
      exact this
    · obtain ⟨t, h1, h2⟩ := tyL22
      refine load_row (hτ.keep _ _ hns hgσ) (plainT h1 h2 ?_)
      unfold vsOf
      rw [List.getElem?_zipWith, e1, e2]
noncomputable def f3B : Code := .seq (f3P 9) (.seq (f3P 10) (.seq (.block 1 (.seq (f3P 11) (.seq (f3P 12) (.seq (f3P 13) (.block 2 (.loop (f3P 14))))))) (f3P 15)))
theorem row_bs {st : St} {j : Nat} {d : List Int} {f : Bool} (h : st.get j = some (.row (d.map u8) 5)) : BS st (.sl j 1 0 d.length f) d :=
  .inr (.inr ⟨j, 0, f, _, rfl, h, by rw [List.drop_zero, List.take_of_length_le (by simp)], by simp⟩)
theorem pq_loop {s : St} (hw : s.wf) (hl : s.lock = []) {p q : AV} {js js' : List Nat} {R : List (List Int)} (hp : LO s true p js R) (hq : LO s false q js' R) (hd : ∀ j ∈ js', j ∉ js) (hb : R.length ≤ 1000000) (hR : ∀ (k : Nat) (d : List Int), R[k]? = some d → d.length ≤ 2000000) (v1 v2 v7 v8 v13 : AV) :
    ∃ σ, Rest s σ js ∧ ∀ T, f3L9 T v1 v2 v7 v8 v13 p q (i64 R.length) (i64 0) → AW Tryz.prog (.block 0 (.loop f3B)) (fun ex T' st' => ex = .normal ∧ f3L11 T' v1 v2 v7 v8 v13 ∧ st' = σ) T s := by
  have h5 : ∀ i ∈ js, ∃ vs, s.get i = some (.row vs 5) := fun j hm => by
    obtain ⟨i, hi, e⟩ := List.getElem_of_mem hm
    have hi2 : i < R.length := by rw [← hp.len]; exact hi
    exact ⟨_, hp.each i j R[i] (by rw [List.getElem?_eq_getElem hi, e]) (List.getElem?_eq_getElem hi2)⟩
  obtain ⟨c, c0, inv, step⟩ := chain_seq (fun i σ => Rest s σ js ∧ ∀ (k j : Nat) (d : List Int), i ≤ k → js[k]? = some j → R[k]? = some d → σ.get j = some (.row (d.map u8) 5)) (fun i σ σ' => ∀ T, f3L9 T v1 v2 v7 v8 v13 p q (i64 R.length) (i64 i) → AW Tryz.prog f3B (fun ex T' z => ex = .normal ∧ f3L9 T' v1 v2 v7 v8 v13 p q (i64 R.length) (i64 ((i + 1 : Nat) : Int)) ∧ z = σ') T σ) R.length s ⟨Rest.refl hw _, fun k j d _ h1 h2 => hp.each k j d h1 h2⟩ (fun i σ hi ⟨hr, hk⟩ => by
    obtain ⟨ip, j, d, e1, e2, lp, xp, ldp, _⟩ := hp.atS hr h5 hi
    obtain ⟨iq, j', d', e1', e2', lq, xq, ldq, gq⟩ := hq.atS hr h5 hi
    rw [e2] at e2'; cases e2'
    have gj := hk i j d (Nat.le_refl _) e1 e2
    have hjm : j ∈ js := List.mem_of_getElem? e1
    have hjm' : j' ∈ js' := List.mem_of_getElem? e1'
    have gq' := hr.keep _ _ (hd j' hjm') gq
    have hlσ := hr.lock.trans hl
    have hdl := hR i d e2
    obtain ⟨x, x0, rx, sx⟩ := xor_chain (fl := true) hr.wf hlσ gj rfl
    have rxj : ∀ b, b ≤ d.length → Rest σ (x b) js := fun b hb => (rx b hb).weak (by simpa using hjm)
    have rf := Rest.refl hr.wf js
    refine ⟨x d.length, ⟨hr.trans (rxj _ (Nat.le_refl _)), fun k j2 d2 hk2 h1 h2 => (rx _ (Nat.le_refl _)).keep _ _ (fun hm => ?_) (hk k j2 d2 (by omega) h1 h2)⟩, fun T hT => ?_⟩
    · rw [List.mem_singleton] at hm
      subst hm
      obtain ⟨a1, b1⟩ := List.getElem?_eq_some_iff.1 h1
      obtain ⟨a2, b2⟩ := List.getElem?_eq_some_iff.1 e1
      exact List.pairwise_iff_getElem.1 hp.nodup i k a2 a1 (by omega) (b2.trans b1.symm)
    · refine AW.andThen (f3_9_T (lssT (by omega)) hT) fun T1 q1 => ?_
      refine AW.andThen (f3_10_T q1) fun T2 q2 => ?_
      refine AW.andThen (L := fun T => f3L9 T v1 v2 v7 v8 v13 p q (i64 R.length) (i64 i)) (s := x d.length) (AW.blockN ?_) fun T7 q7 => f3_15 (addN' i 1 (by omega)) q7
      refine AW.andThen (f3_11 q2) fun T3 q3 => ?_
      refine AW.andThen (f3_12_T (by
        intro k hk
        simp only [List.mem_cons, List.not_mem_nil, or_false] at hk
        rcases hk with rfl | rfl
        · exact lp
        · exact lq) xp (ldp σ rf) xq (ldq σ rf) (equal_ok (row_bs gj).cells (row_bs gq').cells) q3) fun T4 q4 => ?_
      refine AW.andThen (f3_13 xp (ldp σ rf) (lenS slB) q4) fun T5 q5 => ?_
      refine AW.turns (In := fun b T => f3L13 T v1 v2 v7 v8 v13 p q (i64 i) (i64 R.length) (i64 i) (i64 d.length) (i64 b)) (c := x) (n := d.length) (sf := x d.length) x0.symm q5 (fun b hb T hT => ?_) (fun T hT => f3_14_F (lssF (by omega)) hT)
      obtain ⟨y, m, t1, t2, t3, t4⟩ := sx b hb
      exact f3_14_T (lssT (by omega)) xp (ldp _ (rxj b (Nat.le_of_lt hb))) t1 t2 t3 t1 t4 (addN' b 1 (by omega)) hT)
  obtain ⟨hr, _⟩ := inv R.length (Nat.le_refl _)
  refine ⟨c R.length, hr, fun T hT => AW.turns (In := fun i T => f3L9 T v1 v2 v7 v8 v13 p q (i64 R.length) (i64 i)) (c := c) (n := R.length) (sf := c R.length) c0.symm hT (fun i hi T hT => step i hi T hT) (fun T hT => ?_)⟩
  refine AW.andThen (f3_9_F (lssF (by omega)) hT) fun T1 q1 => ?_
  exact AW.exitThen (f3_10_F q1) fun T2 q2 => ⟨rfl, q2, rfl⟩
theorem x_loop {s : St} (hw : s.wf) (hl : s.lock = []) {x : AV} {F : List Int} (hx : OwnB s x F) (hF : F.length ≤ 2000000) (v1 v2 v7 v8 : AV) :
    ∃ S τ, (∀ i ∈ S, ∃ o l f, x = .sl i 1 o l f) ∧ Rest s τ S ∧ ∀ T, f3L14 T v1 v2 v7 v8 x (i64 F.length) (i64 0) → AW Tryz.prog (.block 4 (.loop (f3P 17))) (fun ex T' st' => ex = .normal ∧ f3L15 T' v1 v2 v7 v8 ∧ st' = τ) T s := by
  by_cases h0 : F = []
  · subst h0
    exact ⟨[], s, fun i hi => (by cases hi), Rest.refl hw _, fun T hT => AW.turns (In := fun _ T => f3L14 T v1 v2 v7 v8 x (i64 0) (i64 0)) (c := fun _ => s) (n := 0) (sf := s) rfl hT (fun i hi => by omega) (fun T hT => f3_17_F (lssF (by omega)) hT)⟩
  · rcases hx with ⟨h, _⟩ | ⟨h, _⟩ | ⟨_, i, rfl, hg⟩
    · exact absurd h h0
    · exact absurd h h0
    · obtain ⟨c, c0, rc, sc⟩ := xor_chain (fl := false) hw hl hg rfl
      refine ⟨[i], c F.length, fun k hk => ?_, rc _ (Nat.le_refl _), fun T hT => AW.turns (In := fun b T => f3L14 T v1 v2 v7 v8 (.sl i 1 0 F.length false) (i64 F.length) (i64 b)) (c := c) (n := F.length) (sf := c F.length) c0.symm hT (fun b hb T hT => ?_) (fun T hT => f3_17_F (lssF (by omega)) hT)⟩
      · rw [List.mem_singleton] at hk; subst hk; exact ⟨_, _, _, rfl⟩
      · obtain ⟨y, m, t1, t2, t3, t4⟩ := sc b hb
        exact f3_17_T (lssT (by omega)) t1 t2 t3 t1 t4 (addN' b 1 (by omega)) hT
end
section
set_option maxRecDepth 8000
theorem splitN_size : ∀ (k : Nat) (bs : List Int), 9 * (splitN k bs).length ≤ bs.length ∧ ∀ d ∈ splitN k bs, d.length ≤ 4096
  | 0, bs => by simp [splitN]
  | k + 1, bs => by
    simp only [splitN]
    cases hp : parse1 bs with
    | none => simp
    | some p =>
      have h1 := parse1_len hp
      obtain ⟨i1, i2⟩ := splitN_size k p.2
      refine ⟨by simp only [List.length_cons]; omega, fun d hd => ?_⟩
      rcases List.mem_cons.1 hd with rfl | hd
      · unfold parse1 at hp
        split at hp
        · cases hp
        split at hp
        · cases hp
        split at hp
        · cases hp
        split at hp
        · cases hp
        split at hp
        · cases hp
        split at hp
        · cases hp
        cases hp
        simp only [List.length_take]
        omega
      · exact i2 d hd
theorem copy_own {st : St} (hw : st.wf) (hl : st.lock = []) {v : AV} {bs : List Int} (hv : BV v bs) (hb : bs.length ≤ 2000000) :
    ∃ s1 u s2, buildSliceA E0 st 22 0 [] = some (.sl st.next 1 0 0 true, s1) ∧ appendA E0 s1 22 22 (.sl st.next 1 0 0 true) v = some (u, s2) ∧ OwnB s2 u bs ∧ Rest st s2 [] ∧ FreshB st u := by
  have r1 : Rest st (st.push (.row [] 5)) [] := Rest.push hw _ _
  obtain ⟨u, s2, a1, a2, a3, a4, _⟩ := app_ownR hw hl r1 (v := .sl st.next 1 0 0 true) (bs := []) (.inr (.inl ⟨rfl, st.next, rfl, by rw [St.get_push, if_pos rfl]⟩)) (fun i o l f e => by cases e; exact Nat.le_refl _) (hv.bs _).cells (by simp [big]; omega)
  exact ⟨st.push (.row [] 5), u, s2, by kernel_rfl, a1, by simpa using a2, a3, a4⟩
theorem forms_run {st : St} (hw : st.wf) (hl : st.lock = []) (hgl : st.gl = (stTab tabsD).gl) (n : Int) {v1 v2 : AV} {xs ys : List Nat} (h1 : BV v1 (xs.map Int.ofNat)) (h2 : BV v2 (ys.map Int.ofNat)) (hx : ∀ x ∈ xs, x < 256) (hy : ∀ y ∈ ys, y < 256) (lx : xs.length ≤ 2000000) (ly : ys.length ≤ 2000000) :
    ∃ st', obC 3 [i64 n, v1, v2] st TT st' ∧ Rest st st' [] := by
  obtain ⟨s1, own, s2, b1, a1, o1, r1, f1⟩ := copy_own hw hl h1 (by simpa using lx)
  obtain ⟨s3, giv, s4, b2, a2, o2, r2, f2⟩ := copy_own r1.wf (r1.lock.trans hl) h2 (by simpa using ly)
  have r4 := r1.trans r2
  have l4 := r4.lock.trans hl
  have own4 := o1.rest r2
  obtain ⟨w, e, s5, s6, c5, c6, r6⟩ := nmsZ_ok r4.wf l4 (r4.gl.trans hgl) n
  have l6 := r6.lock.trans l4
  obtain ⟨x, y, F, g, s7, s8, c7, c8, r8, ox, oy, fx, hF⟩ := frames_ok r6.wf l6 (own4.rest r6) h1 hx
  have l8 := r8.lock.trans l6
  obtain ⟨p, js, s9, c9, lo9, r9, f9⟩ := splitU_ok r8.wf l8 ((o2.rest r6).rest r8) (by simpa using ly)
  have l9 := r9.lock.trans l8
  obtain ⟨q, js', s10, c10, lo10, r10, f10⟩ := splitR_ok r9.wf l9 (h2.bs s9) hy ly
  have l10 := r10.lock.trans l9
  have hsz := splitN_size (ys.map Int.ofNat).length (ys.map Int.ofNat)
  rw [List.length_map] at hsz lo9 lo10
  generalize splitN ys.length (ys.map Int.ofNat) = R at hsz lo9 lo10
  have hdis : ∀ j ∈ js', j ∉ js := fun j hj hm => by
    have h3 := f10.1 j hj
    obtain ⟨i, hi, e⟩ := List.getElem_of_mem hm
    have hi2 : i < R.length := by rw [← lo9.len]; exact hi
    have h4 := lo9.each i j R[i] (by rw [List.getElem?_eq_getElem hi, e]) (List.getElem?_eq_getElem hi2)
    have := r9.wf _ _ h4
    omega
  have hRb : R.length ≤ 1000000 := by omega
  obtain ⟨σ, rσ, lpσ⟩ := pq_loop r10.wf l10 (lo9.rest r10) lo10 hdis hRb (fun k d h => by
    have := hsz.2 d (List.mem_of_getElem? h); omega) v1 v2 own giv x
  have r8σ : Rest s8 σ [] := (r9.trans r10).fresh rσ f9.1 r8.wf
  have lσ := r8σ.lock.trans l8
  have oxσ := ox.rest r8σ
  obtain ⟨S, τ, hS, rτ, lpτ⟩ := x_loop r8σ.wf lσ oxσ (by omega) v1 v2 own giv
  have r6τ : Rest s6 τ [] := (r8.trans r8σ).fresh rτ (fun i hi => by
    obtain ⟨o, l, f, e⟩ := hS i hi
    exact fx i o l f e) r6.wf
  have r4τ := r6.trans r6τ
  obtain ⟨u, ca, ra⟩ := awake_det (st := τ) (r4τ.gl.trans (r4.gl.trans hgl)) r4τ.wf
  have r4u := r4τ.trans ra
  have q1 := equal_ok (own4.rest r4u).bs.cells (h1.bs u).cells
  have q2 : obC 11 [giv, v2] u (bo true) u := equal_ok (o2.rest r4u).bs.cells (h2.bs u).cells
  refine ⟨u, ?_, r4.trans r4u⟩
  refine ACalls.body (E := E0) hE Tryz.func3 f3body ?_
  refine AW.andThen (f3_0 (n0 := n) (v1 := v1) (v2 := v2) ⟨rfl, rfl, rfl, rfl⟩) fun T0 q0 => ?_
  refine AW.andThen (f3_1 b1 a1 b2 a2 q0) fun T1 q1' => ?_
  refine AW.andThen (f3_2 c5 q1') fun T2 q2' => ?_
  refine AW.andThen (f3_3 c6 q2') fun T3 q3 => ?_
  refine AW.andThen (f3_4 c7 q3) fun T4 q4 => ?_
  refine AW.andThen (f3_5 c8 q4) fun T5 q5 => ?_
  refine AW.andThen (f3_6 c9 c10 q5) fun T6 q6 => ?_
  have r810 := r9.trans r10
  refine AW.andThen (f3_7_FFTFF (neSF rfl) (neqF rfl) (equal_ok (ox.rest r810).bs.cells (oy.rest r810).cells) (neqF rfl) (lo9.rest r10).lenA lo10.lenA (neqF rfl) q6) fun T7 q7 => ?_
  refine AW.andThen (AW.andThen (f3_8 (lo9.rest r10).lenA q7) fun T8 q8 => lpσ T8 q8) fun T9 q9 => ?_
  refine AW.andThen (AW.andThen (f3_16 oxσ.bs.len q9) fun T10 q10 => lpτ T10 q10) fun T11 q11 => ?_
  refine AW.atRet (f3_18_TT ca q1 q2 q11) fun T12 q12 => ?_
  refine ⟨[T12.get 6], rfl, ?_⟩
  simp only [oneOrTup]
  rw [q12.2]
  exact ⟨rfl, trivial⟩
end
end Go.Proofs.YtalchcdenhfmiaaGreatDoor.E
