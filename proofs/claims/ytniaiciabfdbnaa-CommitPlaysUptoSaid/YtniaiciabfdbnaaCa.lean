/- The CRC of both, a head's form and equality of heads, over the abstract machine with given values. No condition beyond those that the lemmas name. -/
import Derived.Test.YtniaiciabfdbnaaPf
namespace Go.Proofs.Ytniaiciabfdbnaa.E
open Go Go.Proofs
section
set_option maxRecDepth 4000
/-! ### two ways to a CRC agree (bits, the lowest of a byte first) -/
def crcG (n : BitVec 32) : BitVec 32 := (n >>> 1) ^^^ (bif n.getLsbD 0 then 0xedb88320#32 else 0#32)
def topB (b : Bool) : BitVec 32 := bif b then 0x80000000#32 else 0#32
def lowB (b : Bool) : BitVec 32 := bif b then 1#32 else 0#32
theorem crcG_xor (a b : BitVec 32) : crcG (a ^^^ b) = crcG a ^^^ crcG b := by
  unfold crcG
  rw [BitVec.ushiftRight_xor_distrib, BitVec.getLsbD_xor]
  have lc : ∀ x y z : BitVec 32, x ^^^ (y ^^^ z) = y ^^^ (x ^^^ z) := fun x y z => by rw [← BitVec.xor_assoc, BitVec.xor_comm x y, BitVec.xor_assoc]
  cases a.getLsbD 0 <;> cases b.getLsbD 0
  · simp
  · simp [BitVec.xor_assoc]
  · simp only [Bool.bne_false, cond_true, cond_false, BitVec.xor_zero]
    rw [BitVec.xor_assoc, BitVec.xor_assoc, BitVec.xor_comm (b >>> 1)]
  · simp only [bne_self_eq_false, cond_true, cond_false, BitVec.xor_zero]
    rw [BitVec.xor_assoc, lc (0xedb88320#32), BitVec.xor_self, BitVec.xor_zero]
theorem crcG_even {a : BitVec 32} (h : a.getLsbD 0 = false) : crcG a = a >>> 1 := by
  unfold crcG; rw [h]; simp
theorem topB_get (b : Bool) (j : Nat) (h : j < 32) : (topB b).getLsbD j = (b && decide (j = 31)) := by
  cases b
  · simp [topB]
  · simp only [topB, cond_true, Bool.true_and]
    have : ∀ j : Fin 32, (0x80000000#32).getLsbD j.val = decide (j.val = 31) := by decide
    exact this ⟨j, h⟩
theorem lowB_get (b : Bool) (j : Nat) (h : j < 32) : (lowB b).getLsbD j = (b && decide (j = 0)) := by
  cases b
  · simp [lowB]
  · simp only [lowB, cond_true, Bool.true_and]
    have : ∀ j : Fin 32, (1#32).getLsbD j.val = decide (j.val = 0) := by decide
    exact this ⟨j, h⟩
/-- the next 32 bits of a stream, the next one lowest -/
def shiftIn (f : Nat → Bool) : Nat → BitVec 32
  | 0 => 0#32
  | i + 1 => (shiftIn f i >>> 1) ^^^ topB (f i)
theorem shiftIn_get (f : Nat → Bool) : ∀ i, i ≤ 32 → ∀ j, j < 32 → (shiftIn f i).getLsbD j = (decide (32 - i ≤ j) && f (j - (32 - i)))
  | 0, _, j, hj => by simp [shiftIn]; omega
  | i + 1, hi, j, hj => by
    have ih := shiftIn_get f i (by omega)
    simp only [shiftIn]
    rw [BitVec.getLsbD_xor, BitVec.getLsbD_ushiftRight, topB_get _ _ hj]
    by_cases h : j = 31
    · subst h
      rw [BitVec.getLsbD_of_ge _ _ (by omega), show 31 - (32 - (i + 1)) = i by omega]
      simp
    · rw [ih (1 + j) (by omega), show 1 + j - (32 - i) = j - (32 - (i + 1)) by omega]
      have : (32 - i ≤ 1 + j) ↔ (32 - (i + 1) ≤ j) := by omega
      simp [h, this]
def wordAt (s : Nat → Bool) (k : Nat) : BitVec 32 := shiftIn (fun j => s (k + j)) 32
theorem wordAt_get (s : Nat → Bool) (k j : Nat) (h : j < 32) : (wordAt s k).getLsbD j = s (k + j) := by
  unfold wordAt
  rw [shiftIn_get _ 32 (by omega) j h]
  simp
theorem word_next (s : Nat → Bool) (k : Nat) : ((wordAt s k ^^^ lowB (s k)) >>> 1) ^^^ topB (s (k + 32)) = wordAt s (k + 1) := by
  apply BitVec.eq_of_getLsbD_eq
  intro j hj
  rw [BitVec.getLsbD_xor, BitVec.getLsbD_ushiftRight, BitVec.getLsbD_xor, topB_get _ _ hj, wordAt_get _ _ _ hj]
  by_cases h : j = 31
  · subst h
    have e1 : (wordAt s k).getLsbD (1 + 31) = false := BitVec.getLsbD_of_ge _ _ (by omega)
    have e2 : (lowB (s k)).getLsbD (1 + 31) = false := BitVec.getLsbD_of_ge _ _ (by omega)
    rw [e1, e2, show k + 1 + 31 = k + 32 by omega]
    simp
  · rw [wordAt_get _ _ _ (by omega), lowB_get _ _ (by omega), show k + (1 + j) = k + 1 + j by omega]
    have : ¬ (1 + j = 0) := by omega
    simp [h]
theorem word_even (s : Nat → Bool) (k : Nat) : (wordAt s k ^^^ lowB (s k)).getLsbD 0 = false := by
  rw [BitVec.getLsbD_xor, wordAt_get _ _ _ (by omega), lowB_get _ _ (by omega)]
  simp
/-- the program's register behind k bits -/
def regN (s : Nat → Bool) (n0 : BitVec 32) : Nat → BitVec 32
  | 0 => n0
  | k + 1 => crcG (regN s n0 k ^^^ lowB (s k))
/-- the document's, turned round: bits come in at the top -/
def regQ (c : Nat → Bool) : Nat → BitVec 32
  | 0 => 0#32
  | k + 1 => crcG (regQ c k) ^^^ topB (c k)
theorem regQ_start (c : Nat → Bool) : ∀ i, i ≤ 32 → ∀ j, j < 32 → (regQ c i).getLsbD j = (decide (32 - i ≤ j) && c (j - (32 - i)))
  | 0, _, j, hj => by simp [regQ]; omega
  | i + 1, hi, j, hj => by
    have ih := regQ_start c i (by omega)
    have h0 : (regQ c i).getLsbD 0 = false := by
      rw [ih 0 (by omega)]
      have : ¬ (32 - i ≤ 0) := by omega
      simp [this]
    simp only [regQ]
    rw [crcG_even h0, BitVec.getLsbD_xor, BitVec.getLsbD_ushiftRight, topB_get _ _ hj]
    by_cases h : j = 31
    · subst h
      rw [BitVec.getLsbD_of_ge _ _ (by omega), show 31 - (32 - (i + 1)) = i by omega]
      have : 32 - (i + 1) ≤ 31 := by omega
      simp
    · rw [ih (1 + j) (by omega), show 1 + j - (32 - i) = j - (32 - (i + 1)) by omega]
      have : (32 - i ≤ 1 + j) ↔ (32 - (i + 1) ≤ j) := by omega
      simp [h, this]
theorem regQ_step (s c : Nat → Bool) (n0 : BitVec 32) (hc : ∀ k, c (k + 32) = s (k + 32)) (h0 : regQ c 32 = n0 ^^^ wordAt s 0) : ∀ k, regQ c (k + 32) = regN s n0 k ^^^ wordAt s k
  | 0 => by simpa [regN] using h0
  | k + 1 => by
    have ih := regQ_step s c n0 hc h0 k
    rw [show k + 1 + 32 = (k + 32) + 1 by omega]
    show crcG (regQ c (k + 32)) ^^^ topB (c (k + 32)) = crcG (regN s n0 k ^^^ lowB (s k)) ^^^ wordAt s (k + 1)
    rw [ih, hc]
    have e : regN s n0 k ^^^ wordAt s k = (regN s n0 k ^^^ lowB (s k)) ^^^ (wordAt s k ^^^ lowB (s k)) := by
      rw [BitVec.xor_assoc, BitVec.xor_comm (wordAt s k), ← BitVec.xor_assoc (lowB (s k)), BitVec.xor_self, BitVec.zero_xor]
    rw [e, crcG_xor, crcG_even (word_even s k), BitVec.xor_assoc, word_next]
/-- both registers agree at the end -/
theorem crc_agree (s c : Nat → Bool) (m : Nat) (hs : ∀ k, m ≤ k → s k = false) (hc : ∀ k, c k = (if k < 32 then !(s k) else s k)) : regQ c (m + 32) = regN s 0xffffffff#32 m := by
  have h0 : regQ c 32 = 0xffffffff#32 ^^^ wordAt s 0 := by
    apply BitVec.eq_of_getLsbD_eq
    intro j hj
    rw [regQ_start c 32 (by omega) j hj, BitVec.getLsbD_xor, wordAt_get _ _ _ hj]
    have : ∀ j : Fin 32, (0xffffffff#32).getLsbD j.val = true := by decide
    rw [this ⟨j, hj⟩, hc]
    simp [hj]
  rw [regQ_step s c _ (fun k => by rw [hc, if_neg (by omega)]) h0 m]
  have : wordAt s m = 0#32 := by
    apply BitVec.eq_of_getLsbD_eq
    intro j hj
    rw [wordAt_get _ _ _ hj, hs _ (by omega)]
    simp
  rw [this, BitVec.xor_zero]
end
section
set_option maxRecDepth 4000
theorem xor32 (a b : BitVec 32) : valI (Op.intBits .xor .u32 (a.toNat : Int) (b.toNat : Int)) = ((a ^^^ b).toNat : Int) := by
  have : valI (Op.intBits .xor .u32 (a.toNat : Int) (b.toNat : Int)) = IntKind.u32.wrap (((BitVec.ofInt 32 (a.toNat : Int)) ^^^ (BitVec.ofInt 32 (b.toNat : Int))).toNat : Int) := rfl
  rw [this, BitVec.ofInt_natCast, BitVec.ofInt_natCast, BitVec.ofNat_toNat, BitVec.ofNat_toNat]
  simp only [BitVec.setWidth_eq]
  rw [IntWalk.u32_in]
  have := (a ^^^ b).isLt
  omega
theorem and32 (a b : BitVec 32) : valI (Op.intBits .and .u32 (a.toNat : Int) (b.toNat : Int)) = ((a &&& b).toNat : Int) := by
  have : valI (Op.intBits .and .u32 (a.toNat : Int) (b.toNat : Int)) = IntKind.u32.wrap (((BitVec.ofInt 32 (a.toNat : Int)) &&& (BitVec.ofInt 32 (b.toNat : Int))).toNat : Int) := rfl
  rw [this, BitVec.ofInt_natCast, BitVec.ofInt_natCast, BitVec.ofNat_toNat, BitVec.ofNat_toNat]
  simp only [BitVec.setWidth_eq]
  rw [IntWalk.u32_in]
  have := (a &&& b).isLt
  omega
theorem shr32 (a : BitVec 32) : valI (Op.shift .shr .u32 (a.toNat : Int) .u64 1) = ((a >>> 1).toNat : Int) := by
  have : valI (Op.shift .shr .u32 (a.toNat : Int) .u64 1) = (a.toNat : Int).fdiv (2 ^ 1) := rfl
  rw [this, Int.fdiv_eq_ediv_of_nonneg _ (by decide), BitVec.toNat_ushiftRight, Nat.shiftRight_eq_div_pow]
  rfl
theorem neg32 (b : Bool) : valI (Op.intArith .sub .u32 0 ((lowB b).toNat : Int)) = (((bif b then 0xffffffff#32 else 0#32) : BitVec 32).toNat : Int) := by
  cases b <;> rfl
theorem crcBit_eq (n : BitVec 32) : crcBit (n.toNat : Int) = ((crcG n).toNat : Int) := by
  have h1 : valI (Op.intBits .and .u32 (n.toNat : Int) 1) = ((lowB (n.getLsbD 0)).toNat : Int) := by
    have := and32 n 1#32
    rw [show ((1#32).toNat : Int) = 1 from rfl] at this
    rw [this]
    congr 2
    apply BitVec.eq_of_getLsbD_eq
    intro j hj
    rw [BitVec.getLsbD_and, lowB_get _ _ hj]
    have e : (1#32).getLsbD j = decide (j = 0) := by simp
    rw [e]
    by_cases h : j = 0
    · subst h; simp
    · simp [h]
  unfold crcBit
  rw [h1, neg32, shr32]
  have h2 := and32 (0xedb88320#32) (bif n.getLsbD 0 then 0xffffffff#32 else 0#32)
  rw [show ((0xedb88320#32).toNat : Int) = 3988292384 from rfl] at h2
  rw [h2, xor32]
  congr 2
  unfold crcG
  cases n.getLsbD 0
  · simp
  · have : (0xedb88320#32 &&& 0xffffffff#32) = 0xedb88320#32 := by decide
    simp [this]
def iterG : Nat → BitVec 32 → BitVec 32
  | 0, n => n
  | k + 1, n => iterG k (crcG n)
theorem iter8_eq : ∀ (k : Nat) (n : BitVec 32), iter8 crcBit k (n.toNat : Int) = ((iterG k n).toNat : Int)
  | 0, _ => rfl
  | k + 1, n => by simp only [iter8, iterG]; rw [crcBit_eq, iter8_eq k]
theorem iterG_succ : ∀ (k : Nat) (n : BitVec 32), iterG (k + 1) n = crcG (iterG k n)
  | 0, _ => rfl
  | k + 1, n => by rw [iterG, iterG_succ k (crcG n)]; rfl
theorem iterG_bits (n x : BitVec 32) : ∀ k, iterG k (n ^^^ x) = regN (fun i => x.getLsbD i) n k ^^^ (x >>> k)
  | 0 => by simp [iterG, regN]
  | k + 1 => by
    rw [iterG_succ, iterG_bits n x k]
    show _ = crcG (regN (fun i => x.getLsbD i) n k ^^^ lowB (x.getLsbD k)) ^^^ (x >>> (k + 1))
    generalize regN (fun i => x.getLsbD i) n k = r
    have e : r ^^^ (x >>> k) = (r ^^^ lowB (x.getLsbD k)) ^^^ ((x >>> k) ^^^ lowB (x.getLsbD k)) := by
      rw [BitVec.xor_assoc, BitVec.xor_comm (x >>> k), ← BitVec.xor_assoc (lowB _), BitVec.xor_self, BitVec.zero_xor]
    have h0 : ((x >>> k) ^^^ lowB (x.getLsbD k)).getLsbD 0 = false := by
      rw [BitVec.getLsbD_xor, BitVec.getLsbD_ushiftRight, lowB_get _ _ (by omega)]
      simp
    rw [e, crcG_xor, crcG_even h0]
    congr 1
    apply BitVec.eq_of_getLsbD_eq
    intro j hj
    rw [BitVec.getLsbD_ushiftRight, BitVec.getLsbD_xor, BitVec.getLsbD_ushiftRight, BitVec.getLsbD_ushiftRight]
    have : (lowB (x.getLsbD k)).getLsbD (1 + j) = false := by
      by_cases h : 1 + j < 32
      · rw [lowB_get _ _ h]
        have : ¬ (1 + j = 0) := by omega
        simp
      · exact BitVec.getLsbD_of_ge _ _ (by omega)
    rw [this, show k + (1 + j) = k + 1 + j by omega]
    simp
theorem crcByte_eq (n : BitVec 32) (x : Nat) (hx : x < 256) : crcByte (n.toNat : Int) (x : Int) = ((regN (fun i => x.testBit i) n 8).toNat : Int) := by
  have hw : IntKind.u32.wrap (x : Int) = ((BitVec.ofNat 32 x).toNat : Int) := by
    rw [IntWalk.u32_in _ (by omega), BitVec.toNat_ofNat, Nat.mod_eq_of_lt (by omega)]
  unfold crcByte
  rw [hw, xor32, iter8_eq, iterG_bits]
  have h8 : BitVec.ofNat 32 x >>> 8 = 0#32 := by
    apply BitVec.eq_of_toNat_eq
    rw [BitVec.toNat_ushiftRight, BitVec.toNat_ofNat, Nat.mod_eq_of_lt (by omega), Nat.shiftRight_eq_div_pow]
    simp
    omega
  rw [h8, BitVec.xor_zero]
  have : ∀ k, k ≤ 8 → regN (fun i => (BitVec.ofNat 32 x).getLsbD i) n k = regN (fun i => x.testBit i) n k := by
    intro k
    induction k with
    | zero => intro _; rfl
    | succ k ih =>
      intro hk
      show crcG (_ ^^^ lowB ((BitVec.ofNat 32 x).getLsbD k)) = crcG (_ ^^^ lowB (x.testBit k))
      rw [ih (by omega), BitVec.getLsbD_ofNat]
      have : k < 32 := by omega
      simp [this]
  rw [this 8 (by omega)]
/-- a text's bits -/
def bitsOf (xs : List Nat) (i : Nat) : Bool := (xs.getD (i / 8) 0).testBit (i % 8)
theorem regN_add (s : Nat → Bool) (n : BitVec 32) (a : Nat) : ∀ b, regN s n (a + b) = regN (fun i => s (a + i)) (regN s n a) b
  | 0 => rfl
  | b + 1 => by
    show crcG (regN s n (a + b) ^^^ lowB (s (a + b))) = crcG (regN (fun i => s (a + i)) (regN s n a) b ^^^ lowB (s (a + b)))
    rw [regN_add s n a b]
theorem regN_congr {s t : Nat → Bool} (n : BitVec 32) : ∀ k, (∀ i, i < k → s i = t i) → regN s n k = regN t n k
  | 0, _ => rfl
  | k + 1, h => by
    show crcG (_ ^^^ lowB (s k)) = crcG (_ ^^^ lowB (t k))
    rw [regN_congr n k fun i hi => h i (by omega), h k (by omega)]
theorem fold_eq : ∀ (xs : List Nat) (n : BitVec 32), (∀ x ∈ xs, x < 256) → (xs.map Int.ofNat).foldl crcByte (n.toNat : Int) = ((regN (bitsOf xs) n (8 * xs.length)).toNat : Int)
  | [], n, _ => rfl
  | x :: xs, n, h => by
    have hx := h x (List.mem_cons_self ..)
    rw [List.map_cons, List.foldl_cons, show Int.ofNat x = (x : Int) from rfl, crcByte_eq n x hx, fold_eq xs _ fun y hy => h y (List.mem_cons_of_mem _ hy)]
    rw [List.length_cons, show 8 * (xs.length + 1) = 8 + 8 * xs.length by omega, regN_add]
    have e1 : regN (bitsOf (x :: xs)) n 8 = regN (fun i => x.testBit i) n 8 := regN_congr n 8 fun i hi => by
      unfold bitsOf
      rw [show i / 8 = 0 by omega, show i % 8 = i by omega]
      rfl
    have e2 : (fun i => bitsOf (x :: xs) (8 + i)) = bitsOf xs := by
      funext i
      unfold bitsOf
      rw [show (8 + i) / 8 = i / 8 + 1 by omega, show (8 + i) % 8 = i % 8 by omega]
      rfl
    rw [e1, e2]
/-- the program's sum, by bits -/
theorem crcMore_bits (xs : List Nat) (h : ∀ x ∈ xs, x < 256) : crcMore 0 (xs.map Int.ofNat) = ((0xffffffff#32 ^^^ regN (bitsOf xs) 0xffffffff#32 (8 * xs.length)).toNat : Int) := by
  have h0 : valI (Op.intBits .xor .u32 IntKind.u32.max 0) = ((0xffffffff#32).toNat : Int) := rfl
  have h1 : IntKind.u32.max = ((0xffffffff#32).toNat : Int) := rfl
  unfold crcMore
  rw [h0, fold_eq xs _ h, h1, xor32]
end
section
set_option maxRecDepth 4000
/-- the document's register -/
def refStep (r : Nat) (b : Bool) : Nat := if (2 * r + b.toNat) >>> 32 = 1 then (2 * r + b.toNat) ^^^ 0x104c11db7 else 2 * r + b.toNat
def refReg (c : Nat → Bool) : Nat → Nat
  | 0 => 0
  | k + 1 => refStep (refReg c k) (c k)
def Turned (r : Nat) (q : BitVec 32) : Prop := r < 2 ^ 32 ∧ ∀ j, j < 32 → r.testBit j = q.getLsbD (31 - j)
theorem poly_bits : ∀ j : Fin 32, (0x104c11db7).testBit j.val = (0xedb88320#32).getLsbD (31 - j.val) := by decide
theorem turned_step {r : Nat} {q : BitVec 32} (h : Turned r q) (b : Bool) : Turned (refStep r b) (crcG q ^^^ topB b) := by
  obtain ⟨h1, h2⟩ := h
  have hb : b.toNat < 2 := by cases b <;> decide
  have t0 : (2 * r + b.toNat).testBit 0 = b := by cases b <;> simp [Nat.testBit_zero, Nat.add_mod]
  have ts : ∀ j, (2 * r + b.toNat).testBit (j + 1) = r.testBit j := fun j => by
    rw [Nat.testBit_succ, show (2 * r + b.toNat) / 2 = r by omega]
  have hq0 : q.getLsbD 0 = r.testBit 31 := by rw [h2 31 (by omega)]
  have bits : ∀ j, j < 32 → (crcG q ^^^ topB b).getLsbD (31 - j) = ((2 * r + b.toNat).testBit j ^^ (r.testBit 31 && (0x104c11db7).testBit j)) := fun j hj => by
    rw [BitVec.getLsbD_xor, topB_get _ _ (by omega)]
    unfold crcG
    rw [BitVec.getLsbD_xor, BitVec.getLsbD_ushiftRight, hq0]
    have hp := poly_bits ⟨j, hj⟩
    simp only at hp
    have e1 : (bif r.testBit 31 then 0xedb88320#32 else 0#32).getLsbD (31 - j) = (r.testBit 31 && (0x104c11db7).testBit j) := by
      rw [hp]; cases r.testBit 31 <;> simp
    rw [e1]
    cases j with
    | zero =>
      rw [t0, BitVec.getLsbD_of_ge _ _ (by omega)]
      simp [Bool.xor_comm]
    | succ j =>
      rw [ts, show 1 + (31 - (j + 1)) = 31 - j by omega, ← h2 j (by omega)]
      have hne : decide (31 - (j + 1) = 31) = false := decide_eq_false (by omega)
      rw [hne, Bool.and_false, Bool.xor_false]
  have hlt : 2 * r + b.toNat < 2 ^ 33 := by omega
  have h31 : (2 * r + b.toNat) >>> 32 = (r.testBit 31).toNat := by
    rw [Nat.shiftRight_eq_div_pow, Nat.toNat_testBit]
    omega
  unfold refStep
  rw [h31]
  cases hr : r.testBit 31 with
  | false =>
    rw [if_neg (by decide)]
    refine ⟨?_, fun j hj => ?_⟩
    · have : (2 * r + b.toNat) / 2 ^ 32 = 0 := by
        have := h31; rw [hr, Nat.shiftRight_eq_div_pow] at this; exact this
      omega
    · rw [bits j hj, hr]; simp
  | true =>
    rw [if_pos (by decide)]
    refine ⟨?_, fun j hj => ?_⟩
    · apply Nat.lt_pow_two_of_testBit
      intro i hi
      rw [Nat.testBit_xor]
      rcases Nat.eq_or_lt_of_le hi with e | hgt
      · subst e
        rw [ts 31, hr]; decide
      · have e1 : (2 * r + b.toNat).testBit i = false := Nat.testBit_lt_two_pow (Nat.lt_of_lt_of_le hlt (Nat.pow_le_pow_right (by omega) (by omega)))
        have e2 : (0x104c11db7).testBit i = false := Nat.testBit_lt_two_pow (Nat.lt_of_lt_of_le (by decide : 0x104c11db7 < 2 ^ 33) (Nat.pow_le_pow_right (by omega) (by omega)))
        rw [e1, e2]; rfl
    · rw [bits j hj, hr, Nat.testBit_xor]; simp
theorem turned (c : Nat → Bool) : ∀ k, Turned (refReg c k) (regQ c k)
  | 0 => ⟨by simp [refReg], fun j hj => by simp [refReg, regQ]⟩
  | k + 1 => turned_step (turned c k) (c k)
/-- what the document takes out of its register -/
def refOut (r : Nat) : Nat → Nat
  | 0 => 0
  | k + 1 => refOut r k + (if r.testBit k then 0 else 2 ^ (31 - k))
theorem refOut_bits (r : Nat) : ∀ k, k ≤ 32 → ∃ h, refOut r k = h * 2 ^ (32 - k) ∧ h < 2 ^ k ∧ ∀ j, j < k → h.testBit j = !(r.testBit (k - 1 - j))
  | 0, _ => ⟨0, by simp [refOut], by decide, fun j hj => by omega⟩
  | k + 1, hk => by
    obtain ⟨h, e, hl, hb⟩ := refOut_bits r k (by omega)
    refine ⟨2 * h + (if r.testBit k then 0 else 1), ?_, ?_, fun j hj => ?_⟩
    · rw [refOut, e, show 32 - k = (32 - (k + 1)) + 1 by omega, Nat.pow_succ, show 31 - k = 32 - (k + 1) by omega]
      cases r.testBit k <;> simp [Nat.add_mul, Nat.mul_comm, Nat.mul_assoc]
    · rw [Nat.pow_succ]; split <;> omega
    · cases j with
      | zero =>
        rw [show k + 1 - 1 - 0 = k by omega]
        cases r.testBit k <;> simp [Nat.testBit_zero, Nat.add_mod]
      | succ j =>
        rw [Nat.testBit_succ, show (2 * h + (if r.testBit k = true then 0 else 1)) / 2 = h by split <;> omega, hb j (by omega), show k + 1 - 1 - (j + 1) = k - 1 - j by omega]
theorem refOut_eq {r : Nat} {q : BitVec 32} (h : Turned r q) : refOut r 32 = (0xffffffff#32 ^^^ q).toNat := by
  obtain ⟨x, e, hl, hb⟩ := refOut_bits r 32 (by omega)
  rw [e, Nat.sub_self, Nat.pow_zero, Nat.mul_one]
  apply Nat.eq_of_testBit_eq
  intro j
  by_cases hj : j < 32
  · rw [hb j hj, h.2 _ (by omega), BitVec.testBit_toNat, BitVec.getLsbD_xor]
    have e1 : (0xffffffff#32).getLsbD j = true := by
      have : ∀ j : Fin 32, (0xffffffff#32).getLsbD j.val = true := by decide
      exact this ⟨j, hj⟩
    rw [e1, show 31 - (32 - 1 - j) = j by omega]
    simp
  · rw [Nat.testBit_lt_two_pow (Nat.lt_of_lt_of_le hl (Nat.pow_le_pow_right (by omega) (by omega))), BitVec.testBit_toNat, BitVec.getLsbD_of_ge _ _ (by omega)]
/-- the two sums are one -/
def refBits (xs : List Nat) (k : Nat) : Bool := if k < 32 then !(bitsOf xs k) else bitsOf xs k
theorem sums_agree (xs : List Nat) (h : ∀ x ∈ xs, x < 256) : crcMore 0 (xs.map Int.ofNat) = ((refOut (refReg (refBits xs) (8 * xs.length + 32)) 32 : Nat) : Int) := by
  rw [crcMore_bits xs h, refOut_eq (turned (refBits xs) _), crc_agree (bitsOf xs) (refBits xs) (8 * xs.length) (fun k hk => ?_) (fun k => rfl)]
  unfold bitsOf
  rw [List.getD_eq_getElem?_getD, List.getElem?_eq_none (by omega)]
  simp
end
section
set_option maxRecDepth 4000
namespace F

/-! ### the evaluator with given values: at chosen places a value is replaced by one that is given; that both are the same is left to be shown -/
abbrev Ob := List Prop
def Ob.ok (o : Ob) : Prop := ∀ p ∈ o, p
theorem Ob.ok_nil : Ob.ok [] := fun p h => by cases h
theorem Ob.ok_append {a b : Ob} : Ob.ok (a ++ b) ↔ a.ok ∧ b.ok := by
  unfold Ob.ok
  constructor
  · exact fun h => ⟨fun p hp => h p (List.mem_append_left _ hp), fun p hp => h p (List.mem_append_right _ hp)⟩
  · rintro ⟨h1, h2⟩ p hp
    rcases List.mem_append.1 hp with h | h
    · exact h1 p h
    · exact h2 p h
theorem Ob.ok_cons {p : Prop} {b : Ob} : Ob.ok (p :: b) ↔ p ∧ b.ok := by
  constructor
  · exact fun h => ⟨h p (List.mem_cons_self ..), fun q hq => h q (List.mem_cons_of_mem _ hq)⟩
  · rintro ⟨h1, h2⟩ q hq
    rcases List.mem_cons.1 hq with rfl | h
    · exact h1
    · exact h2 q h
def tagA (ss : List Nat) (d : Option Nat) (av : AV) (x : List AV) : AV × List AV × Ob :=
  match ss with
  | [] => (av, x, [])
  | _ => match d with
    | none => (av, x, [])
    | some d => if ss.contains d then (match x with
      | a :: r => (a, r, [av = a])
      | [] => (av, x, [])) else (av, x, [])
theorem tagA_ok {ss : List Nat} {d : Option Nat} {av : AV} {x : List AV} (h : (tagA ss d av x).2.2.ok) : av = (tagA ss d av x).1 := by
  unfold tagA at h ⊢
  split
  · rfl
  · split
    · rfl
    · split
      · rename_i hc
        simp only [hc, if_true] at h
        split
        · exact h _ (List.mem_singleton.2 rfl)
        · rfl
      · rfl
/-- a slice that has its whole row -/
def exP (vs : List AV) (off len sz : Nat) : Prop := off = 0 ∧ vs.length = len * sz
theorem exP_cells {vs : List AV} {off len sz : Nat} (h : exP vs off len sz) : (vs.drop off).take (len * sz) = vs ∧ off + len * sz = vs.length ∧ vs.drop off = vs := by
  obtain ⟨rfl, h⟩ := h
  exact ⟨by rw [List.drop_zero, ← h, List.take_length], by omega, List.drop_zero⟩
/-- a slice's cells, what is asked left to be shown -/
def sliceG (st : St) (x : AV) : Option (Nat × List AV × Prop) :=
  match x with
  | .nils => some (0, [], True)
  | .sl id sz off len _ => match st.get id with
    | some (.row vs _) => some (len, vs, exP vs off len sz)
    | _ => none
  | .imm _ len _ cells => some (len, cells, True)
  | _ => none
theorem sliceG_ok {st : St} {x : AV} {n : Nat} {c : List AV} {p : Prop} (h : sliceG st x = some (n, c, p)) (hp : p) : sliceCells st x = some (n, c) := by
  unfold sliceG at h
  split at h
  · cases h; rfl
  · rename_i id sz off len full
    split at h
    · rename_i vs ty hg
      cases h
      obtain ⟨h1, h2, h3⟩ := exP_cells hp
      simp only [sliceCells, hg]
      rw [if_pos (Nat.le_of_eq h2), h1]
    · cases h
  · cases h; rfl
  · cases h
def srcG (E : Env) (st : St) (tx : Nat) (x : AV) : Option (Nat × List AV × Prop) :=
  match E.ty tx with
  | some i => match i.desc with
    | .slice _ => sliceG st x
    | _ => none
  | none => none
theorem srcG_ok {E : Env} {st : St} {tx : Nat} {x : AV} {n : Nat} {c : List AV} {p : Prop} (h : srcG E st tx x = some (n, c, p)) (hp : p) : srcA E st tx x = some (n, c) := by
  unfold srcG at h
  split at h
  · rename_i i hi
    split at h
    · rename_i e hd
      simp only [srcA, hi, hd]
      exact sliceG_ok h hp
    · cases h
  · cases h
/-- an append of n elements behind len others -/
def growP (n len size bytes : Nat) (c : List AV) (str : Bool) : Prop := (c.length = n * size ∧ (str = true → size = 1)) ∧ n ≠ 0 ∧ ((len + n) * bytes ≤ 140737488355328 ∧ len + n ≤ 140737488355328)
def zeroP (n size : Nat) (c : List AV) (str : Bool) : Prop := (c.length = n * size ∧ (str = true → size = 1)) ∧ n = 0
def appendG (E : Env) (st : St) (t tx : Nat) (s x : AV) (grow : Bool) : Option (AV × St × Prop) :=
  match elemA E t, srcG E st tx x with
  | some q, some (n, c, p) =>
    if grow then (match s with
      | .nils => some (.sl st.next q.2.1.size 0 n false, st.push (.row c q.1), p ∧ growP n 0 q.2.1.size q.2.1.bytes c (isStrTy E tx))
      | .sl id sz off len full => match st.get id with
        | some (.row vs ty) => if sz = q.2.1.size ∧ ty = q.1 then (if full then some (.sl st.next sz 0 (len + n) false, st.push (.row (vs ++ c) ty), p ∧ growP n len q.2.1.size q.2.1.bytes c (isStrTy E tx) ∧ exP vs off len sz)
          else if st.lock = [] then some (.sl st.next sz 0 (len + n) false, (st.del id).push (.row (vs ++ c) ty), p ∧ growP n len q.2.1.size q.2.1.bytes c (isStrTy E tx) ∧ exP vs off len sz) else none) else none
        | _ => none
      | _ => none)
    else (match s with
      | .nils => some (.nils, st, p ∧ zeroP n q.2.1.size c (isStrTy E tx))
      | .sl id sz off len full => if sz = q.2.1.size then some (.sl id sz off len full, st, p ∧ zeroP n q.2.1.size c (isStrTy E tx)) else none
      | _ => none)
  | _, _ => none
theorem appendG_ok {E : Env} {st : St} {t tx : Nat} {s x : AV} {grow : Bool} {av : AV} {st' : St} {p : Prop} (h : appendG E st t tx s x grow = some (av, st', p)) (hp : p) : appendA E st t tx s x = some (av, st') := by
  unfold appendG at h
  split at h
  · rename_i q n c p0 hq hs
    split at h
    · split at h
      · cases h
        obtain ⟨h1, h2, h3, h4⟩ := hp
        simp only [appendA, hq, srcG_ok hs h1]
        rw [if_pos h2, if_neg h3, if_pos ⟨by simpa using h4.1, by simpa using h4.2⟩]
      · rename_i id sz off len full
        split at h
        · rename_i vs ty hg
          split at h
          · rename_i hsz
            split at h
            · rename_i hf
              cases h
              obtain ⟨h1, ⟨h2, h3, h5⟩, h6⟩ := hp
              obtain ⟨k1, k2, k3⟩ := exP_cells h6
              simp only [appendA, hq, srcG_ok hs h1]
              rw [if_pos h2, if_neg (fun h => h hsz.1), if_neg h3, if_pos h5]
              simp only [hg]
              rw [if_pos ⟨hsz.2, Nat.le_of_eq k2⟩, if_pos hf, k1]
            · rename_i hf
              split at h
              · rename_i hlk
                cases h
                obtain ⟨h1, ⟨h2, h3, h5⟩, h6⟩ := hp
                obtain ⟨k1, k2, k3⟩ := exP_cells h6
                simp only [appendA, hq, srcG_ok hs h1]
                rw [if_pos h2, if_neg (fun h => h hsz.1), if_neg h3, if_pos h5]
                simp only [hg]
                rw [if_pos ⟨hsz.2, Nat.le_of_eq k2⟩, if_neg hf, if_pos ⟨k2, by rw [hlk]; simp⟩, k3]
              · cases h
          · cases h
        · cases h
      · cases h
    · split at h
      · cases h
        obtain ⟨h1, h2, h3⟩ := hp
        simp only [appendA, hq, srcG_ok hs h1]
        rw [if_pos h2, if_pos h3]
      · split at h
        · rename_i hsz
          cases h
          obtain ⟨h1, h2, h3⟩ := hp
          simp only [appendA, hq, srcG_ok hs h1]
          rw [if_pos h2, if_neg (fun h => h hsz), if_pos h3]
        · cases h
      · cases h
  · cases h
def intOf : AV → Int | .val (.int .u8 n) => n | _ => 0
def convG (E : Env) (st : St) (s d : Nat) (x : AV) : Option (AV × Prop) :=
  match E.ty s, E.ty d, sliceG st x with
  | some i, some j, some (n, c, p) => match i.desc, j.desc with
    | .slice e, .string => match E.ty e with
      | some k => match k.desc with
        | .int .u8 => some (.val (.string (strOfNums (c.map intOf))), p ∧ numsA c = some (c.map intOf) ∧ (c.map intOf).length = n)
        | _ => none
      | none => none
    | _, _ => none
  | _, _, _ => none
theorem convG_ok {E : Env} {st : St} {s d : Nat} {x : AV} {av : AV} {p : Prop} (h : convG E st s d x = some (av, p)) (hp : p) : bytesStrA E st s d x = some av := by
  unfold convG at h
  split at h
  · rename_i i j n c p0 hi hj hs
    split at h
    · rename_i e h1 h2
      split at h
      · rename_i k hk
        split at h
        · rename_i h3
          cases h
          obtain ⟨q1, q2, q3⟩ := hp
          simp only [bytesStrA, hi, hj, sliceG_ok hs q1, h1, h2, hk, h3, q2]
          rw [if_pos q3]
        · cases h
      · cases h
    · cases h
  · cases h
/-- places 2000 + d: an operation whose outcome is given -/
def giveA (E : Env) (ss : List Nat) (op : Op) (d : Option Nat) (T : Tm) (st : St) (x : List AV) : Option (AV × St × List AV × Prop) :=
  match ss with
  | [] => none
  | _ => match d with
    | none => none
    | some d => if ss.contains (2000 + d) then (match op, x with
      | .slice t y none (some hi) (some mx), .sl n _ _ _ _ :: r => match E.ty t, T.eval y, T.eval hi, T.eval mx with
        | some i, .sl id sz off len _, .val (.int _ a), .val (.int _ b) => match i.desc with
          | .slice e => if tySize E e = some sz then some (.sl id sz off n true, st, r, a = (n : Int) ∧ b = (n : Int) ∧ 0 < n ∧ n ≤ len) else none
          | _ => none
        | _, _, _, _ => none
      | .indexAddr t y ix, _ => match E.ty t, T.eval y, T.eval ix with
        | some i, .imm sz len _ cells, .val (.int _ a) => match i.desc with
          | .slice e => if tySize E e = some sz ∧ sz ≠ 0 then some (.iptr (cells.drop (a.toNat * sz)), st, x, 0 ≤ a ∧ a < (len : Int)) else none
          | _ => none
        | some i, .sl id sz off len _, .val (.int _ a) => match i.desc with
          | .slice e => if tySize E e = some sz then some (.ptr id (off + a.toNat * sz), st, x, 0 ≤ a ∧ a < (len : Int)) else none
          | _ => none
        | _, _, _ => none
      | .load t y, b :: r => match T.eval y with
        | .iptr cs => some (b, st, r, partA E t cs 0 = some b)
        | .ptr id off => match st.get id with
          | some (.row vs _) => some (b, st, r, partA E t vs off = some b)
          | _ => none
        | _ => none
      | .convert s d y, _ => match T.eval y with
        | .val _ => none
        | y => match convG E st s d y with
          | some (av, p) => some (av, st, x, p)
          | none => none
      | .call ⟨.builtin .append, args, ts⟩, .val (.bool grow) :: r => match args.toList, ts.toList with
        | [s, y], [t, tx] => match appendG E st t tx (T.eval s) (T.eval y) grow with
          | some (av, st', p) => some (av, st', r, p)
          | none => none
        | _, _ => none
      | _, _ => none) else none
theorem giveA_ok {E : Env} {ss : List Nat} {op : Op} {d : Option Nat} {T : Tm} {st : St} {x : List AV} {av : AV} {st' : St} {x' : List AV} {p : Prop} (h : giveA E ss op d T st x = some (av, st', x', p)) (hp : p) : evOp E op T st = some (.val av st') := by
  unfold giveA at h
  split at h
  · cases h
  split at h
  · cases h
  split at h
  · split at h
    · rename_i t y hi mx n _ _ _ _ r
      split at h
      · rename_i i id sz off len full k a k' b h1 h2 h3 h4
        split at h
        · rename_i e hd
          split at h
          · rename_i hs
            simp only [Option.some.injEq, Prod.mk.injEq] at h
            obtain ⟨rfl, rfl, rfl, rfl⟩ := h
            obtain ⟨rfl, rfl, h5, h6⟩ := hp
            have e1 : natLe (.val (.int k' n)) len = some n := by
              show (if 0 ≤ (n : Int) ∧ (n : Int) ≤ len then some (n : Int).toNat else none) = some n
              rw [if_pos ⟨by omega, by omega⟩]; rfl
            have e2 : natLe (.val (.int k n)) n = some n := by
              show (if 0 ≤ (n : Int) ∧ (n : Int) ≤ n then some (n : Int).toNat else none) = some n
              rw [if_pos ⟨by omega, by omega⟩]; rfl
            have hb : boundsA len len none (some (.val (.int k n))) (some (.val (.int k' n))) = some (0, n, n) := by
              delta boundsA
              simp only [e1, e2]
            have : sliceA E st t (.sl id sz off len full) none (some (.val (.int k n))) (some (.val (.int k' n))) = some (.sl id sz off n true) := by
              simp only [sliceA, h1, hd, hs, if_true, hb]
              rw [if_neg (by omega)]
              simp [fullOf]
            unfold evOp
            simp only [pureA, Option.map_none, Option.map_some, h2, h3, h4, this]
          · cases h
        · cases h
      · cases h
    · rename_i _ t y ix
      split at h
      · rename_i i sz len full cells k a h1 h2 h3
        split at h
        · rename_i e hd
          split at h
          · rename_i hs
            simp only [Option.some.injEq, Prod.mk.injEq] at h
            obtain ⟨rfl, rfl, rfl, rfl⟩ := h
            have : indexAddrA E t (.imm sz len full cells) (.val (.int k a)) = some (.iptr (cells.drop (a.toNat * sz))) := by
              simp only [indexAddrA, h1, hd]
              rw [if_pos ⟨hs.1, hp.1, hp.2, hs.2⟩]
            unfold evOp
            simp only [pureA, h2, h3, this]
          · cases h
        · cases h
      · rename_i i id sz off len full k a h1 h2 h3
        split at h
        · rename_i e hd
          split at h
          · rename_i hs
            simp only [Option.some.injEq, Prod.mk.injEq] at h
            obtain ⟨rfl, rfl, rfl, rfl⟩ := h
            have : indexAddrA E t (.sl id sz off len full) (.val (.int k a)) = some (.ptr id (off + a.toNat * sz)) := by
              simp only [indexAddrA, h1, hd]
              rw [if_pos ⟨hs, hp.1, hp.2⟩]
            unfold evOp
            simp only [pureA, h2, h3, this]
          · cases h
        · cases h
      · cases h
    · rename_i t y b r
      split at h
      · rename_i cs h1
        simp only [Option.some.injEq, Prod.mk.injEq] at h
        obtain ⟨rfl, rfl, rfl, rfl⟩ := h
        unfold evOp
        simp only [pureA, h1, loadA, hp, Option.map_some]
      · rename_i id off h1
        split at h
        · rename_i vs ty hg
          simp only [Option.some.injEq, Prod.mk.injEq] at h
          obtain ⟨rfl, rfl, rfl, rfl⟩ := h
          unfold evOp
          simp only [pureA, h1, loadA, hg, hp, Option.map_some]
        · cases h
      · cases h
    · rename_i _ s d y
      split at h
      · cases h
      · rename_i hnv
        split at h
        · rename_i av' p' hc
          simp only [Option.some.injEq, Prod.mk.injEq] at h
          obtain ⟨rfl, rfl, rfl, rfl⟩ := h
          have hb := convG_ok hc hp
          have hpu : pureA E st (.convert s d y) T = none := by
            simp only [pureA]
            split
            · rename_i h3; exact absurd h3 (hnv _)
            · rename_i h3; exact absurd h3 (hnv _)
            · rfl
          unfold evOp
          simp only [hpu, convA, hb, Option.map_some]
        · cases h
    · rename_i args ts grow r
      split at h
      · rename_i s y t tx ha ht
        split at h
        · rename_i av' st2 p' hc
          simp only [Option.some.injEq, Prod.mk.injEq] at h
          obtain ⟨rfl, rfl, rfl, rfl⟩ := h
          have hb := appendG_ok hc hp
          unfold evOp
          simp only [pureA, ha, ht, builtinA, List.map_cons, List.map_nil, hb, Option.map_some]
        · cases h
      · cases h
    · cases h
  · cases h
/-- places 1000 + d: a condition whose answer is given -/
def condA (ss : List Nat) (c : Operand) (x : List AV) : Option (Bool × List AV) :=
  match ss with
  | [] => none
  | _ => match c, x with
    | .tmp d, .val (.bool b) :: r => if ss.contains (1000 + d) then some (b, r) else none
    | _, _ => none
/-- the objects that such a region loads from before anything else, the given values being put in -/
def idsOfS (E : Env) (ss : List Nat) (ops : Array Oper) : List DStep → Tm → St → List AV → List Nat
  | [], _, _, _ => []
  | s :: rest, T, st, x => if s.take then (match ops[s.i]? with
      | none => []
      | some o => match wantedA ops o T with
        | some true => match pureA E st o.op T with
          | some av => idsOfS E ss ops rest (T.put o.dst (tagA ss o.dst av x).1) st (tagA ss o.dst av x).2.1
          | none => match o.op with
            | .load t y => match T.eval y with
              | .ptr id off => match loadA E st t (.ptr id off) with
                | some av => id :: idsOfS E ss ops rest (T.put o.dst (tagA ss o.dst av x).1) st (tagA ss o.dst av x).2.1
                | none => []
              | _ => []
            | .lookup t m k ok => match lookupA E st t (T.eval m) (T.eval k) ok with
              | some av => match T.eval m with
                | .mp id => id :: idsOfS E ss ops rest (T.put o.dst (tagA ss o.dst av x).1) st (tagA ss o.dst av x).2.1
                | _ => idsOfS E ss ops rest (T.put o.dst (tagA ss o.dst av x).1) st (tagA ss o.dst av x).2.1
              | none => []
            | _ => []
        | some false => idsOfS E ss ops rest (T.put o.dst (.tup [])) st x
        | none => []) else []
abbrev OvP := Nat → List AV → St → Option (AV × St × Prop)
def Ov.p (ov : Ov) : OvP := fun f args st => (ov f args st).map fun r => (r.1, r.2, True)
mutual
def evS (E : Env) (ov : OvP) (sites : Nat → List Nat) : Nat → List Nat → Code → Tm → St → List AV → Option (Exit × Tm × St × List AV × Ob)
  | 0, _, _, _, _, _ => none
  | k + 1, ss, c, T, st, x => match c with
    | .skip => some (.normal, T, st, x, [])
    | .label _ => some (.normal, T, st, x, [])
    | .exit id => some (.exit id, T, st, x, [])
    | .ret => some (.ret, T, st, x, [])
    | .seq a b => match evS E ov sites k ss a T st x with
      | some (.normal, T1, st1, x1, o1) => match evS E ov sites k ss b T1 st1 x1 with
        | some (e2, T2, st2, x2, o2) => some (e2, T2, st2, x2, o1 ++ o2)
        | none => none
      | r => r
    | .cond c y z => match condA ss c x with
      | some (b, x1) => match evS E ov sites k ss (if b then y else z) T st x1 with
        | some (e2, T2, st2, x2, o2) => some (e2, T2, st2, x2, (T.eval c = .val (.bool b)) :: o2)
        | none => none
      | none => match T.eval c with
        | .val (.bool b) => evS E ov sites k ss (if b then y else z) T st x
        | _ => none
    | .block id c => match evS E ov sites k ss c T st x with
      | some (.exit i, T1, st1, x1, o1) => if i = id then some (.normal, T1, st1, x1, o1) else some (.exit i, T1, st1, x1, o1)
      | r => r
    | .scope c => match evS E ov sites k ss c T st x with
      | some (.goto _, _, _, _, _) => none
      | r => r
    | .loop c => match evS E ov sites k ss c T st x with
      | some (.normal, T1, st1, x1, o1) => match evS E ov sites k ss (.loop c) T1 st1 x1 with
        | some (e2, T2, st2, x2, o2) => some (e2, T2, st2, x2, o1 ++ o2)
        | none => none
      | r => r
    | .region _ ops false => match evOpsS E ov sites k ss ops ops.toList T st x with
      | some (T1, st1, x1, o1) => some (.normal, T1, st1, x1, o1)
      | none => none
    | .region _ ops true => match planOf ops with
      | some l => match evDrS E ov sites k ss ops ((idsOfS E ss ops l T st x).filter (· < st.next)) l T st x with
        | some (T1, st1, x1, o1) => some (.normal, T1, st1, x1, o1)
        | none => none
      | none => none
    | _ => none
def evDrS (E : Env) (ov : OvP) (sites : Nat → List Nat) : Nat → List Nat → Array Oper → List Nat → List DStep → Tm → St → List AV → Option (Tm × St × List AV × Ob)
  | 0, _, _, _, _, _, _, _ => none
  | k + 1, ss, ops, ids, l, T, st, x => match l with
    | [] => some (T, st, x, [])
    | s :: rest => match ops[s.i]? with
      | none => none
      | some o => if T.fits o.dst then (match wantedA ops o T with
        | some false => if s.take || s.single then evDrS E ov sites k ss ops ids rest (T.put o.dst (.tup [])) st x else none
        | some true => match (if s.take then heldA E st ids o.op T else none) with
          | some av => match evDrS E ov sites k ss ops ids rest (T.put o.dst (tagA ss o.dst av x).1) st (tagA ss o.dst av x).2.1 with
            | some (T2, st2, x2, o2) => some (T2, st2, x2, (tagA ss o.dst av x).2.2 ++ o2)
            | none => none
          | none => if s.single && (!s.ph || ids.all (fun id => (st.get id).isSome)) then (match evOp E o.op T (if s.ph then st.hide ids else st) with
            | some (.val av st') => match evDrS E ov sites k ss ops ids rest (T.put o.dst (tagA ss o.dst av x).1) (if s.ph then st'.show st ids else st') (tagA ss o.dst av x).2.1 with
              | some (T2, st2, x2, o2) => some (T2, st2, x2, (tagA ss o.dst av x).2.2 ++ o2)
              | none => none
            | some (.skip st') => evDrS E ov sites k ss ops ids rest (T.put o.dst (.tup [])) (if s.ph then st'.show st ids else st') x
            | some (.call f args) => match evCallS E ov sites k f args (if s.ph then st.hide ids else st) x with
              | some (r, st', x1, o1) => match evDrS E ov sites k ss ops ids rest (T.put o.dst r) (if s.ph then st'.show st ids else st') x1 with
                | some (T2, st2, x2, o2) => some (T2, st2, x2, o1 ++ o2)
                | none => none
              | none => none
            | _ => none) else none
        | none => none) else none
def evOpsS (E : Env) (ov : OvP) (sites : Nat → List Nat) : Nat → List Nat → Array Oper → List Oper → Tm → St → List AV → Option (Tm × St × List AV × Ob)
  | 0, _, _, _, _, _, _ => none
  | k + 1, ss, ops, l, T, st, x => match l with
    | [] => some (T, st, x, [])
    | o :: rest => if T.fits o.dst then (match wantedA ops o T with
      | some true => match giveA E ss o.op o.dst T st x with
       | some (av, st1, x1, p) => match evOpsS E ov sites k ss ops rest (T.put o.dst av) st1 x1 with
         | some (T2, st2, x2, o2) => some (T2, st2, x2, p :: o2)
         | none => none
       | none => match evOp E o.op T st with
        | some (.val av st') => match evOpsS E ov sites k ss ops rest (T.put o.dst (tagA ss o.dst av x).1) st' (tagA ss o.dst av x).2.1 with
          | some (T2, st2, x2, o2) => some (T2, st2, x2, (tagA ss o.dst av x).2.2 ++ o2)
          | none => none
        | some (.skip st') => evOpsS E ov sites k ss ops rest (T.put o.dst (.tup [])) st' x
        | some (.any [q]) => evOpsS E ov sites k ss ops rest (T.put o.dst q.1) q.2 x
        | some (.any _) => none
        | some (.call f args) => match evCallS E ov sites k f args st x with
          | some (r, st', x1, o1) => match evOpsS E ov sites k ss ops rest (T.put o.dst (tagA ss o.dst r x1).1) st' (tagA ss o.dst r x1).2.1 with
            | some (T2, st2, x2, o2) => some (T2, st2, x2, o1 ++ ((tagA ss o.dst r x1).2.2 ++ o2))
            | none => none
          | none => none
        | none => none
      | some false => evOpsS E ov sites k ss ops rest (T.put o.dst (.tup [])) st x
      | none => none) else none
def evCallS (E : Env) (ov : OvP) (sites : Nat → List Nat) : Nat → Nat → List AV → St → List AV → Option (AV × St × List AV × Ob)
  | 0, _, _, _, _ => none
  | k + 1, f, args, st, x => match ov f args st with
    | some (r, st', p) => some (r, st', x, [p])
    | none => match E.fn f with
      | some fn => match fn.body with
        | some c => match evS E ov sites k (sites f) c (enterT fn args st.gl) st x with
          | some (.normal, T1, st1, x1, o1) => (resA E T1 st1 fn.results.toList).map fun vs => (oneOrTup vs, st1, x1, o1)
          | some (.ret, T1, st1, x1, o1) => (resA E T1 st1 fn.results.toList).map fun vs => (oneOrTup vs, st1, x1, o1)
          | _ => none
        | none => none
      | none => none
end

structure EvSOK (P : Program) (E : Env) (ov : OvP) (sites : Nat → List Nat) (k : Nat) : Prop where
  code : ∀ ss c T st x e1 T1 st1 x1 ob, evS E ov sites k ss c T st x = some (e1, T1, st1, x1, ob) → ob.ok → AW P c (fun e T' st' => e = e1 ∧ T' = T1 ∧ st' = st1) T st
  ops : ∀ ss ops l T st x T1 st1 x1 ob, evOpsS E ov sites k ss ops l T st x = some (T1, st1, x1, ob) → ob.ok → AOps P E ops (fun e T' st' => e = .normal ∧ T' = T1 ∧ st' = st1) l T st
  call : ∀ f args st x a1 st1 x1 ob, evCallS E ov sites k f args st x = some (a1, st1, x1, ob) → ob.ok → ACalls P f args (fun a st' => a = a1 ∧ st' = st1) st
  dr : ∀ ss ops ids l T st x T1 st1 x1 ob, evDrS E ov sites k ss ops ids l T st x = some (T1, st1, x1, ob) → ob.ok → ∀ listed, planOK ops l listed = true → ADr P E ops ids (fun e T' st' => e = .normal ∧ T' = T1 ∧ st' = st1) (l.map (·.i)) listed T st

theorem evS_ok {P : Program} {E : Env} (hE : EOK' P E) {ov : OvP} {sites : Nat → List Nat} (hov : ∀ f args st r st' p, ov f args st = some (r, st', p) → p → ACalls P f args (fun a s => a = r ∧ s = st') st) : ∀ k, EvSOK P E ov sites k := by
  intro k
  induction k using Nat.strongRecOn with
  | _ k ih =>
  cases k with
  | zero => exact ⟨fun ss c T st x e1 T1 st1 x1 ob h => by simp [evS] at h, fun ss ops l T st x T1 st1 x1 ob h => by simp [evOpsS] at h, fun f args st x a1 st1 x1 ob h => by simp [evCallS] at h, fun ss ops ids l T st x T1 st1 x1 ob h => by simp [evDrS] at h⟩
  | succ k =>
  have ih0 := ih k (Nat.lt_succ_self _)
  refine ⟨fun ss c T st x e1 T1 st1 x1 ob h hob => ?_, fun ss ops l T st x T1 st1 x1 ob h hob => ?_, fun f args st x a1 st1 x1 ob h hob => ?_, fun ss ops ids l T st x T1 st1 x1 ob h hob listed hl => ?_⟩
  · simp only [evS] at h
    split at h
    · cases h; exact .skip ⟨rfl, rfl, rfl⟩
    · cases h; exact .label ⟨rfl, rfl, rfl⟩
    · cases h; exact .exit ⟨rfl, rfl, rfl⟩
    · cases h; exact .ret ⟨rfl, rfl, rfl⟩
    · rename_i a b
      refine .seq ?_
      split at h
      · rename_i T2 st2 x2 o1 h1
        split at h
        · rename_i e3 T3 st3 x3 o3 h3
          cases h
          obtain ⟨ob1, ob2⟩ := Ob.ok_append.1 hob
          refine (ih0.code _ _ _ _ _ _ _ _ _ _ h1 ob1).mono fun e T' st' he => ?_
          obtain ⟨rfl, rfl, rfl⟩ := he
          exact ih0.code _ _ _ _ _ _ _ _ _ _ h3 ob2
        · cases h
      · rename_i hne
        refine (ih0.code _ _ _ _ _ _ _ _ _ _ h hob).mono fun e T' st' he => ?_
        obtain ⟨rfl, rfl, rfl⟩ := he
        cases e with
        | normal => exact absurd h (hne _ _ _ _)
        | _ => exact ⟨rfl, rfl, rfl⟩
    · split at h
      · rename_i b x2 hc
        split at h
        · rename_i e3 T3 st3 x3 o3 h3
          cases h
          obtain ⟨ob1, ob2⟩ := Ob.ok_cons.1 hob
          exact .cond ob1 (ih0.code _ _ _ _ _ _ _ _ _ _ h3 ob2)
        · cases h
      · split at h
        · rename_i b hc
          exact .cond hc (ih0.code _ _ _ _ _ _ _ _ _ _ h hob)
        · cases h
    · rename_i id c
      refine .block ?_
      split at h
      · rename_i i T2 st2 x2 o2 h1
        split at h
        · rename_i hi
          cases h
          refine (ih0.code _ _ _ _ _ _ _ _ _ _ h1 hob).mono fun e T' st' he => ?_
          obtain ⟨rfl, rfl, rfl⟩ := he
          simp [blockA, hi]
        · rename_i hi
          cases h
          refine (ih0.code _ _ _ _ _ _ _ _ _ _ h1 hob).mono fun e T' st' he => ?_
          obtain ⟨rfl, rfl, rfl⟩ := he
          simp [blockA, hi]
      · rename_i hne
        refine (ih0.code _ _ _ _ _ _ _ _ _ _ h hob).mono fun e T' st' he => ?_
        obtain ⟨rfl, rfl, rfl⟩ := he
        cases e with
        | exit i => exact absurd h (hne _ _ _ _ _)
        | _ => exact ⟨rfl, rfl, rfl⟩
    · rename_i c
      refine .scope ?_
      split at h
      · cases h
      · rename_i hne
        refine (ih0.code _ _ _ _ _ _ _ _ _ _ h hob).mono fun e T' st' he => ?_
        obtain ⟨rfl, rfl, rfl⟩ := he
        refine ⟨fun l hl => ?_, rfl, rfl, rfl⟩
        subst hl
        exact hne _ _ _ _ _ h
    · rename_i c
      refine .loop (fun n T st => n ≤ k + 1 ∧ ∃ x ob, evS E ov sites n ss (.loop c) T st x = some (e1, T1, st1, x1, ob) ∧ ob.ok) (k + 1) ⟨Nat.le_refl _, x, ob, by simp only [evS]; exact h, hob⟩ fun n T st hI => ?_
      obtain ⟨hn, x', ob', hI, hob'⟩ := hI
      cases n with
      | zero => simp [evS] at hI
      | succ n =>
        have ihn := ih n (by omega)
        simp only [evS] at hI
        split at hI
        · rename_i T2 st2 x2 o2 h1
          split at hI
          · rename_i e3 T3 st3 x3 o3 h3
            cases hI
            obtain ⟨ob1, ob2⟩ := Ob.ok_append.1 hob'
            refine (ihn.code _ _ _ _ _ _ _ _ _ _ h1 ob1).mono fun e T' st' he => ?_
            obtain ⟨rfl, rfl, rfl⟩ := he
            exact ⟨n, Nat.lt_succ_self _, by omega, _, _, h3, ob2⟩
          · cases hI
        · rename_i hne
          refine (ihn.code _ _ _ _ _ _ _ _ _ _ hI hob').mono fun e T' st' he => ?_
          obtain ⟨rfl, rfl, rfl⟩ := he
          cases e with
          | normal => exact absurd hI (hne _ _ _ _)
          | _ => exact ⟨rfl, rfl, rfl⟩
    · rename_i id ops
      split at h
      · rename_i T2 st2 x2 o2 h1
        cases h
        exact .region hE (AOps.mono (fun e T' st' ⟨he, hr⟩ => by subst he; exact ⟨rfl, hr⟩) _ (ih0.ops _ _ _ _ _ _ _ _ _ _ h1 hob))
      · cases h
    · rename_i id ops
      split at h
      · rename_i l hl
        unfold planOf at hl
        simp only [] at hl
        split at hl
        · rename_i hc
          cases hl
          split at h
          · rename_i T2 st2 x2 o2 h1
            cases h
            refine .drawn hE hE.mixed hc.2.2 _ _ ?_ (by rw [List.length_map]; exact hc.1) (ADr.mono (fun e T' st' ⟨he, hr⟩ => by subst he; exact ⟨rfl, hr⟩) _ (ih0.dr _ _ _ _ _ _ _ _ _ _ _ h1 hob _ hc.2.1))
            simp [List.all_eq_true]
          · cases h
        · cases hl
      · cases h
    · cases h
  · simp only [evOpsS] at h
    split at h
    · cases h; exact ⟨rfl, rfl, rfl⟩
    · rename_i o rest
      split at h
      · rename_i hfit
        simp only [AOps]
        split at h
        · rename_i hw
          simp only [hw]
          split at h
          · rename_i av st5 x3 p hgive
            split at h
            · rename_i T3 st3 x3 o3 h3
              cases h
              obtain ⟨ob1, ob2⟩ := Ob.ok_cons.1 hob
              simp only [giveA_ok hgive ob1]
              exact ⟨hfit, ih0.ops _ _ _ _ _ _ _ _ _ _ h3 ob2⟩
            · cases h
          split at h
          · rename_i av st' he
            simp only [he]
            split at h
            · rename_i T3 st3 x3 o3 h3
              cases h
              obtain ⟨ob1, ob2⟩ := Ob.ok_append.1 hob
              have := ih0.ops _ _ _ _ _ _ _ _ _ _ h3 ob2
              rw [← tagA_ok ob1] at this
              exact ⟨hfit, this⟩
            · cases h
          · rename_i st' he
            simp only [he]
            exact ⟨hfit, ih0.ops _ _ _ _ _ _ _ _ _ _ h hob⟩
          · rename_i q he
            simp only [he]
            refine ⟨hfit, fun q' hq' => ?_⟩
            obtain rfl := List.mem_singleton.1 hq'
            exact ih0.ops _ _ _ _ _ _ _ _ _ _ h hob
          · cases h
          · rename_i f args he
            simp only [he]
            split at h
            · rename_i r' st' x2 o2 hc
              split at h
              · rename_i T3 st3 x3 o3 h3
                cases h
                obtain ⟨ob1, ob2⟩ := Ob.ok_append.1 hob
                obtain ⟨ob2, ob3⟩ := Ob.ok_append.1 ob2
                refine ⟨hfit, (ih0.call _ _ _ _ _ _ _ _ hc ob1).mono fun a st'' ha => ?_⟩
                obtain ⟨rfl, rfl⟩ := ha
                have := ih0.ops _ _ _ _ _ _ _ _ _ _ h3 ob3
                rw [← tagA_ok ob2] at this
                exact this
              · cases h
            · cases h
          · cases h
        · rename_i hw
          simp only [hw]
          exact ⟨hfit, ih0.ops _ _ _ _ _ _ _ _ _ _ h hob⟩
        · cases h
      · cases h
  · simp only [evCallS] at h
    split at h
    · rename_i r' st' p ho
      cases h
      exact hov _ _ _ _ _ _ ho (Ob.ok_cons.1 hob).1
    · split at h
      · rename_i fn hfn
        split at h
        · rename_i c hc
          refine .body hE (hE.fn _ _ hfn) hc ?_
          split at h
          · rename_i T2 st2 x2 o2 h1
            obtain ⟨vs, hv, hq⟩ := Option.map_eq_some_iff.1 h
            cases hq
            refine (ih0.code _ _ _ _ _ _ _ _ _ _ h1 hob).mono fun e T' st' he => ?_
            obtain ⟨rfl, rfl, rfl⟩ := he
            exact ⟨vs, hv, rfl, rfl⟩
          · rename_i T2 st2 x2 o2 h1
            obtain ⟨vs, hv, hq⟩ := Option.map_eq_some_iff.1 h
            cases hq
            refine (ih0.code _ _ _ _ _ _ _ _ _ _ h1 hob).mono fun e T' st' he => ?_
            obtain ⟨rfl, rfl, rfl⟩ := he
            exact ⟨vs, hv, rfl, rfl⟩
          · cases h
        · cases h
      · cases h
  · simp only [evDrS] at h
    split at h
    · cases h
      simp only [planOK, beq_iff_eq] at hl
      exact ⟨hl, rfl, rfl, rfl⟩
    · rename_i s rest
      simp only [planOK, Bool.and_eq_true, Bool.or_eq_true, Bool.not_eq_true', beq_iff_eq] at hl
      obtain ⟨⟨⟨hl1, hl2⟩, hl3⟩, hl4⟩ := hl
      split at h
      · cases h
      rename_i o ho
      rcases Bool.eq_false_or_eq_true (T.fits o.dst) with hfit | hfit
      rotate_left
      · rw [hfit] at h; simp at h
      rw [if_pos hfit] at h
      simp only [List.map_cons, ADr, ho]
      refine ⟨hfit, ?_⟩
      have mt : mayTake ops listed s.i = (!effOp o.op && Region.free MD ops listed s.i && (Region.ready MD ops listed).contains s.i && noWait ops listed s.i && !waits o s.i) := by simp only [mayTake, ho]
      have sg : s.single = true → Region.ready MD ops listed = [s.i] := fun hs => by
        rcases hl2 with h1 | h1
        · rw [hs] at h1; cases h1
        · exact h1
      rw [← mt, ← hl1]
      split at h
      · rename_i hw
        split at h
        · rename_i hts
          have hA := ih0.dr _ _ _ _ _ _ _ _ _ _ _ h hob _ hl4
          simp only [hw]
          split
          · exact hA
          · rename_i hc
            refine ⟨sg ?_, hA⟩
            cases hs : s.single with
            | true => rfl
            | false =>
              rw [hs, Bool.or_false] at hts
              exact absurd ⟨hts, by first | exact .inl trivial | simp⟩ hc
        · cases h
      · rename_i hw
        split at h
        · rename_i av hh
          split at hh
          · rename_i ht
            split at h
            · rename_i T3 st3 x3 o3 h3
              cases h
              obtain ⟨ob1, ob2⟩ := Ob.ok_append.1 hob
              have hA := ih0.dr _ _ _ _ _ _ _ _ _ _ _ h3 ob2 _ hl4
              rw [← tagA_ok ob1] at hA
              rw [if_pos ⟨ht, .inr ⟨hw, by rw [hh]; rfl⟩⟩]
              simp only [hw, hh]
              exact hA
            · cases h
          · cases hh
        · rename_i hh
          split at h
          · rename_i hsg
            simp only [Bool.and_eq_true, Bool.or_eq_true, Bool.not_eq_true'] at hsg
            have hcond : ¬ (s.take = true ∧ (wantedA ops o T = some false ∨ (wantedA ops o T = some true ∧ (heldA E st ids o.op T).isSome = true))) := by
              rintro ⟨h1, h2⟩
              rw [if_pos h1] at hh
              rw [hw, hh] at h2
              simp at h2
            rw [if_neg hcond]
            refine ⟨sg hsg.1, ?_⟩
            rw [← hl3]
            simp only [hw]
            refine ⟨fun hp => ?_, ?_⟩
            · rcases hsg.2 with h1 | h1
              · rw [hp] at h1; cases h1
              · exact h1
            · have hK : ∀ {av : AV} {st' : St} {x : List AV} {ob : Ob}, evDrS E ov sites k ss ops ids rest (T.put o.dst av) (if s.ph = true then st'.show st ids else st') x = some (T1, st1, x1, ob) → ob.ok → ADrK s.ph st ids (fun st' => ADr P E ops ids (fun e T' st' => e = .normal ∧ T' = T1 ∧ st' = st1) (rest.map (·.i)) (listed.setIfInBounds s.i true) (T.put o.dst av) st') st' := by
                intro av st' x ob h hob
                unfold ADrK
                split
                · rename_i hp
                  rw [if_pos hp] at h
                  exact ih0.dr _ _ _ _ _ _ _ _ _ _ _ h hob _ hl4
                · rename_i hp
                  rw [if_neg hp] at h
                  exact ih0.dr _ _ _ _ _ _ _ _ _ _ _ h hob _ hl4
              split at h
              · rename_i av st' he
                simp only [he]
                split at h
                · rename_i T3 st3 x3 o3 h3
                  cases h
                  obtain ⟨ob1, ob2⟩ := Ob.ok_append.1 hob
                  have := hK h3 ob2
                  rw [← tagA_ok ob1] at this
                  exact this
                · cases h
              · rename_i st' he
                simp only [he]
                exact hK h hob
              · rename_i f args he
                simp only [he]
                split at h
                · rename_i r' st' x2 o2 hc
                  split at h
                  · rename_i T3 st3 x3 o3 h3
                    cases h
                    obtain ⟨ob1, ob2⟩ := Ob.ok_append.1 hob
                    refine (ih0.call _ _ _ _ _ _ _ _ hc ob1).mono fun a st'' ha => ?_
                    obtain ⟨rfl, rfl⟩ := ha
                    exact hK h3 ob2
                  · cases h
                · cases h
              · cases h
          · cases h
      · cases h
end F
end
section
set_option maxRecDepth 4000
namespace F

/-! ### code that leaves the store as it is -/
structure Same (st st' : St) : Prop where
  get : ∀ k o, st.get k = some o → st'.get k = some o
  next : st'.next = st.next
  lock : st'.lock = st.lock
  gl : st'.gl = st.gl
theorem Same.refl (st : St) : Same st st := ⟨fun _ _ h => h, rfl, rfl, rfl⟩
theorem Same.trans {a b c : St} (h : Same a b) (k : Same b c) : Same a c := ⟨fun i o ho => k.get i o (h.get i o ho), k.next.trans h.next, k.lock.trans h.lock, k.gl.trans h.gl⟩
theorem merge_same {st0 st : St} {ρ : Nat → Nat} (h : Emb st0 st ρ) : Same st (mergeSt st0 st st0 ρ) := by
  refine ⟨fun k o ho => ?_, by simp [mergeSt], rfl, rfl⟩
  by_cases hx : ∃ i, i < st0.next ∧ st0.had i = true ∧ ρ i = k
  · obtain ⟨i, hi, hh, rfl⟩ := hx
    rw [merge_in h hi hh]
    have : ∃ o0, st0.get i = some o0 := by
      simp only [St.had, Bool.or_eq_true, decide_eq_true_eq] at hh
      rcases hh with h1 | h1
      · omega
      · exact Option.isSome_iff_exists.1 h1
    obtain ⟨o0, h0⟩ := this
    have := h.get i o0 h0
    rw [ho] at this
    cases this
    rw [h0]; rfl
  · rw [merge_out h fun i hi hh e => hx ⟨i, hi, hh, e⟩]
    exact ho
theorem AW.same {P : Program} {E : Env} (hE : EOK' P E) {ov : OvP} {sites : Nat → List Nat} (hov : ∀ f args st r st' p, ov f args st = some (r, st', p) → p → ACalls P f args (fun a s => a = r ∧ s = st') st) {k : Nat} {ss : List Nat} {c : Code} {T0 T1 T : Tm} {st0 st : St} {x x1 : List AV} {e1 : Exit} {ob : Ob}
    (h : evS E ov sites k ss c T0 st0 x = some (e1, T1, st0, x1, ob)) (hob : ob.ok) {ρ : Nat → Nat} (hEm : Emb st0 st ρ) (hn : T.n = T0.n) (hT : ∀ t, T0.get t = .undef ∨ T.get t = ren ρ (T0.get t)) (hgl : T0.gl = []) :
    AW P c (fun e' T' st' => e' = e1 ∧ T' = renT ρ T1 T.gl ∧ Same st st') T st := by
  have hc := (evS_ok hE hov k).code _ _ _ _ _ _ _ _ _ _ h hob
  refine (hc.frame hEm hn hT (fun p hp => by rw [hgl] at hp; cases hp)).mono fun e' T' st' hpost => ?_
  obtain ⟨T0', st0', ⟨rfl, rfl, rfl⟩, rfl, rfl, _, _⟩ := hpost
  exact ⟨rfl, rfl, merge_same hEm⟩
/-- a call that leaves the store as it is may be said to leave the very store -/
theorem ACalls.very {P : Program} {f : Nat} {args : List AV} {r : AV} {st : St} (h : ACalls P f args (fun a st' => a = r ∧ Same st st') st) : ACalls P f args (fun a st' => a = r ∧ st' = st) st :=
  h.forget fun _ _ ⟨h1, h2⟩ _ => ⟨st, ⟨h1, rfl⟩, h2.get, h2.next.symm, h2.lock.symm, h2.gl.symm⟩
end F
end
section
set_option maxRecDepth 100000
namespace F
def u8 (n : Int) : AV := .val (.int .u8 n)
def u32 (n : Int) : AV := .val (.int .u32 n)
def u64 (n : Int) : AV := .val (.int .u64 n)
def i64 (n : Int) : AV := .val (.int .i64 n)
def FF : AV := .val (.bool false)
def TT : AV := .val (.bool true)
def bo (b : Bool) : AV := .val (.bool b)
def boolI (s : Sem Value) : Bool := match s with | .pure (.bool b) => b | _ => false
def ltN (a b : Int) : Bool := boolI (binOp .lss 3 (.int .i64 a) (.int .i64 b))
def eqU (a b : Int) : Bool := boolI (binOp .eql 22 (.int .u64 a) (.int .u64 b))
def addN (a b : Int) : Int := valI (binOp .add 3 (.int .i64 a) (.int .i64 b))
def subN (a b : Int) : Int := valI (binOp .sub 3 (.int .i64 a) (.int .i64 b))
def mulN (a b : Int) : Int := valI (binOp .mul 3 (.int .i64 a) (.int .i64 b))
def quoN (a b : Int) : Int := valI (binOp .quo 3 (.int .i64 a) (.int .i64 b))
def remN (a b : Int) : Int := valI (binOp .rem 3 (.int .i64 a) (.int .i64 b))
def addU (a b : Int) : Int := valI (binOp .add 22 (.int .u64 a) (.int .u64 b))
def mulU (a b : Int) : Int := valI (binOp .mul 22 (.int .u64 a) (.int .u64 b))
def andU (a b : Int) : Int := valI (binOp .and 22 (.int .u64 a) (.int .u64 b))
def xorU (a b : Int) : Int := valI (binOp .xor 22 (.int .u64 a) (.int .u64 b))
def shrU (a b : Int) : Int := valI (binOp .shr 22 (.int .u64 a) (.int .u64 b))
def addV (a b : Int) : Int := valI (binOp .add 88 (.int .u32 a) (.int .u32 b))
def shlV (a b : Int) : Int := valI (binOp .shl 88 (.int .u32 a) (.int .u64 b))
def sitesR : Nat → List Nat
  | 53 => [13, 15, 20, 23, 2024, 2025, 29, 31, 33, 35, 39, 42, 44, 46, 48, 51, 54, 58, 60]
  | _ => []
def loopsOf : Code → List Code
  | .loop c => [c]
  | .seq a b => loopsOf a ++ loopsOf b
  | .block _ c => loopsOf c
  | _ => []
noncomputable def bodyR (n : Nat) : Code := match Try.f53.body with | some c => (loopsOf c).getD n .skip | none => .skip
def st1R (vs : List AV) : St := (⟨1, .nil, [], []⟩ : St).set 0 (.row vs 5)
def T1R (off len : Nat) (full : Bool) (r i : Int) : Tm := ⟨62, [(0, .sl 0 1 off len full), (3, u64 r), (4, i64 i)], []⟩
def T2R (r i o : Int) : Tm := ⟨62, [(3, u64 r), (6, u32 o), (7, i64 i)], []⟩
noncomputable def evR (n : Nat) (T : Tm) (st : St) (x : List AV) := evS E0 (fun _ _ _ => none) sitesR 100000 (sitesR 53) (bodyR n) T st x
def facts1 (q : Exit × Tm × St × List AV × Ob) := (q.1, q.2.1.n, [q.2.1.get 0, q.2.1.get 3, q.2.1.get 4], q.2.2.1, q.2.2.2.2)
def facts2 (q : Exit × Tm × St × List AV × Ob) := (q.1, q.2.1.n, [q.2.1.get 3, q.2.1.get 6, q.2.1.get 7], q.2.2.1, q.2.2.2.2)
theorem rsBVR (vs : List AV) (off len : Nat) (full : Bool) (r i : Int) (j x : Int) (c : Nat) (bv : Int) (bw : Int) (r1 : Int) (r2 : Int) : (evR 0 (T1R off len full r i) (st1R vs) [TT, TT, i64 j, u8 x, u64 c, u64 bv, TT, u64 bw, u64 r1, TT, u64 r2, i64 (i + 1)]).map facts1 = some (.normal, 62, [.sl 0 1 off len full, u64 r2, i64 (i + 1)], st1R vs, [bo (ltN i (addN (mulN 8 len) 32)) = TT, bo (ltN i (mulN 8 len)) = TT, i64 (quoN i 8) = i64 j, (0 ≤ j ∧ j < (len : Int)), partA E0 5 vs (off + j.toNat * 1) = some (u8 x), u64 (IntKind.u64.wrap (remN i 8)) = u64 c, u64 (andU (shrU (IntKind.u64.wrap x) c) 1) = u64 bv, bo (ltN i 32) = TT, u64 (xorU bv 1) = u64 bw, u64 (addU (mulU 2 r) bw) = u64 r1, bo (eqU (shrU r1 32) 1) = TT, u64 (xorU r1 4374732215) = u64 r2, i64 (addN i 1) = i64 (i + 1)]) := by kernel_rfl
theorem rsBVr (vs : List AV) (off len : Nat) (full : Bool) (r i : Int) (j x : Int) (c : Nat) (bv : Int) (bw : Int) (r1 : Int) : (evR 0 (T1R off len full r i) (st1R vs) [TT, TT, i64 j, u8 x, u64 c, u64 bv, TT, u64 bw, u64 r1, FF, i64 (i + 1)]).map facts1 = some (.normal, 62, [.sl 0 1 off len full, u64 r1, i64 (i + 1)], st1R vs, [bo (ltN i (addN (mulN 8 len) 32)) = TT, bo (ltN i (mulN 8 len)) = TT, i64 (quoN i 8) = i64 j, (0 ≤ j ∧ j < (len : Int)), partA E0 5 vs (off + j.toNat * 1) = some (u8 x), u64 (IntKind.u64.wrap (remN i 8)) = u64 c, u64 (andU (shrU (IntKind.u64.wrap x) c) 1) = u64 bv, bo (ltN i 32) = TT, u64 (xorU bv 1) = u64 bw, u64 (addU (mulU 2 r) bw) = u64 r1, bo (eqU (shrU r1 32) 1) = FF, i64 (addN i 1) = i64 (i + 1)]) := by kernel_rfl
theorem rsBvR (vs : List AV) (off len : Nat) (full : Bool) (r i : Int) (j x : Int) (c : Nat) (bv : Int) (r1 : Int) (r2 : Int) : (evR 0 (T1R off len full r i) (st1R vs) [TT, TT, i64 j, u8 x, u64 c, u64 bv, FF, u64 r1, TT, u64 r2, i64 (i + 1)]).map facts1 = some (.normal, 62, [.sl 0 1 off len full, u64 r2, i64 (i + 1)], st1R vs, [bo (ltN i (addN (mulN 8 len) 32)) = TT, bo (ltN i (mulN 8 len)) = TT, i64 (quoN i 8) = i64 j, (0 ≤ j ∧ j < (len : Int)), partA E0 5 vs (off + j.toNat * 1) = some (u8 x), u64 (IntKind.u64.wrap (remN i 8)) = u64 c, u64 (andU (shrU (IntKind.u64.wrap x) c) 1) = u64 bv, bo (ltN i 32) = FF, u64 (addU (mulU 2 r) bv) = u64 r1, bo (eqU (shrU r1 32) 1) = TT, u64 (xorU r1 4374732215) = u64 r2, i64 (addN i 1) = i64 (i + 1)]) := by kernel_rfl
theorem rsBvr (vs : List AV) (off len : Nat) (full : Bool) (r i : Int) (j x : Int) (c : Nat) (bv : Int) (r1 : Int) : (evR 0 (T1R off len full r i) (st1R vs) [TT, TT, i64 j, u8 x, u64 c, u64 bv, FF, u64 r1, FF, i64 (i + 1)]).map facts1 = some (.normal, 62, [.sl 0 1 off len full, u64 r1, i64 (i + 1)], st1R vs, [bo (ltN i (addN (mulN 8 len) 32)) = TT, bo (ltN i (mulN 8 len)) = TT, i64 (quoN i 8) = i64 j, (0 ≤ j ∧ j < (len : Int)), partA E0 5 vs (off + j.toNat * 1) = some (u8 x), u64 (IntKind.u64.wrap (remN i 8)) = u64 c, u64 (andU (shrU (IntKind.u64.wrap x) c) 1) = u64 bv, bo (ltN i 32) = FF, u64 (addU (mulU 2 r) bv) = u64 r1, bo (eqU (shrU r1 32) 1) = FF, i64 (addN i 1) = i64 (i + 1)]) := by kernel_rfl
theorem rsbVR (vs : List AV) (off len : Nat) (full : Bool) (r i : Int) (bw : Int) (r1 : Int) (r2 : Int) : (evR 0 (T1R off len full r i) (st1R vs) [TT, FF, TT, u64 bw, u64 r1, TT, u64 r2, i64 (i + 1)]).map facts1 = some (.normal, 62, [.sl 0 1 off len full, u64 r2, i64 (i + 1)], st1R vs, [bo (ltN i (addN (mulN 8 len) 32)) = TT, bo (ltN i (mulN 8 len)) = FF, bo (ltN i 32) = TT, u64 (xorU 0 1) = u64 bw, u64 (addU (mulU 2 r) bw) = u64 r1, bo (eqU (shrU r1 32) 1) = TT, u64 (xorU r1 4374732215) = u64 r2, i64 (addN i 1) = i64 (i + 1)]) := by kernel_rfl
theorem rsbVr (vs : List AV) (off len : Nat) (full : Bool) (r i : Int) (bw : Int) (r1 : Int) : (evR 0 (T1R off len full r i) (st1R vs) [TT, FF, TT, u64 bw, u64 r1, FF, i64 (i + 1)]).map facts1 = some (.normal, 62, [.sl 0 1 off len full, u64 r1, i64 (i + 1)], st1R vs, [bo (ltN i (addN (mulN 8 len) 32)) = TT, bo (ltN i (mulN 8 len)) = FF, bo (ltN i 32) = TT, u64 (xorU 0 1) = u64 bw, u64 (addU (mulU 2 r) bw) = u64 r1, bo (eqU (shrU r1 32) 1) = FF, i64 (addN i 1) = i64 (i + 1)]) := by kernel_rfl
theorem rsbvR (vs : List AV) (off len : Nat) (full : Bool) (r i : Int) (r1 : Int) (r2 : Int) : (evR 0 (T1R off len full r i) (st1R vs) [TT, FF, FF, u64 r1, TT, u64 r2, i64 (i + 1)]).map facts1 = some (.normal, 62, [.sl 0 1 off len full, u64 r2, i64 (i + 1)], st1R vs, [bo (ltN i (addN (mulN 8 len) 32)) = TT, bo (ltN i (mulN 8 len)) = FF, bo (ltN i 32) = FF, u64 (addU (mulU 2 r) 0) = u64 r1, bo (eqU (shrU r1 32) 1) = TT, u64 (xorU r1 4374732215) = u64 r2, i64 (addN i 1) = i64 (i + 1)]) := by kernel_rfl
theorem rsbvr (vs : List AV) (off len : Nat) (full : Bool) (r i : Int) (r1 : Int) : (evR 0 (T1R off len full r i) (st1R vs) [TT, FF, FF, u64 r1, FF, i64 (i + 1)]).map facts1 = some (.normal, 62, [.sl 0 1 off len full, u64 r1, i64 (i + 1)], st1R vs, [bo (ltN i (addN (mulN 8 len) 32)) = TT, bo (ltN i (mulN 8 len)) = FF, bo (ltN i 32) = FF, u64 (addU (mulU 2 r) 0) = u64 r1, bo (eqU (shrU r1 32) 1) = FF, i64 (addN i 1) = i64 (i + 1)]) := by kernel_rfl
theorem rsEnd (vs : List AV) (off len : Nat) (full : Bool) (r i : Int) : (evR 0 (T1R off len full r i) (st1R vs) [FF]).map facts1 = some (.exit 0, 62, [.sl 0 1 off len full, u64 r, i64 i], st1R vs, [bo (ltN i (addN (mulN 8 len) 32)) = FF]) := by kernel_rfl
theorem rtOne (r o : Int) (i : Nat) : (evR 1 (T2R r i o) st00 [TT, u64 i, FF, i64 ((i : Int) + 1)]).map facts2 = some (.normal, 62, [u64 r, u32 o, i64 ((i : Int) + 1)], st00, [bo (ltN i 32) = TT, u64 (IntKind.u64.wrap i) = u64 i, bo (eqU (andU (shrU r i) 1) 0) = FF, i64 (addN i 1) = i64 ((i : Int) + 1)]) := by kernel_rfl
theorem rtZero (r o o2 : Int) (i n : Nat) : (evR 1 (T2R r i o) st00 [TT, u64 i, TT, u64 n, u32 o2, i64 ((i : Int) + 1)]).map facts2 = some (.normal, 62, [u64 r, u32 o2, i64 ((i : Int) + 1)], st00, [bo (ltN i 32) = TT, u64 (IntKind.u64.wrap i) = u64 i, bo (eqU (andU (shrU r i) 1) 0) = TT, u64 (IntKind.u64.wrap (subN 31 i)) = u64 n, u32 (addV o (shlV 1 n)) = u32 o2, i64 (addN i 1) = i64 ((i : Int) + 1)]) := by kernel_rfl
theorem rtEnd (r o : Int) (i : Int) : (evR 1 (T2R r i o) st00 [FF]).map facts2 = some (.exit 2, 62, [u64 r, u32 o, i64 i], st00, [bo (ltN i 32) = FF]) := by kernel_rfl
end F
end
section
set_option maxRecDepth 100000
namespace F
theorem ob_T {b : Bool} (h : b = true) : bo b = TT := by rw [h]; rfl
theorem ob_F {b : Bool} (h : b = false) : bo b = FF := by rw [h]; rfl
theorem ltN_eq (a b : Int) : ltN a b = decide (a < b) := rfl
theorem eqU_eq (a b : Int) : eqU a b = (a == b) := rfl
theorem addN_eq (a b : Int) (h : 0 ≤ a + b ∧ a + b ≤ 9223372036854775807) : addN a b = a + b := by
  have : addN a b = IntKind.i64.wrap (a + b) := rfl
  rw [this, IntWalk.i64_in _ (by omega)]
theorem subN_eq (a b : Int) (h : 0 ≤ a - b ∧ a - b ≤ 9223372036854775807) : subN a b = a - b := by
  have : subN a b = IntKind.i64.wrap (a - b) := rfl
  rw [this, IntWalk.i64_in _ (by omega)]
theorem mulN_eq (a b : Int) (h : 0 ≤ a * b ∧ a * b ≤ 9223372036854775807) : mulN a b = a * b := by
  have : mulN a b = IntKind.i64.wrap (a * b) := rfl
  rw [this, IntWalk.i64_in _ (by omega)]
theorem quoN_eq (a : Int) (h : 0 ≤ a ∧ a ≤ 9223372036854775807) : quoN a 8 = a / 8 := by
  have : quoN a 8 = IntKind.i64.wrap (a.tdiv 8) := rfl
  rw [this, Int.tdiv_eq_ediv_of_nonneg h.1, IntWalk.i64_in _ (by omega)]
theorem remN_eq (a : Int) (h : 0 ≤ a) : remN a 8 = a % 8 := by
  have : remN a 8 = a.tmod 8 := rfl
  rw [this, Int.tmod_eq_emod_of_nonneg h]
theorem addU_eq (a b : Int) (h : 0 ≤ a + b ∧ a + b ≤ 18446744073709551615) : addU a b = a + b := by
  have : addU a b = IntKind.u64.wrap (a + b) := rfl
  rw [this, IntWalk.u64_in _ h]
theorem mulU_eq (a b : Int) (h : 0 ≤ a * b ∧ a * b ≤ 18446744073709551615) : mulU a b = a * b := by
  have : mulU a b = IntKind.u64.wrap (a * b) := rfl
  rw [this, IntWalk.u64_in _ h]
theorem shrU_eq (a c : Nat) (h : c ≤ 64) : shrU (a : Int) (c : Int) = ((a >>> c : Nat) : Int) := by
  have : shrU (a : Int) (c : Int) = valI (Op.shift .shr .u64 (a : Int) .u64 (c : Int)) := rfl
  have h2 : valI (Op.shift .shr .u64 (a : Int) .u64 (c : Int)) = (a : Int).fdiv (2 ^ (min c 64)) := by
    unfold Op.shift
    rw [if_neg (by omega)]
    rfl
  rw [this, h2, Nat.min_eq_left h, Int.fdiv_eq_ediv_of_nonneg _ (Int.le_of_lt (Int.pow_pos (by decide))), Nat.shiftRight_eq_div_pow, Int.natCast_ediv, Int.natCast_pow]
  rfl
theorem andU_one (a : Nat) (h : a < 2 ^ 64) : andU (a : Int) 1 = ((a % 2 : Nat) : Int) := by
  have : andU (a : Int) 1 = IntKind.u64.wrap (((BitVec.ofInt 64 (a : Int)) &&& (BitVec.ofInt 64 ((1 : Nat) : Int))).toNat : Int) := rfl
  rw [this, BitVec.ofInt_natCast, BitVec.ofInt_natCast, BitVec.toNat_and, BitVec.toNat_ofNat, BitVec.toNat_ofNat, Nat.mod_eq_of_lt h, Nat.mod_eq_of_lt (by omega), Nat.and_one_is_mod, IntWalk.u64_in _ (by omega)]
theorem xorU_nat (a b : Nat) (ha : a < 2 ^ 64) (hb : b < 2 ^ 64) : xorU (a : Int) (b : Int) = ((a ^^^ b : Nat) : Int) := by
  have : xorU (a : Int) (b : Int) = IntKind.u64.wrap (((BitVec.ofInt 64 (a : Int)) ^^^ (BitVec.ofInt 64 (b : Int))).toNat : Int) := rfl
  have hx : a ^^^ b < 2 ^ 64 := Nat.xor_lt_two_pow ha hb
  rw [this, BitVec.ofInt_natCast, BitVec.ofInt_natCast, BitVec.toNat_xor, BitVec.toNat_ofNat, BitVec.toNat_ofNat, Nat.mod_eq_of_lt ha, Nat.mod_eq_of_lt hb, IntWalk.u64_in _ (by omega)]
theorem xorU_bit (b : Bool) : xorU ((b.toNat : Nat) : Int) 1 = (((!b).toNat : Nat) : Int) := by cases b <;> rfl
theorem refReg_lt (c : Nat → Bool) (k : Nat) : refReg c k < 2 ^ 32 := (turned c k).1
theorem step_red {r : Nat} {b : Bool} (h : (2 * r + b.toNat) >>> 32 = 1) : refStep r b = (2 * r + b.toNat) ^^^ 0x104c11db7 := by unfold refStep; rw [if_pos h]
theorem step_not {r : Nat} {b : Bool} (h : ¬ (2 * r + b.toNat) >>> 32 = 1) : refStep r b = 2 * r + b.toNat := by unfold refStep; rw [if_neg h]
theorem r1_eq {r : Nat} (b : Bool) (h : r < 2 ^ 32) : addU (mulU 2 (r : Int)) ((b.toNat : Nat) : Int) = ((2 * r + b.toNat : Nat) : Int) := by
  have hb : b.toNat < 2 := by cases b <;> decide
  rw [mulU_eq _ _ (by omega), addU_eq _ _ (by omega)]
  omega
theorem red_T {r1 : Nat} (h : r1 >>> 32 = 1) : bo (eqU (shrU (r1 : Int) 32) 1) = TT := ob_T (by
  have := shrU_eq r1 32 (by omega)
  rw [show ((32 : Nat) : Int) = 32 from rfl] at this
  rw [this, h, eqU_eq]; rfl)
theorem red_F {r1 : Nat} (h : ¬ r1 >>> 32 = 1) : bo (eqU (shrU (r1 : Int) 32) 1) = FF := ob_F (by
  have := shrU_eq r1 32 (by omega)
  rw [show ((32 : Nat) : Int) = 32 from rfl] at this
  rw [this, eqU_eq]
  refine beq_eq_false_iff_ne.2 fun e => h ?_
  generalize r1 >>> 32 = z at e ⊢
  omega)
theorem bit_eq (x c : Nat) (hx : x < 256) (hc : c < 8) : andU (shrU (IntKind.u64.wrap (x : Int)) (c : Int)) 1 = (((x.testBit c).toNat : Nat) : Int) := by
  rw [IntWalk.u64_in _ (by omega), shrU_eq x c (by omega), andU_one _ (by
    rw [Nat.shiftRight_eq_div_pow]
    exact Nat.lt_of_le_of_lt (Nat.div_le_self _ _) (by omega)), Nat.shiftRight_eq_div_pow, Nat.toNat_testBit]
theorem o_more {k len : Nat} (h : k < 8 * len + 32) (hl : len < 1000000) : bo (ltN k (addN (mulN 8 len) 32)) = TT := ob_T (by rw [ltN_eq, mulN_eq _ _ (by omega), addN_eq _ _ (by omega)]; simp; omega)
theorem r1_lt {r : Nat} (b : Bool) (h : r < 2 ^ 32) : 2 * r + b.toNat < 2 ^ 64 := by
  have hb : b.toNat < 2 := by cases b <;> decide
  omega
/-- one turn of the first loop, at the small store -/
def LeafR (vs : List AV) (off len : Nat) (full : Bool) (c : Nat → Bool) (k : Nat) : Prop :=
  ∃ x T1 x1 ob, evR 0 (T1R off len full ((refReg c k : Nat) : Int) ((k : Nat) : Int)) (st1R vs) x = some (.normal, T1, st1R vs, x1, ob) ∧ ob.ok ∧ T1.n = 62 ∧ T1.get 0 = .sl 0 1 off len full ∧ T1.get 3 = u64 ((refReg c (k + 1) : Nat) : Int) ∧ T1.get 4 = i64 ((k + 1 : Nat) : Int)
theorem leafR_of {vs : List AV} {off len : Nat} {full : Bool} {c : Nat → Bool} {k : Nat} {x : List AV} {r2 : Nat} {ob : Ob}
    (h : (evR 0 (T1R off len full ((refReg c k : Nat) : Int) ((k : Nat) : Int)) (st1R vs) x).map facts1 = some (.normal, 62, [.sl 0 1 off len full, u64 ((r2 : Nat) : Int), i64 ((k : Nat) + 1 : Int)], st1R vs, ob)) (hob : ob.ok) (hr : refReg c (k + 1) = r2) : LeafR vs off len full c k := by
  obtain ⟨⟨e, T1, st1, x1, ob1⟩, hq, h2⟩ := Option.map_eq_some_iff.1 h
  simp only [facts1, Prod.mk.injEq, List.cons.injEq] at h2
  obtain ⟨rfl, h3, ⟨h4, h5, h6, _⟩, rfl, rfl⟩ := h2
  exact ⟨x, T1, x1, _, hq, hob, h3, h4, by rw [h5, hr], h6⟩
theorem q_rsBVR {vs : List AV} {off len : Nat} {full : Bool} {c : Nat → Bool} {k x : Nat} (hl : len < 1000000) (hk : k < 8 * len + 32) (hb : k < 8 * len) (hv : k < 32) (hx : partA E0 5 vs (off + ((k / 8 : Nat) : Int).toNat * 1) = some (u8 ((x : Nat) : Int))) (hx2 : x < 256) (hc : c k = (!(x.testBit (k % 8)))) (hr : (2 * refReg c k + (!(x.testBit (k % 8))).toNat) >>> 32 = 1) : LeafR vs off len full c k := by
  refine leafR_of (rsBVR vs off len full ((refReg c k : Nat) : Int) ((k : Nat) : Int) ((k / 8 : Nat) : Int) ((x : Nat) : Int) (k % 8) (((x.testBit (k % 8)).toNat : Nat) : Int) (((!(x.testBit (k % 8))).toNat : Nat) : Int) ((2 * refReg c k + (!(x.testBit (k % 8))).toNat : Nat) : Int) (((2 * refReg c k + (!(x.testBit (k % 8))).toNat) ^^^ 4374732215 : Nat) : Int)) ?_ ?_
  · simp only [Ob.ok_cons, Ob.ok_nil, and_true]
    exact ⟨o_more hk hl, ob_T (by rw [ltN_eq, mulN_eq _ _ (by omega)]; simp; omega), congrArg i64 ((quoN_eq _ (by omega)).trans (by omega)), ⟨by omega, by omega⟩, hx, congrArg u64 (by rw [remN_eq _ (by omega), IntWalk.u64_in _ (by omega)]; omega), congrArg u64 (bit_eq x _ hx2 (by omega)), ob_T (by rw [ltN_eq]; simp; omega), congrArg u64 (xorU_bit (x.testBit (k % 8))), congrArg u64 (r1_eq (!(x.testBit (k % 8))) (refReg_lt c k)), red_T hr, congrArg u64 (xorU_nat _ _ (r1_lt _ (refReg_lt c k)) (by decide)), congrArg i64 (addN_eq _ _ (by omega))⟩
  · rw [show refReg c (k + 1) = refStep (refReg c k) (c k) from rfl, hc, step_red hr]
theorem q_rsBVr {vs : List AV} {off len : Nat} {full : Bool} {c : Nat → Bool} {k x : Nat} (hl : len < 1000000) (hk : k < 8 * len + 32) (hb : k < 8 * len) (hv : k < 32) (hx : partA E0 5 vs (off + ((k / 8 : Nat) : Int).toNat * 1) = some (u8 ((x : Nat) : Int))) (hx2 : x < 256) (hc : c k = (!(x.testBit (k % 8)))) (hr : ¬ (2 * refReg c k + (!(x.testBit (k % 8))).toNat) >>> 32 = 1) : LeafR vs off len full c k := by
  refine leafR_of (rsBVr vs off len full ((refReg c k : Nat) : Int) ((k : Nat) : Int) ((k / 8 : Nat) : Int) ((x : Nat) : Int) (k % 8) (((x.testBit (k % 8)).toNat : Nat) : Int) (((!(x.testBit (k % 8))).toNat : Nat) : Int) ((2 * refReg c k + (!(x.testBit (k % 8))).toNat : Nat) : Int)) ?_ ?_
  · simp only [Ob.ok_cons, Ob.ok_nil, and_true]
    exact ⟨o_more hk hl, ob_T (by rw [ltN_eq, mulN_eq _ _ (by omega)]; simp; omega), congrArg i64 ((quoN_eq _ (by omega)).trans (by omega)), ⟨by omega, by omega⟩, hx, congrArg u64 (by rw [remN_eq _ (by omega), IntWalk.u64_in _ (by omega)]; omega), congrArg u64 (bit_eq x _ hx2 (by omega)), ob_T (by rw [ltN_eq]; simp; omega), congrArg u64 (xorU_bit (x.testBit (k % 8))), congrArg u64 (r1_eq (!(x.testBit (k % 8))) (refReg_lt c k)), red_F hr, congrArg i64 (addN_eq _ _ (by omega))⟩
  · rw [show refReg c (k + 1) = refStep (refReg c k) (c k) from rfl, hc, step_not hr]
theorem q_rsBvR {vs : List AV} {off len : Nat} {full : Bool} {c : Nat → Bool} {k x : Nat} (hl : len < 1000000) (hk : k < 8 * len + 32) (hb : k < 8 * len) (hv : 32 ≤ k) (hx : partA E0 5 vs (off + ((k / 8 : Nat) : Int).toNat * 1) = some (u8 ((x : Nat) : Int))) (hx2 : x < 256) (hc : c k = (x.testBit (k % 8))) (hr : (2 * refReg c k + (x.testBit (k % 8)).toNat) >>> 32 = 1) : LeafR vs off len full c k := by
  refine leafR_of (rsBvR vs off len full ((refReg c k : Nat) : Int) ((k : Nat) : Int) ((k / 8 : Nat) : Int) ((x : Nat) : Int) (k % 8) (((x.testBit (k % 8)).toNat : Nat) : Int) ((2 * refReg c k + (x.testBit (k % 8)).toNat : Nat) : Int) (((2 * refReg c k + (x.testBit (k % 8)).toNat) ^^^ 4374732215 : Nat) : Int)) ?_ ?_
  · simp only [Ob.ok_cons, Ob.ok_nil, and_true]
    exact ⟨o_more hk hl, ob_T (by rw [ltN_eq, mulN_eq _ _ (by omega)]; simp; omega), congrArg i64 ((quoN_eq _ (by omega)).trans (by omega)), ⟨by omega, by omega⟩, hx, congrArg u64 (by rw [remN_eq _ (by omega), IntWalk.u64_in _ (by omega)]; omega), congrArg u64 (bit_eq x _ hx2 (by omega)), ob_F (by rw [ltN_eq]; simp; omega), congrArg u64 (r1_eq (x.testBit (k % 8)) (refReg_lt c k)), red_T hr, congrArg u64 (xorU_nat _ _ (r1_lt _ (refReg_lt c k)) (by decide)), congrArg i64 (addN_eq _ _ (by omega))⟩
  · rw [show refReg c (k + 1) = refStep (refReg c k) (c k) from rfl, hc, step_red hr]
theorem q_rsBvr {vs : List AV} {off len : Nat} {full : Bool} {c : Nat → Bool} {k x : Nat} (hl : len < 1000000) (hk : k < 8 * len + 32) (hb : k < 8 * len) (hv : 32 ≤ k) (hx : partA E0 5 vs (off + ((k / 8 : Nat) : Int).toNat * 1) = some (u8 ((x : Nat) : Int))) (hx2 : x < 256) (hc : c k = (x.testBit (k % 8))) (hr : ¬ (2 * refReg c k + (x.testBit (k % 8)).toNat) >>> 32 = 1) : LeafR vs off len full c k := by
  refine leafR_of (rsBvr vs off len full ((refReg c k : Nat) : Int) ((k : Nat) : Int) ((k / 8 : Nat) : Int) ((x : Nat) : Int) (k % 8) (((x.testBit (k % 8)).toNat : Nat) : Int) ((2 * refReg c k + (x.testBit (k % 8)).toNat : Nat) : Int)) ?_ ?_
  · simp only [Ob.ok_cons, Ob.ok_nil, and_true]
    exact ⟨o_more hk hl, ob_T (by rw [ltN_eq, mulN_eq _ _ (by omega)]; simp; omega), congrArg i64 ((quoN_eq _ (by omega)).trans (by omega)), ⟨by omega, by omega⟩, hx, congrArg u64 (by rw [remN_eq _ (by omega), IntWalk.u64_in _ (by omega)]; omega), congrArg u64 (bit_eq x _ hx2 (by omega)), ob_F (by rw [ltN_eq]; simp; omega), congrArg u64 (r1_eq (x.testBit (k % 8)) (refReg_lt c k)), red_F hr, congrArg i64 (addN_eq _ _ (by omega))⟩
  · rw [show refReg c (k + 1) = refStep (refReg c k) (c k) from rfl, hc, step_not hr]
theorem q_rsbVR {vs : List AV} {off len : Nat} {full : Bool} {c : Nat → Bool} {k : Nat} (hl : len < 1000000) (hk : k < 8 * len + 32) (hb : 8 * len ≤ k) (hv : k < 32) (hc : c k = (!false)) (hr : (2 * refReg c k + (!false).toNat) >>> 32 = 1) : LeafR vs off len full c k := by
  refine leafR_of (rsbVR vs off len full ((refReg c k : Nat) : Int) ((k : Nat) : Int) (((!false).toNat : Nat) : Int) ((2 * refReg c k + (!false).toNat : Nat) : Int) (((2 * refReg c k + (!false).toNat) ^^^ 4374732215 : Nat) : Int)) ?_ ?_
  · simp only [Ob.ok_cons, Ob.ok_nil, and_true]
    exact ⟨o_more hk hl, ob_F (by rw [ltN_eq, mulN_eq _ _ (by omega)]; simp; omega), ob_T (by rw [ltN_eq]; simp; omega), congrArg u64 (xorU_bit false), congrArg u64 (r1_eq (!false) (refReg_lt c k)), red_T hr, congrArg u64 (xorU_nat _ _ (r1_lt _ (refReg_lt c k)) (by decide)), congrArg i64 (addN_eq _ _ (by omega))⟩
  · rw [show refReg c (k + 1) = refStep (refReg c k) (c k) from rfl, hc, step_red hr]
theorem q_rsbVr {vs : List AV} {off len : Nat} {full : Bool} {c : Nat → Bool} {k : Nat} (hl : len < 1000000) (hk : k < 8 * len + 32) (hb : 8 * len ≤ k) (hv : k < 32) (hc : c k = (!false)) (hr : ¬ (2 * refReg c k + (!false).toNat) >>> 32 = 1) : LeafR vs off len full c k := by
  refine leafR_of (rsbVr vs off len full ((refReg c k : Nat) : Int) ((k : Nat) : Int) (((!false).toNat : Nat) : Int) ((2 * refReg c k + (!false).toNat : Nat) : Int)) ?_ ?_
  · simp only [Ob.ok_cons, Ob.ok_nil, and_true]
    exact ⟨o_more hk hl, ob_F (by rw [ltN_eq, mulN_eq _ _ (by omega)]; simp; omega), ob_T (by rw [ltN_eq]; simp; omega), congrArg u64 (xorU_bit false), congrArg u64 (r1_eq (!false) (refReg_lt c k)), red_F hr, congrArg i64 (addN_eq _ _ (by omega))⟩
  · rw [show refReg c (k + 1) = refStep (refReg c k) (c k) from rfl, hc, step_not hr]
theorem q_rsbvR {vs : List AV} {off len : Nat} {full : Bool} {c : Nat → Bool} {k : Nat} (hl : len < 1000000) (hk : k < 8 * len + 32) (hb : 8 * len ≤ k) (hv : 32 ≤ k) (hc : c k = false) (hr : (2 * refReg c k + false.toNat) >>> 32 = 1) : LeafR vs off len full c k := by
  refine leafR_of (rsbvR vs off len full ((refReg c k : Nat) : Int) ((k : Nat) : Int) ((2 * refReg c k + false.toNat : Nat) : Int) (((2 * refReg c k + false.toNat) ^^^ 4374732215 : Nat) : Int)) ?_ ?_
  · simp only [Ob.ok_cons, Ob.ok_nil, and_true]
    exact ⟨o_more hk hl, ob_F (by rw [ltN_eq, mulN_eq _ _ (by omega)]; simp; omega), ob_F (by rw [ltN_eq]; simp; omega), congrArg u64 (r1_eq false (refReg_lt c k)), red_T hr, congrArg u64 (xorU_nat _ _ (r1_lt _ (refReg_lt c k)) (by decide)), congrArg i64 (addN_eq _ _ (by omega))⟩
  · rw [show refReg c (k + 1) = refStep (refReg c k) (c k) from rfl, hc, step_red hr]
theorem q_rsbvr {vs : List AV} {off len : Nat} {full : Bool} {c : Nat → Bool} {k : Nat} (hl : len < 1000000) (hk : k < 8 * len + 32) (hb : 8 * len ≤ k) (hv : 32 ≤ k) (hc : c k = false) (hr : ¬ (2 * refReg c k + false.toNat) >>> 32 = 1) : LeafR vs off len full c k := by
  refine leafR_of (rsbvr vs off len full ((refReg c k : Nat) : Int) ((k : Nat) : Int) ((2 * refReg c k + false.toNat : Nat) : Int)) ?_ ?_
  · simp only [Ob.ok_cons, Ob.ok_nil, and_true]
    exact ⟨o_more hk hl, ob_F (by rw [ltN_eq, mulN_eq _ _ (by omega)]; simp; omega), ob_F (by rw [ltN_eq]; simp; omega), congrArg u64 (r1_eq false (refReg_lt c k)), red_F hr, congrArg i64 (addN_eq _ _ (by omega))⟩
  · rw [show refReg c (k + 1) = refStep (refReg c k) (c k) from rfl, hc, step_not hr]
end F
end
section
set_option maxRecDepth 100000
namespace F
theorem leafR_all {vs : List AV} {off len : Nat} {full : Bool} {xs : List Nat} {k : Nat} (hl : len < 1000000) (hlen : xs.length = len) (hxs : ∀ i, i < len → partA E0 5 vs (off + (i : Int).toNat * 1) = some (u8 ((xs.getD i 0 : Nat) : Int))) (h256 : ∀ x ∈ xs, x < 256) (hk : k < 8 * len + 32) :
    LeafR vs off len full (refBits xs) k := by
  by_cases hb : k < 8 * len
  · have hi : k / 8 < len := by omega
    have hx := hxs (k / 8) hi
    have hx2 : xs.getD (k / 8) 0 < 256 := by
      rw [List.getD_eq_getElem?_getD, List.getElem?_eq_getElem (by omega)]
      exact h256 _ (List.getElem_mem _)
    by_cases hv : k < 32
    · have hc : refBits xs k = !((xs.getD (k / 8) 0).testBit (k % 8)) := by unfold refBits bitsOf; rw [if_pos hv]
      by_cases hr : (2 * refReg (refBits xs) k + (!((xs.getD (k / 8) 0).testBit (k % 8))).toNat) >>> 32 = 1
      · exact q_rsBVR hl hk hb hv hx hx2 hc hr
      · exact q_rsBVr hl hk hb hv hx hx2 hc hr
    · have hc : refBits xs k = (xs.getD (k / 8) 0).testBit (k % 8) := by unfold refBits bitsOf; rw [if_neg hv]
      by_cases hr : (2 * refReg (refBits xs) k + ((xs.getD (k / 8) 0).testBit (k % 8)).toNat) >>> 32 = 1
      · exact q_rsBvR hl hk hb (by omega) hx hx2 hc hr
      · exact q_rsBvr hl hk hb (by omega) hx hx2 hc hr
  · have h0 : bitsOf xs k = false := by
      unfold bitsOf
      rw [List.getD_eq_getElem?_getD, List.getElem?_eq_none (by omega)]
      simp
    by_cases hv : k < 32
    · have hc : refBits xs k = !false := by unfold refBits; rw [if_pos hv, h0]
      by_cases hr : (2 * refReg (refBits xs) k + (!false).toNat) >>> 32 = 1
      · exact q_rsbVR hl hk (by omega) hv hc hr
      · exact q_rsbVr hl hk (by omega) hv hc hr
    · have hc : refBits xs k = false := by unfold refBits; rw [if_neg hv, h0]
      by_cases hr : (2 * refReg (refBits xs) k + (false).toNat) >>> 32 = 1
      · exact q_rsbvR hl hk (by omega) (by omega) hc hr
      · exact q_rsbvr hl hk (by omega) (by omega) hc hr
/-- the second loop's turn -/
theorem refOut_lt {r : Nat} {q : BitVec 32} (_h : Turned r q) {k : Nat} (hk : k ≤ 32) : refOut r k < 2 ^ 32 := by
  obtain ⟨x, e, hl, _⟩ := refOut_bits r k hk
  rw [e]
  calc x * 2 ^ (32 - k) < 2 ^ k * 2 ^ (32 - k) := Nat.mul_lt_mul_of_pos_right hl (Nat.pow_pos (by decide))
    _ = 2 ^ 32 := by rw [← Nat.pow_add]; congr 1; omega
theorem bit2_eq (r k : Nat) (hr : r < 2 ^ 32) (hk : k < 32) : andU (shrU (r : Int) (k : Int)) 1 = (((r.testBit k).toNat : Nat) : Int) := by
  rw [shrU_eq r k (by omega), andU_one _ (by
    rw [Nat.shiftRight_eq_div_pow]
    exact Nat.lt_of_le_of_lt (Nat.div_le_self _ _) (by omega)), Nat.shiftRight_eq_div_pow, Nat.toNat_testBit]
theorem shlV_eq (k : Nat) (hk : k < 32) : shlV 1 (((31 - k : Nat)) : Int) = ((2 ^ (31 - k) : Nat) : Int) := by
  have h2 : shlV 1 (((31 - k : Nat)) : Int) = IntKind.u32.wrap (1 * 2 ^ (min (31 - k) 32)) := by
    have : shlV 1 (((31 - k : Nat)) : Int) = valI (Op.shift .shl .u32 1 .u64 (((31 - k : Nat)) : Int)) := rfl
    rw [this]
    unfold Op.shift
    rw [if_neg (by omega)]
    rfl
  have hp : 2 ^ (31 - k) ≤ 2 ^ 31 := Nat.pow_le_pow_right (by decide) (by omega)
  rw [h2, Nat.min_eq_left (by omega), Int.one_mul, show (2 : Int) ^ (31 - k) = ((2 ^ (31 - k) : Nat) : Int) by rw [Int.natCast_pow]; rfl, IntWalk.u32_in _ ⟨Int.natCast_nonneg _, Int.ofNat_le.2 (Nat.le_trans hp (by decide))⟩]
def LeafT (r k : Nat) : Prop :=
  ∃ x T1 x1 ob, evR 1 (T2R (r : Int) (k : Int) ((refOut r k : Nat) : Int)) st00 x = some (.normal, T1, st00, x1, ob) ∧ ob.ok ∧ T1.n = 62 ∧ T1.get 3 = u64 (r : Int) ∧ T1.get 6 = u32 ((refOut r (k + 1) : Nat) : Int) ∧ T1.get 7 = i64 ((k + 1 : Nat) : Int)
theorem leafT_all {r : Nat} {q : BitVec 32} (h : Turned r q) {k : Nat} (hk : k < 32) : LeafT r k := by
  have e0 : bo (ltN (k : Int) 32) = TT := ob_T (by rw [ltN_eq]; simp; omega)
  have e1 : u64 (IntKind.u64.wrap (k : Int)) = u64 (k : Int) := congrArg u64 (IntWalk.u64_in _ (by omega))
  have e2 : i64 (addN (k : Int) 1) = i64 ((k : Int) + 1) := congrArg i64 (addN_eq _ _ (by omega))
  have hb := bit2_eq r k h.1 hk
  cases hr : r.testBit k with
  | true =>
    have hO : refOut r (k + 1) = refOut r k := by simp [refOut, hr]
    obtain ⟨⟨e, T1, st1, x1, ob1⟩, hq, h2⟩ := Option.map_eq_some_iff.1 (rtOne (r : Int) ((refOut r k : Nat) : Int) k)
    simp only [facts2, Prod.mk.injEq, List.cons.injEq] at h2
    obtain ⟨rfl, h3, ⟨h4, h5, h6, _⟩, rfl, rfl⟩ := h2
    refine ⟨_, T1, x1, _, hq, ?_, h3, h4, by rw [hO]; exact h5, h6⟩
    simp only [Ob.ok_cons, Ob.ok_nil, and_true]
    exact ⟨e0, e1, ob_F (by rw [hb, hr, eqU_eq]; rfl), e2⟩
  | false =>
    have hO : refOut r (k + 1) = refOut r k + 2 ^ (31 - k) := by simp [refOut, hr]
    obtain ⟨⟨e, T1, st1, x1, ob1⟩, hq, h2⟩ := Option.map_eq_some_iff.1 (rtZero (r : Int) ((refOut r k : Nat) : Int) ((refOut r (k + 1) : Nat) : Int) k (31 - k))
    simp only [facts2, Prod.mk.injEq, List.cons.injEq] at h2
    obtain ⟨rfl, h3, ⟨h4, h5, h6, _⟩, rfl, rfl⟩ := h2
    refine ⟨_, T1, x1, _, hq, ?_, h3, h4, h5, h6⟩
    simp only [Ob.ok_cons, Ob.ok_nil, and_true]
    have hlt := refOut_lt h (k := k + 1) (by omega)
    refine ⟨e0, e1, ob_T (by rw [hb, hr, eqU_eq]; rfl), congrArg u64 ?_, congrArg u32 ?_, e2⟩
    · rw [subN_eq _ _ (by omega), IntWalk.u64_in _ (by omega)]; omega
    · have : addV ((refOut r k : Nat) : Int) (shlV 1 (((31 - k : Nat)) : Int)) = IntKind.u32.wrap (((refOut r k : Nat) : Int) + shlV 1 (((31 - k : Nat)) : Int)) := rfl
      rw [this, shlV_eq k hk, hO, IntWalk.u32_in _ (by omega)]
      omega
/-! the contract -/
noncomputable def partsR : List Code × Code × Code × Code × Code × Code := match Try.f53.body with
  | some c => ([], c, .skip, .skip, .skip, .skip)
  | none => ([], .skip, .skip, .skip, .skip, .skip)
def rho1 (st : St) (id i : Nat) : Nat := if i = 0 then id else st.next + (i - 1)
theorem emb1 {st : St} {id : Nat} {vs : List AV} (hg : st.get id = some (.row vs 5)) (hv : ∀ ρ, renL ρ vs = vs) (hwf : st.wf) (hl : id ∉ st.lock) : Emb (st1R vs) st (rho1 st id) := by
  have h0 : ∀ id', ((⟨1, .nil, [], []⟩ : St)).get id' = none := fun id' => by cases id' <;> rfl
  have g : ∀ i, (st1R vs).get i = if i = 0 then some (.row vs 5) else none := fun i => by
    unfold st1R; rw [St.get_set]; split
    · rfl
    · exact h0 i
  have present : ∀ i o, (st1R vs).get i = some o → i = 0 ∧ o = .row vs 5 := fun i o ho => by
    rw [g] at ho
    split at ho
    · rename_i hi; cases ho; exact ⟨hi, rfl⟩
    · cases ho
  refine ⟨fun i hi => ?_, fun i hi => ?_, fun i j o o' hi hj _ => ?_, fun i o ho => ?_, fun i o ho => ?_, fun i o ho => ?_, fun p hp => by cases hp⟩
  · have : 1 ≤ i := hi
    unfold rho1; rw [if_neg (by omega)]; rfl
  · have : i < 1 := hi
    obtain rfl : i = 0 := by omega
    exact hwf _ _ hg
  · rw [(present i o hi).1, (present j o' hj).1]
  · obtain ⟨rfl, rfl⟩ := present i o ho
    rw [show rho1 st id 0 = id from rfl, hg]
    simp only [AObj.ren, hv]
  · obtain ⟨rfl, _⟩ := present i o ho
    exact Nat.zero_lt_one
  · obtain ⟨rfl, _⟩ := present i o ho
    constructor
    · intro h; simp [st1R, St.set] at h
    · intro h; exact absurd h hl
theorem T1R_get (off len : Nat) (full : Bool) (r i : Int) (t : Nat) : (T1R off len full r i).get t = if 0 = t then .sl 0 1 off len full else if 3 = t then u64 r else if 4 = t then i64 i else .undef := rfl
theorem T2R_get (r i o : Int) (t : Nat) : (T2R r i o).get t = if 3 = t then u64 r else if 6 = t then u32 o else if 7 = t then i64 i else .undef := rfl
end F
end
section
set_option maxRecDepth 100000
namespace F
noncomputable def pcs (i : Nat) : Code := match Try.f53.body with
  | some (.seq r0 (.seq r1 (.seq (.seq r2 _) (.seq r13 (.seq (.seq r14 _) (.seq r19 _)))))) => [r0, r1, r2, r13, r14, r19].getD i .skip
  | _ => .skip
theorem body53 : Try.f53.body = some (.seq (pcs 0) (.seq (pcs 1) (.seq (.seq (pcs 2) (.block 0 (.loop (bodyR 0)))) (.seq (pcs 3) (.seq (.seq (pcs 4) (.block 2 (.loop (bodyR 1)))) (.seq (pcs 5) .ret)))))) := by kernel_rfl
noncomputable def evP (i : Nat) (l : List (Nat × AV)) (st : St) := (evS E0 (fun _ _ _ => none) sitesR 100000 [] (pcs i) ⟨62, l, []⟩ st []).map fun q => (q.1, q.2.1.n, [q.2.1.get 0, q.2.1.get 2, q.2.1.get 3, q.2.1.get 4, q.2.1.get 6, q.2.1.get 7], q.2.2.1, q.2.2.2.2)
theorem pc0 (vs : List AV) (off len : Nat) (full : Bool) : evP 0 [(0, .sl 0 1 off len full)] (st1R vs) = some (.normal, 62, [.sl 0 1 off len full, u32 0, .undef, .undef, .undef, .undef], st1R vs, []) := by kernel_rfl
theorem pc1 (vs : List AV) (off len : Nat) (full : Bool) : evP 1 [(0, .sl 0 1 off len full)] (st1R vs) = some (.normal, 62, [.sl 0 1 off len full, .undef, u64 0, .undef, .undef, .undef], st1R vs, []) := by kernel_rfl
theorem pc2 (vs : List AV) (off len : Nat) (full : Bool) : evP 2 [(0, .sl 0 1 off len full), (3, u64 0)] (st1R vs) = some (.normal, 62, [.sl 0 1 off len full, .undef, u64 0, i64 0, .undef, .undef], st1R vs, []) := by kernel_rfl
theorem pc3 (r : Int) : evP 3 [(3, u64 r)] st00 = some (.normal, 62, [.undef, .undef, u64 r, .undef, u32 0, .undef], st00, []) := by kernel_rfl
theorem pc4 (r : Int) : evP 4 [(3, u64 r), (6, u32 0)] st00 = some (.normal, 62, [.undef, .undef, u64 r, .undef, u32 0, i64 0], st00, []) := by kernel_rfl
theorem pc5 (o : Int) : evP 5 [(6, u32 o)] st00 = some (.normal, 62, [.undef, u32 o, .undef, .undef, u32 o, .undef], st00, []) := by kernel_rfl
theorem emb0 (st : St) : Emb st00 st (fun i => st.next + i) :=
  ⟨fun i _ => rfl, fun i h => by simp [st00] at h, fun i j o o' h => by simp [st00, St.get, Tr.get] at h, fun id o h => by simp [st00, St.get, Tr.get] at h, fun id o h => by simp [st00, St.get, Tr.get] at h, fun id o h => by simp [st00, St.get, Tr.get] at h, fun p hp => by cases hp⟩
theorem piece {i : Nat} {l : List (Nat × AV)} {st0 st : St} {e : Exit} {n : Nat} {a0 a2 a3 a4 a6 a7 : AV} {T : Tm} {ρ : Nat → Nat} (h : evP i l st0 = some (e, n, [a0, a2, a3, a4, a6, a7], st0, [])) (hE : Emb st0 st ρ) (hn : T.n = 62) (hT : ∀ p ∈ l, T.get p.1 = ren ρ p.2) :
    AW Try.prog (pcs i) (fun e' T' st' => e' = e ∧ T'.n = n ∧ T'.get 0 = ren ρ a0 ∧ T'.get 2 = ren ρ a2 ∧ T'.get 3 = ren ρ a3 ∧ T'.get 4 = ren ρ a4 ∧ T'.get 6 = ren ρ a6 ∧ T'.get 7 = ren ρ a7 ∧ Same st st') T st := by
  obtain ⟨⟨e1, T1, st1, x1, ob1⟩, hq, h2⟩ := Option.map_eq_some_iff.1 h
  simp only [Prod.mk.injEq, List.cons.injEq] at h2
  obtain ⟨rfl, h3, ⟨h4, h5, h6, h7, h8, h9, _⟩, rfl, rfl⟩ := h2
  have look_or : ∀ (l : List (Nat × AV)), (∀ p ∈ l, T.get p.1 = ren ρ p.2) → ∀ t, look l t = .undef ∨ T.get t = ren ρ (look l t) := by
    intro l
    induction l with
    | nil => intro _ t; exact .inl rfl
    | cons p r ih =>
      intro hp t
      obtain ⟨u, v⟩ := p
      simp only [look]
      by_cases hu : u = t
      · subst hu; rw [if_pos rfl]; exact .inr (hp (u, v) (List.mem_cons_self ..))
      · rw [if_neg hu]; exact ih (fun q hq => hp q (List.mem_cons_of_mem _ hq)) t
  refine (AW.same (sites := sitesR) (envOf_ok (P := Try.prog) rfl) (ov := fun _ _ _ => none) (fun f args st r st' p h => by cases h) hq Ob.ok_nil hE hn (look_or l hT) rfl).mono fun e' T' st' hp => ?_
  obtain ⟨rfl, rfl, hs⟩ := hp
  refine ⟨rfl, h3, ?_, ?_, ?_, ?_, ?_, ?_, hs⟩ <;> rw [renT_get]
  · rw [h4]
  · rw [h5]
  · rw [h6]
  · rw [h7]
  · rw [h8]
  · rw [h9]
end F
end
section
set_option maxRecDepth 100000
namespace F
theorem loop1_ok {st : St} {id off len : Nat} {full : Bool} {vs : List AV} {xs : List Nat} (hg : st.get id = some (.row vs 5)) (hv : ∀ ρ, renL ρ vs = vs) (hlk : id ∉ st.lock) (hl : len < 1000000) (hlen : xs.length = len)
    (hxs : ∀ i, i < len → partA E0 5 vs (off + (i : Int).toNat * 1) = some (u8 ((xs.getD i 0 : Nat) : Int))) (h256 : ∀ x ∈ xs, x < 256) {T : Tm} {st' : St} (hS : Same st st') (hn : T.n = 62) (h0 : T.get 0 = .sl id 1 off len full) (h3 : T.get 3 = u64 0) (h4 : T.get 4 = i64 0) :
    AW Try.prog (.loop (bodyR 0)) (fun e T' st2 => e = .exit 0 ∧ Same st st2 ∧ T'.n = 62 ∧ T'.get 3 = u64 ((refReg (refBits xs) (8 * len + 32) : Nat) : Int)) T st' := by
  refine .loop (fun n T st2 => ∃ k, k ≤ 8 * len + 32 ∧ n = 8 * len + 32 - k ∧ Same st st2 ∧ T.n = 62 ∧ T.get 0 = .sl id 1 off len full ∧ T.get 3 = u64 ((refReg (refBits xs) k : Nat) : Int) ∧ T.get 4 = i64 (k : Int)) (8 * len + 32) ⟨0, by omega, by omega, hS, hn, h0, h3, h4⟩ fun n T st2 hI => ?_
  obtain ⟨k, hk, rfl, s2, n2, g0, g3, g4⟩ := hI
  refine AW.wf fun w2 => ?_
  have hE := emb1 (s2.get _ _ hg) hv w2 (by rw [s2.lock]; exact hlk)
  have hT : ∀ t, (T1R off len full ((refReg (refBits xs) k : Nat) : Int) (k : Int)).get t = .undef ∨ T.get t = ren (rho1 st2 id) ((T1R off len full ((refReg (refBits xs) k : Nat) : Int) (k : Int)).get t) := fun t => by
    rw [T1R_get]
    by_cases h0 : 0 = t
    · subst h0; right; rw [if_pos rfl, g0]; rfl
    rw [if_neg h0]
    by_cases h3 : 3 = t
    · subst h3; right; rw [if_pos rfl, g3]; rfl
    rw [if_neg h3]
    by_cases h4 : 4 = t
    · subst h4; right; rw [if_pos rfl, g4]; rfl
    rw [if_neg h4]; exact .inl rfl
  rcases Nat.lt_or_ge k (8 * len + 32) with hlt | hge
  · obtain ⟨x, T1, x1, ob, hq, hob, k1, k2, k3, k4⟩ := leafR_all (vs := vs) (off := off) (full := full) hl hlen hxs h256 hlt
    refine (AW.same (sites := sitesR) (envOf_ok (P := Try.prog) rfl) (ov := fun _ _ _ => none) (fun f args st r st' p h => by cases h) hq hob hE n2 hT rfl).mono fun e T' st3 hp => ?_
    obtain ⟨rfl, rfl, s3⟩ := hp
    refine ⟨8 * len + 32 - (k + 1), by omega, k + 1, by omega, rfl, s2.trans s3, k1, ?_, ?_, ?_⟩ <;> rw [renT_get]
    · rw [k2]; rfl
    · rw [k3]; rfl
    · rw [k4]; rfl
  · obtain rfl : k = 8 * len + 32 := by omega
    obtain ⟨⟨e1, T1, st1, x1, ob1⟩, hq, h2⟩ := Option.map_eq_some_iff.1 (rsEnd vs off len full ((refReg (refBits xs) (8 * len + 32) : Nat) : Int) ((8 * len + 32 : Nat) : Int))
    simp only [facts1, Prod.mk.injEq, List.cons.injEq] at h2
    obtain ⟨rfl, k1, ⟨k2, k3, k4, _⟩, rfl, rfl⟩ := h2
    have hob : Ob.ok [bo (ltN ((8 * len + 32 : Nat) : Int) (addN (mulN 8 len) 32)) = FF] := by
      simp only [Ob.ok_cons, Ob.ok_nil, and_true]
      exact ob_F (by rw [ltN_eq, mulN_eq _ _ (by omega), addN_eq _ _ (by omega)]; simp)
    refine (AW.same (sites := sitesR) (envOf_ok (P := Try.prog) rfl) (ov := fun _ _ _ => none) (fun f args st r st' p h => by cases h) hq hob hE n2 hT rfl).mono fun e T' st3 hp => ?_
    obtain ⟨rfl, rfl, s3⟩ := hp
    exact ⟨rfl, s2.trans s3, k1, by rw [renT_get, k3]; rfl⟩
theorem loop2_ok {st : St} {r : Nat} {q : BitVec 32} (hr : Turned r q) {T : Tm} {st' : St} (hS : Same st st') (hn : T.n = 62) (h3 : T.get 3 = u64 (r : Int)) (h6 : T.get 6 = u32 0) (h7 : T.get 7 = i64 0) :
    AW Try.prog (.loop (bodyR 1)) (fun e T' st2 => e = .exit 2 ∧ Same st st2 ∧ T'.n = 62 ∧ T'.get 6 = u32 ((refOut r 32 : Nat) : Int)) T st' := by
  refine .loop (fun n T st2 => ∃ k, k ≤ 32 ∧ n = 32 - k ∧ Same st st2 ∧ T.n = 62 ∧ T.get 3 = u64 (r : Int) ∧ T.get 6 = u32 ((refOut r k : Nat) : Int) ∧ T.get 7 = i64 (k : Int)) 32 ⟨0, by omega, by omega, hS, hn, h3, h6, h7⟩ fun n T st2 hI => ?_
  obtain ⟨k, hk, rfl, s2, n2, g3, g6, g7⟩ := hI
  have hT : ∀ t, (T2R (r : Int) (k : Int) ((refOut r k : Nat) : Int)).get t = .undef ∨ T.get t = ren (fun i => st2.next + i) ((T2R (r : Int) (k : Int) ((refOut r k : Nat) : Int)).get t) := fun t => by
    rw [T2R_get]
    by_cases h0 : 3 = t
    · subst h0; right; rw [if_pos rfl, g3]; rfl
    rw [if_neg h0]
    by_cases h3 : 6 = t
    · subst h3; right; rw [if_pos rfl, g6]; rfl
    rw [if_neg h3]
    by_cases h4 : 7 = t
    · subst h4; right; rw [if_pos rfl, g7]; rfl
    rw [if_neg h4]; exact .inl rfl
  rcases Nat.lt_or_ge k 32 with hlt | hge
  · obtain ⟨x, T1, x1, ob, hq, hob, k1, k2, k3, k4⟩ := leafT_all hr hlt
    refine (AW.same (sites := sitesR) (envOf_ok (P := Try.prog) rfl) (ov := fun _ _ _ => none) (fun f args st r st' p h => by cases h) hq hob (emb0 st2) n2 hT rfl).mono fun e T' st3 hp => ?_
    obtain ⟨rfl, rfl, s3⟩ := hp
    refine ⟨32 - (k + 1), by omega, k + 1, by omega, rfl, s2.trans s3, k1, ?_, ?_, ?_⟩ <;> rw [renT_get]
    · rw [k2]; rfl
    · rw [k3]; rfl
    · rw [k4]; rfl
  · obtain rfl : k = 32 := by omega
    obtain ⟨⟨e1, T1, st1, x1, ob1⟩, hq, h2⟩ := Option.map_eq_some_iff.1 (rtEnd (r : Int) ((refOut r 32 : Nat) : Int) ((32 : Nat) : Int))
    simp only [facts2, Prod.mk.injEq, List.cons.injEq] at h2
    obtain ⟨rfl, k1, ⟨k2, k3, k4, _⟩, rfl, rfl⟩ := h2
    have hob : Ob.ok [bo (ltN ((32 : Nat) : Int) 32) = FF] := by
      simp only [Ob.ok_cons, Ob.ok_nil, and_true]
      exact ob_F (by rw [ltN_eq]; simp)
    refine (AW.same (sites := sitesR) (envOf_ok (P := Try.prog) rfl) (ov := fun _ _ _ => none) (fun f args st r st' p h => by cases h) hq hob (emb0 st2) n2 hT rfl).mono fun e T' st3 hp => ?_
    obtain ⟨rfl, rfl, s3⟩ := hp
    exact ⟨rfl, s2.trans s3, k1, by rw [renT_get, k3]; rfl⟩
/-- escritoireref14.Sum -/
theorem refSum_ok {st : St} {id off len : Nat} {full : Bool} {vs : List AV} {xs : List Nat} (hg : st.get id = some (.row vs 5)) (hv : ∀ ρ, renL ρ vs = vs) (hlk : id ∉ st.lock) (hl : len < 1000000) (hlen : xs.length = len)
    (hxs : ∀ i, i < len → partA E0 5 vs (off + (i : Int).toNat * 1) = some (u8 ((xs.getD i 0 : Nat) : Int))) (h256 : ∀ x ∈ xs, x < 256) :
    ACalls Try.prog 53 [.sl id 1 off len full] (fun a st' => a = u32 (crcMore 0 (xs.map Int.ofNat)) ∧ st' = st) st := by
  rw [sums_agree xs h256, hlen]
  refine ACalls.very (ACalls.wf fun hwf => ACalls.body (E := E0) (envOf_ok (P := Try.prog) rfl) Try.func53 body53 ?_)
  have eE : ∀ {s : St}, Same st s → s.wf → Emb (st1R vs) s (rho1 s id) := fun h w => emb1 (h.get _ _ hg) hv w (by rw [h.lock]; exact hlk)
  refine .seq ((piece (pc0 vs off len full) (eE (Same.refl st) hwf) rfl (fun p hp => ?_)).mono fun e T1 s1 h => ?_)
  · obtain rfl := List.mem_singleton.1 hp; rfl
  obtain ⟨rfl, n1, a0, _, _, _, _, _, m1⟩ := h
  simp only [thenA]
  refine AW.wf fun w1 => .seq ((piece (pc1 vs off len full) (eE m1 w1) n1 (fun p hp => ?_)).mono fun e T2 s2 h => ?_)
  · obtain rfl := List.mem_singleton.1 hp; exact a0
  obtain ⟨rfl, n2, b0, _, b3, _, _, _, m2⟩ := h
  simp only [thenA]
  have m2' := m1.trans m2
  refine AW.wf fun w2 => .seq (.seq ((piece (pc2 vs off len full) (eE m2' w2) n2 (fun p hp => ?_)).mono fun e T3 s3 h => ?_))
  · rcases List.mem_cons.1 hp with rfl | hp
    · exact b0
    · obtain rfl := List.mem_singleton.1 hp; exact b3
  obtain ⟨rfl, n3, c0, _, c3, c4, _, _, m3⟩ := h
  simp only [thenA]
  refine .block ((loop1_ok hg hv hlk hl hlen hxs h256 (m2'.trans m3) n3 c0 c3 c4).mono fun e T4 s4 h => ?_)
  obtain ⟨rfl, m4, n4, d3⟩ := h
  simp only [blockA, if_true, thenA]
  refine .seq ((piece (pc3 ((refReg (refBits xs) (8 * len + 32) : Nat) : Int)) (emb0 s4) n4 (fun p hp => ?_)).mono fun e T5 s5 h => ?_)
  · obtain rfl := List.mem_singleton.1 hp; exact d3
  obtain ⟨rfl, n5, _, _, e3, _, e6, _, m5⟩ := h
  simp only [thenA]
  refine .seq (.seq ((piece (pc4 ((refReg (refBits xs) (8 * len + 32) : Nat) : Int)) (emb0 s5) n5 (fun p hp => ?_)).mono fun e T6 s6 h => ?_))
  · rcases List.mem_cons.1 hp with rfl | hp
    · exact e3
    · obtain rfl := List.mem_singleton.1 hp; exact e6
  obtain ⟨rfl, n6, _, _, f3, _, f6, f7, m6⟩ := h
  simp only [thenA]
  refine .block ((loop2_ok (turned (refBits xs) (8 * len + 32)) ((m4.trans m5).trans m6) n6 f3 f6 f7).mono fun e T7 s7 h => ?_)
  obtain ⟨rfl, m7, n7, g6⟩ := h
  simp only [blockA, if_true, thenA]
  refine .seq ((piece (pc5 ((refOut (refReg (refBits xs) (8 * len + 32)) 32 : Nat) : Int)) (emb0 s7) n7 (fun p hp => ?_)).mono fun e T8 s8 h => ?_)
  · obtain rfl := List.mem_singleton.1 hp; exact g6
  obtain ⟨rfl, n8, _, h2, _, _, _, _, m8⟩ := h
  simp only [thenA]
  refine .ret ⟨[T8.get 2], rfl, ?_, m7.trans m8⟩
  simp only [oneOrTup]
  rw [h2]; rfl
end F
end
end Go.Proofs.Ytniaiciabfdbnaa.E
