/- Two ways to a CRC agree: the program's fold over bytes and the document's fold over bits. No condition beyond those that the lemmas name. -/
import Derived.Test.YtniaiciabfdbnaaOv
namespace Go.Proofs.Ytniaiciabfdbnaa.E
open Go Go.Proofs
set_option maxRecDepth 4000
/-! ### two ways to a CRC agree (bits, the lowest of a byte first) -/
def crcG (n : BitVec 32) : BitVec 32 := (n >>> 1) ^^^ (bif n.getLsbD 0 then 0xedb88320#32 else 0#32)
def topB (b : Bool) : BitVec 32 := bif b then 0x80000000#32 else 0#32
def lowB (b : Bool) : BitVec 32 := bif b then 1#32 else 0#32
theorem crcG_xor (a b : BitVec 32) : crcG (a ^^^ b) = crcG a ^^^ crcG b := by
  unfold crcG
  rw [BitVec.ushiftRight_xor_distrib, BitVec.getLsbD_xor]
  have lc : ∀ x y z : BitVec 32, x ^^^ (y ^^^ z) = y ^^^ (x ^^^ z) := fun x y z => by rw [← BitVec.xor_assoc, BitVec.xor_comm x y, BitVec.xor_assoc]
  cases a.getLsbD 0 <;> cases b.getLsbD 0
  · simp
  · simp [BitVec.xor_assoc]
  · simp only [Bool.bne_false, cond_true, cond_false, BitVec.xor_zero]
    rw [BitVec.xor_assoc, BitVec.xor_assoc, BitVec.xor_comm (b >>> 1)]
  · simp only [bne_self_eq_false, cond_true, cond_false, BitVec.xor_zero]
    rw [BitVec.xor_assoc, lc (0xedb88320#32), BitVec.xor_self, BitVec.xor_zero]
theorem crcG_even {a : BitVec 32} (h : a.getLsbD 0 = false) : crcG a = a >>> 1 := by
  unfold crcG; rw [h]; simp
theorem topB_get (b : Bool) (j : Nat) (h : j < 32) : (topB b).getLsbD j = (b && decide (j = 31)) := by
  cases b
  · simp [topB]
  · simp only [topB, cond_true, Bool.true_and]
    have : ∀ j : Fin 32, (0x80000000#32).getLsbD j.val = decide (j.val = 31) := by decide
    exact this ⟨j, h⟩
theorem lowB_get (b : Bool) (j : Nat) (h : j < 32) : (lowB b).getLsbD j = (b && decide (j = 0)) := by
  cases b
  · simp [lowB]
  · simp only [lowB, cond_true, Bool.true_and]
    have : ∀ j : Fin 32, (1#32).getLsbD j.val = decide (j.val = 0) := by decide
    exact this ⟨j, h⟩
/-- the next 32 bits of a stream, the next one lowest -/
def shiftIn (f : Nat → Bool) : Nat → BitVec 32
  | 0 => 0#32
  | i + 1 => (shiftIn f i >>> 1) ^^^ topB (f i)
theorem shiftIn_get (f : Nat → Bool) : ∀ i, i ≤ 32 → ∀ j, j < 32 → (shiftIn f i).getLsbD j = (decide (32 - i ≤ j) && f (j - (32 - i)))
  | 0, _, j, hj => by simp [shiftIn]; omega
  | i + 1, hi, j, hj => by
    have ih := shiftIn_get f i (by omega)
    simp only [shiftIn]
    rw [BitVec.getLsbD_xor, BitVec.getLsbD_ushiftRight, topB_get _ _ hj]
    by_cases h : j = 31
    · subst h
      rw [BitVec.getLsbD_of_ge _ _ (by omega), show 31 - (32 - (i + 1)) = i by omega]
      simp
    · rw [ih (1 + j) (by omega), show 1 + j - (32 - i) = j - (32 - (i + 1)) by omega]
      have : (32 - i ≤ 1 + j) ↔ (32 - (i + 1) ≤ j) := by omega
      simp [h, this]
def wordAt (s : Nat → Bool) (k : Nat) : BitVec 32 := shiftIn (fun j => s (k + j)) 32
theorem wordAt_get (s : Nat → Bool) (k j : Nat) (h : j < 32) : (wordAt s k).getLsbD j = s (k + j) := by
  unfold wordAt
  rw [shiftIn_get _ 32 (by omega) j h]
  simp
theorem word_next (s : Nat → Bool) (k : Nat) : ((wordAt s k ^^^ lowB (s k)) >>> 1) ^^^ topB (s (k + 32)) = wordAt s (k + 1) := by
  apply BitVec.eq_of_getLsbD_eq
  intro j hj
  rw [BitVec.getLsbD_xor, BitVec.getLsbD_ushiftRight, BitVec.getLsbD_xor, topB_get _ _ hj, wordAt_get _ _ _ hj]
  by_cases h : j = 31
  · subst h
    have e1 : (wordAt s k).getLsbD (1 + 31) = false := BitVec.getLsbD_of_ge _ _ (by omega)
    have e2 : (lowB (s k)).getLsbD (1 + 31) = false := BitVec.getLsbD_of_ge _ _ (by omega)
    rw [e1, e2, show k + 1 + 31 = k + 32 by omega]
    simp
  · rw [wordAt_get _ _ _ (by omega), lowB_get _ _ (by omega), show k + (1 + j) = k + 1 + j by omega]
    have : ¬ (1 + j = 0) := by omega
    simp [h]
theorem word_even (s : Nat → Bool) (k : Nat) : (wordAt s k ^^^ lowB (s k)).getLsbD 0 = false := by
  rw [BitVec.getLsbD_xor, wordAt_get _ _ _ (by omega), lowB_get _ _ (by omega)]
  simp
/-- the program's register behind k bits -/
def regN (s : Nat → Bool) (n0 : BitVec 32) : Nat → BitVec 32
  | 0 => n0
  | k + 1 => crcG (regN s n0 k ^^^ lowB (s k))
/-- the document's, turned round: bits come in at the top -/
def regQ (c : Nat → Bool) : Nat → BitVec 32
  | 0 => 0#32
  | k + 1 => crcG (regQ c k) ^^^ topB (c k)
theorem regQ_start (c : Nat → Bool) : ∀ i, i ≤ 32 → ∀ j, j < 32 → (regQ c i).getLsbD j = (decide (32 - i ≤ j) && c (j - (32 - i)))
  | 0, _, j, hj => by simp [regQ]; omega
  | i + 1, hi, j, hj => by
    have ih := regQ_start c i (by omega)
    have h0 : (regQ c i).getLsbD 0 = false := by
      rw [ih 0 (by omega)]
      have : ¬ (32 - i ≤ 0) := by omega
      simp [this]
    simp only [regQ]
    rw [crcG_even h0, BitVec.getLsbD_xor, BitVec.getLsbD_ushiftRight, topB_get _ _ hj]
    by_cases h : j = 31
    · subst h
      rw [BitVec.getLsbD_of_ge _ _ (by omega), show 31 - (32 - (i + 1)) = i by omega]
      have : 32 - (i + 1) ≤ 31 := by omega
      simp
    · rw [ih (1 + j) (by omega), show 1 + j - (32 - i) = j - (32 - (i + 1)) by omega]
      have : (32 - i ≤ 1 + j) ↔ (32 - (i + 1) ≤ j) := by omega
      simp [h, this]
theorem regQ_step (s c : Nat → Bool) (n0 : BitVec 32) (hc : ∀ k, c (k + 32) = s (k + 32)) (h0 : regQ c 32 = n0 ^^^ wordAt s 0) : ∀ k, regQ c (k + 32) = regN s n0 k ^^^ wordAt s k
  | 0 => by simpa [regN] using h0
  | k + 1 => by
    have ih := regQ_step s c n0 hc h0 k
    rw [show k + 1 + 32 = (k + 32) + 1 by omega]
    show crcG (regQ c (k + 32)) ^^^ topB (c (k + 32)) = crcG (regN s n0 k ^^^ lowB (s k)) ^^^ wordAt s (k + 1)
    rw [ih, hc]
    have e : regN s n0 k ^^^ wordAt s k = (regN s n0 k ^^^ lowB (s k)) ^^^ (wordAt s k ^^^ lowB (s k)) := by
      rw [BitVec.xor_assoc, BitVec.xor_comm (wordAt s k), ← BitVec.xor_assoc (lowB (s k)), BitVec.xor_self, BitVec.zero_xor]
    rw [e, crcG_xor, crcG_even (word_even s k), BitVec.xor_assoc, word_next]
/-- both registers agree at the end -/
theorem crc_agree (s c : Nat → Bool) (m : Nat) (hs : ∀ k, m ≤ k → s k = false) (hc : ∀ k, c k = (if k < 32 then !(s k) else s k)) : regQ c (m + 32) = regN s 0xffffffff#32 m := by
  have h0 : regQ c 32 = 0xffffffff#32 ^^^ wordAt s 0 := by
    apply BitVec.eq_of_getLsbD_eq
    intro j hj
    rw [regQ_start c 32 (by omega) j hj, BitVec.getLsbD_xor, wordAt_get _ _ _ hj]
    have : ∀ j : Fin 32, (0xffffffff#32).getLsbD j.val = true := by decide
    rw [this ⟨j, hj⟩, hc]
    simp [hj]
  rw [regQ_step s c _ (fun k => by rw [hc, if_neg (by omega)]) h0 m]
  have : wordAt s m = 0#32 := by
    apply BitVec.eq_of_getLsbD_eq
    intro j hj
    rw [wordAt_get _ _ _ hj, hs _ (by omega)]
    simp
  rw [this, BitVec.xor_zero]
theorem xor32 (a b : BitVec 32) : valI (Op.intBits .xor .u32 (a.toNat : Int) (b.toNat : Int)) = ((a ^^^ b).toNat : Int) := by
  have : valI (Op.intBits .xor .u32 (a.toNat : Int) (b.toNat : Int)) = IntKind.u32.wrap (((BitVec.ofInt 32 (a.toNat : Int)) ^^^ (BitVec.ofInt 32 (b.toNat : Int))).toNat : Int) := rfl
  rw [this, BitVec.ofInt_natCast, BitVec.ofInt_natCast, BitVec.ofNat_toNat, BitVec.ofNat_toNat]
  simp only [BitVec.setWidth_eq]
  rw [IntWalk.u32_in]
  have := (a ^^^ b).isLt
  omega
theorem and32 (a b : BitVec 32) : valI (Op.intBits .and .u32 (a.toNat : Int) (b.toNat : Int)) = ((a &&& b).toNat : Int) := by
  have : valI (Op.intBits .and .u32 (a.toNat : Int) (b.toNat : Int)) = IntKind.u32.wrap (((BitVec.ofInt 32 (a.toNat : Int)) &&& (BitVec.ofInt 32 (b.toNat : Int))).toNat : Int) := rfl
  rw [this, BitVec.ofInt_natCast, BitVec.ofInt_natCast, BitVec.ofNat_toNat, BitVec.ofNat_toNat]
  simp only [BitVec.setWidth_eq]
  rw [IntWalk.u32_in]
  have := (a &&& b).isLt
  omega
theorem shr32 (a : BitVec 32) : valI (Op.shift .shr .u32 (a.toNat : Int) .u64 1) = ((a >>> 1).toNat : Int) := by
  have : valI (Op.shift .shr .u32 (a.toNat : Int) .u64 1) = (a.toNat : Int).fdiv (2 ^ 1) := rfl
  rw [this, Int.fdiv_eq_ediv_of_nonneg _ (by decide), BitVec.toNat_ushiftRight, Nat.shiftRight_eq_div_pow]
  rfl
theorem neg32 (b : Bool) : valI (Op.intArith .sub .u32 0 ((lowB b).toNat : Int)) = (((bif b then 0xffffffff#32 else 0#32) : BitVec 32).toNat : Int) := by
  cases b <;> rfl
theorem crcBit_eq (n : BitVec 32) : crcBit (n.toNat : Int) = ((crcG n).toNat : Int) := by
  have h1 : valI (Op.intBits .and .u32 (n.toNat : Int) 1) = ((lowB (n.getLsbD 0)).toNat : Int) := by
    have := and32 n 1#32
    rw [show ((1#32).toNat : Int) = 1 from rfl] at this
    rw [this]
    congr 2
    apply BitVec.eq_of_getLsbD_eq
    intro j hj
    rw [BitVec.getLsbD_and, lowB_get _ _ hj]
    have e : (1#32).getLsbD j = decide (j = 0) := by simp
    rw [e]
    by_cases h : j = 0
    · subst h; simp
    · simp [h]
  unfold crcBit
  rw [h1, neg32, shr32]
  have h2 := and32 (0xedb88320#32) (bif n.getLsbD 0 then 0xffffffff#32 else 0#32)
  rw [show ((0xedb88320#32).toNat : Int) = 3988292384 from rfl] at h2
  rw [h2, xor32]
  congr 2
  unfold crcG
  cases n.getLsbD 0
  · simp
  · have : (0xedb88320#32 &&& 0xffffffff#32) = 0xedb88320#32 := by decide
    simp [this]
def iterG : Nat → BitVec 32 → BitVec 32
  | 0, n => n
  | k + 1, n => iterG k (crcG n)
theorem iter8_eq : ∀ (k : Nat) (n : BitVec 32), iter8 crcBit k (n.toNat : Int) = ((iterG k n).toNat : Int)
  | 0, _ => rfl
  | k + 1, n => by simp only [iter8, iterG]; rw [crcBit_eq, iter8_eq k]
theorem iterG_succ : ∀ (k : Nat) (n : BitVec 32), iterG (k + 1) n = crcG (iterG k n)
  | 0, _ => rfl
  | k + 1, n => by rw [iterG, iterG_succ k (crcG n)]; rfl
theorem iterG_bits (n x : BitVec 32) : ∀ k, iterG k (n ^^^ x) = regN (fun i => x.getLsbD i) n k ^^^ (x >>> k)
  | 0 => by simp [iterG, regN]
  | k + 1 => by
    rw [iterG_succ, iterG_bits n x k]
    show _ = crcG (regN (fun i => x.getLsbD i) n k ^^^ lowB (x.getLsbD k)) ^^^ (x >>> (k + 1))
    generalize regN (fun i => x.getLsbD i) n k = r
    have e : r ^^^ (x >>> k) = (r ^^^ lowB (x.getLsbD k)) ^^^ ((x >>> k) ^^^ lowB (x.getLsbD k)) := by
      rw [BitVec.xor_assoc, BitVec.xor_comm (x >>> k), ← BitVec.xor_assoc (lowB _), BitVec.xor_self, BitVec.zero_xor]
    have h0 : ((x >>> k) ^^^ lowB (x.getLsbD k)).getLsbD 0 = false := by
      rw [BitVec.getLsbD_xor, BitVec.getLsbD_ushiftRight, lowB_get _ _ (by omega)]
      simp
    rw [e, crcG_xor, crcG_even h0]
    congr 1
    apply BitVec.eq_of_getLsbD_eq
    intro j hj
    rw [BitVec.getLsbD_ushiftRight, BitVec.getLsbD_xor, BitVec.getLsbD_ushiftRight, BitVec.getLsbD_ushiftRight]
    have : (lowB (x.getLsbD k)).getLsbD (1 + j) = false := by
      by_cases h : 1 + j < 32
      · rw [lowB_get _ _ h]
        have : ¬ (1 + j = 0) := by omega
        simp
      · exact BitVec.getLsbD_of_ge _ _ (by omega)
    rw [this, show k + (1 + j) = k + 1 + j by omega]
    simp
theorem crcByte_eq (n : BitVec 32) (x : Nat) (hx : x < 256) : crcByte (n.toNat : Int) (x : Int) = ((regN (fun i => x.testBit i) n 8).toNat : Int) := by
  have hw : IntKind.u32.wrap (x : Int) = ((BitVec.ofNat 32 x).toNat : Int) := by
    rw [IntWalk.u32_in _ (by omega), BitVec.toNat_ofNat, Nat.mod_eq_of_lt (by omega)]
  unfold crcByte
  rw [hw, xor32, iter8_eq, iterG_bits]
  have h8 : BitVec.ofNat 32 x >>> 8 = 0#32 := by
    apply BitVec.eq_of_toNat_eq
    rw [BitVec.toNat_ushiftRight, BitVec.toNat_ofNat, Nat.mod_eq_of_lt (by omega), Nat.shiftRight_eq_div_pow]
    simp
    omega
  rw [h8, BitVec.xor_zero]
  have : ∀ k, k ≤ 8 → regN (fun i => (BitVec.ofNat 32 x).getLsbD i) n k = regN (fun i => x.testBit i) n k := by
    intro k
    induction k with
    | zero => intro _; rfl
    | succ k ih =>
      intro hk
      show crcG (_ ^^^ lowB ((BitVec.ofNat 32 x).getLsbD k)) = crcG (_ ^^^ lowB (x.testBit k))
      rw [ih (by omega), BitVec.getLsbD_ofNat]
      have : k < 32 := by omega
      simp [this]
  rw [this 8 (by omega)]
/-- a text's bits -/
def bitsOf (xs : List Nat) (i : Nat) : Bool := (xs.getD (i / 8) 0).testBit (i % 8)
theorem regN_add (s : Nat → Bool) (n : BitVec 32) (a : Nat) : ∀ b, regN s n (a + b) = regN (fun i => s (a + i)) (regN s n a) b
  | 0 => rfl
  | b + 1 => by
    show crcG (regN s n (a + b) ^^^ lowB (s (a + b))) = crcG (regN (fun i => s (a + i)) (regN s n a) b ^^^ lowB (s (a + b)))
    rw [regN_add s n a b]
theorem regN_congr {s t : Nat → Bool} (n : BitVec 32) : ∀ k, (∀ i, i < k → s i = t i) → regN s n k = regN t n k
  | 0, _ => rfl
  | k + 1, h => by
    show crcG (_ ^^^ lowB (s k)) = crcG (_ ^^^ lowB (t k))
    rw [regN_congr n k fun i hi => h i (by omega), h k (by omega)]
theorem fold_eq : ∀ (xs : List Nat) (n : BitVec 32), (∀ x ∈ xs, x < 256) → (xs.map Int.ofNat).foldl crcByte (n.toNat : Int) = ((regN (bitsOf xs) n (8 * xs.length)).toNat : Int)
  | [], n, _ => rfl
  | x :: xs, n, h => by
    have hx := h x (List.mem_cons_self ..)
    rw [List.map_cons, List.foldl_cons, show Int.ofNat x = (x : Int) from rfl, crcByte_eq n x hx, fold_eq xs _ fun y hy => h y (List.mem_cons_of_mem _ hy)]
    rw [List.length_cons, show 8 * (xs.length + 1) = 8 + 8 * xs.length by omega, regN_add]
    have e1 : regN (bitsOf (x :: xs)) n 8 = regN (fun i => x.testBit i) n 8 := regN_congr n 8 fun i hi => by
      unfold bitsOf
      rw [show i / 8 = 0 by omega, show i % 8 = i by omega]
      rfl
    have e2 : (fun i => bitsOf (x :: xs) (8 + i)) = bitsOf xs := by
      funext i
      unfold bitsOf
      rw [show (8 + i) / 8 = i / 8 + 1 by omega, show (8 + i) % 8 = i % 8 by omega]
      rfl
    rw [e1, e2]
/-- the program's sum, by bits -/
theorem crcMore_bits (xs : List Nat) (h : ∀ x ∈ xs, x < 256) : crcMore 0 (xs.map Int.ofNat) = ((0xffffffff#32 ^^^ regN (bitsOf xs) 0xffffffff#32 (8 * xs.length)).toNat : Int) := by
  have h0 : valI (Op.intBits .xor .u32 IntKind.u32.max 0) = ((0xffffffff#32).toNat : Int) := rfl
  have h1 : IntKind.u32.max = ((0xffffffff#32).toNat : Int) := rfl
  unfold crcMore
  rw [h0, fold_eq xs _ h, h1, xor32]
/-- the document's register -/
def refStep (r : Nat) (b : Bool) : Nat := if (2 * r + b.toNat) >>> 32 = 1 then (2 * r + b.toNat) ^^^ 0x104c11db7 else 2 * r + b.toNat
def refReg (c : Nat → Bool) : Nat → Nat
  | 0 => 0
  | k + 1 => refStep (refReg c k) (c k)
def Turned (r : Nat) (q : BitVec 32) : Prop := r < 2 ^ 32 ∧ ∀ j, j < 32 → r.testBit j = q.getLsbD (31 - j)
theorem poly_bits : ∀ j : Fin 32, (0x104c11db7).testBit j.val = (0xedb88320#32).getLsbD (31 - j.val) := by decide
theorem turned_step {r : Nat} {q : BitVec 32} (h : Turned r q) (b : Bool) : Turned (refStep r b) (crcG q ^^^ topB b) := by
  obtain ⟨h1, h2⟩ := h
  have hb : b.toNat < 2 := by cases b <;> decide
  have t0 : (2 * r + b.toNat).testBit 0 = b := by cases b <;> simp [Nat.testBit_zero, Nat.add_mod]
  have ts : ∀ j, (2 * r + b.toNat).testBit (j + 1) = r.testBit j := fun j => by
    rw [Nat.testBit_succ, show (2 * r + b.toNat) / 2 = r by omega]
  have hq0 : q.getLsbD 0 = r.testBit 31 := by rw [h2 31 (by omega)]
  have bits : ∀ j, j < 32 → (crcG q ^^^ topB b).getLsbD (31 - j) = ((2 * r + b.toNat).testBit j ^^ (r.testBit 31 && (0x104c11db7).testBit j)) := fun j hj => by
    rw [BitVec.getLsbD_xor, topB_get _ _ (by omega)]
    unfold crcG
    rw [BitVec.getLsbD_xor, BitVec.getLsbD_ushiftRight, hq0]
    have hp := poly_bits ⟨j, hj⟩
    simp only at hp
    have e1 : (bif r.testBit 31 then 0xedb88320#32 else 0#32).getLsbD (31 - j) = (r.testBit 31 && (0x104c11db7).testBit j) := by
      rw [hp]; cases r.testBit 31 <;> simp
    rw [e1]
    cases j with
    | zero =>
      rw [t0, BitVec.getLsbD_of_ge _ _ (by omega)]
      simp [Bool.xor_comm]
    | succ j =>
      rw [ts, show 1 + (31 - (j + 1)) = 31 - j by omega, ← h2 j (by omega)]
      have hne : decide (31 - (j + 1) = 31) = false := decide_eq_false (by omega)
      rw [hne, Bool.and_false, Bool.xor_false]
  have hlt : 2 * r + b.toNat < 2 ^ 33 := by omega
  have h31 : (2 * r + b.toNat) >>> 32 = (r.testBit 31).toNat := by
    rw [Nat.shiftRight_eq_div_pow, Nat.toNat_testBit]
    omega
  unfold refStep
  rw [h31]
  cases hr : r.testBit 31 with
  | false =>
    rw [if_neg (by decide)]
    refine ⟨?_, fun j hj => ?_⟩
    · have : (2 * r + b.toNat) / 2 ^ 32 = 0 := by
        have := h31; rw [hr, Nat.shiftRight_eq_div_pow] at this; exact this
      omega
    · rw [bits j hj, hr]; simp
  | true =>
    rw [if_pos (by decide)]
    refine ⟨?_, fun j hj => ?_⟩
    · apply Nat.lt_pow_two_of_testBit
      intro i hi
      rw [Nat.testBit_xor]
      rcases Nat.eq_or_lt_of_le hi with e | hgt
      · subst e
        rw [ts 31, hr]; decide
      · have e1 : (2 * r + b.toNat).testBit i = false := Nat.testBit_lt_two_pow (Nat.lt_of_lt_of_le hlt (Nat.pow_le_pow_right (by omega) (by omega)))
        have e2 : (0x104c11db7).testBit i = false := Nat.testBit_lt_two_pow (Nat.lt_of_lt_of_le (by decide : 0x104c11db7 < 2 ^ 33) (Nat.pow_le_pow_right (by omega) (by omega)))
        rw [e1, e2]; rfl
    · rw [bits j hj, hr, Nat.testBit_xor]; simp
theorem turned (c : Nat → Bool) : ∀ k, Turned (refReg c k) (regQ c k)
  | 0 => ⟨by simp [refReg], fun j hj => by simp [refReg, regQ]⟩
  | k + 1 => turned_step (turned c k) (c k)
/-- what the document takes out of its register -/
def refOut (r : Nat) : Nat → Nat
  | 0 => 0
  | k + 1 => refOut r k + (if r.testBit k then 0 else 2 ^ (31 - k))
theorem refOut_bits (r : Nat) : ∀ k, k ≤ 32 → ∃ h, refOut r k = h * 2 ^ (32 - k) ∧ h < 2 ^ k ∧ ∀ j, j < k → h.testBit j = !(r.testBit (k - 1 - j))
  | 0, _ => ⟨0, by simp [refOut], by decide, fun j hj => by omega⟩
  | k + 1, hk => by
    obtain ⟨h, e, hl, hb⟩ := refOut_bits r k (by omega)
    refine ⟨2 * h + (if r.testBit k then 0 else 1), ?_, ?_, fun j hj => ?_⟩
    · rw [refOut, e, show 32 - k = (32 - (k + 1)) + 1 by omega, Nat.pow_succ, show 31 - k = 32 - (k + 1) by omega]
      cases r.testBit k <;> simp [Nat.add_mul, Nat.mul_comm, Nat.mul_assoc]
    · rw [Nat.pow_succ]; split <;> omega
    · cases j with
      | zero =>
        rw [show k + 1 - 1 - 0 = k by omega]
        cases r.testBit k <;> simp [Nat.testBit_zero, Nat.add_mod]
      | succ j =>
        rw [Nat.testBit_succ, show (2 * h + (if r.testBit k = true then 0 else 1)) / 2 = h by split <;> omega, hb j (by omega), show k + 1 - 1 - (j + 1) = k - 1 - j by omega]
theorem refOut_eq {r : Nat} {q : BitVec 32} (h : Turned r q) : refOut r 32 = (0xffffffff#32 ^^^ q).toNat := by
  obtain ⟨x, e, hl, hb⟩ := refOut_bits r 32 (by omega)
  rw [e, Nat.sub_self, Nat.pow_zero, Nat.mul_one]
  apply Nat.eq_of_testBit_eq
  intro j
  by_cases hj : j < 32
  · rw [hb j hj, h.2 _ (by omega), BitVec.testBit_toNat, BitVec.getLsbD_xor]
    have e1 : (0xffffffff#32).getLsbD j = true := by
      have : ∀ j : Fin 32, (0xffffffff#32).getLsbD j.val = true := by decide
      exact this ⟨j, hj⟩
    rw [e1, show 31 - (32 - 1 - j) = j by omega]
    simp
  · rw [Nat.testBit_lt_two_pow (Nat.lt_of_lt_of_le hl (Nat.pow_le_pow_right (by omega) (by omega))), BitVec.testBit_toNat, BitVec.getLsbD_of_ge _ _ (by omega)]
/-- the two sums are one -/
def refBits (xs : List Nat) (k : Nat) : Bool := if k < 32 then !(bitsOf xs k) else bitsOf xs k
theorem sums_agree (xs : List Nat) (h : ∀ x ∈ xs, x < 256) : crcMore 0 (xs.map Int.ofNat) = ((refOut (refReg (refBits xs) (8 * xs.length + 32)) 32 : Nat) : Int) := by
  rw [crcMore_bits xs h, refOut_eq (turned (refBits xs) _), crc_agree (bitsOf xs) (refBits xs) (8 * xs.length) (fun k hk => ?_) (fun k => rfl)]
  unfold bitsOf
  rw [List.getD_eq_getElem?_getD, List.getElem?_eq_none (by omega)]
  simp
end Go.Proofs.Ytniaiciabfdbnaa.E
