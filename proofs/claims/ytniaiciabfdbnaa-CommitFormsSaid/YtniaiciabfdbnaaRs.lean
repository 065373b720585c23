/- The document's Sum (function 53), over the abstract machine: the runs of its loops and its contract. No condition beyond those that the lemmas name. -/
import Derived.Test.YtniaiciabfdbnaaCs
import Derived.Test.YtniaiciabfdbnaaEs
namespace Go.Proofs.Ytniaiciabfdbnaa.E
open Go Go.Proofs
set_option maxRecDepth 100000
def u8 (n : Int) : AV := .val (.int .u8 n)
def u32 (n : Int) : AV := .val (.int .u32 n)
def u64 (n : Int) : AV := .val (.int .u64 n)
def i64 (n : Int) : AV := .val (.int .i64 n)
def FF : AV := .val (.bool false)
def TT : AV := .val (.bool true)
def bo (b : Bool) : AV := .val (.bool b)
def boolI (s : Sem Value) : Bool := match s with | .pure (.bool b) => b | _ => false
def ltN (a b : Int) : Bool := boolI (binOp .lss 3 (.int .i64 a) (.int .i64 b))
def eqU (a b : Int) : Bool := boolI (binOp .eql 22 (.int .u64 a) (.int .u64 b))
def addN (a b : Int) : Int := valI (binOp .add 3 (.int .i64 a) (.int .i64 b))
def subN (a b : Int) : Int := valI (binOp .sub 3 (.int .i64 a) (.int .i64 b))
def mulN (a b : Int) : Int := valI (binOp .mul 3 (.int .i64 a) (.int .i64 b))
def quoN (a b : Int) : Int := valI (binOp .quo 3 (.int .i64 a) (.int .i64 b))
def remN (a b : Int) : Int := valI (binOp .rem 3 (.int .i64 a) (.int .i64 b))
def addU (a b : Int) : Int := valI (binOp .add 22 (.int .u64 a) (.int .u64 b))
def mulU (a b : Int) : Int := valI (binOp .mul 22 (.int .u64 a) (.int .u64 b))
def andU (a b : Int) : Int := valI (binOp .and 22 (.int .u64 a) (.int .u64 b))
def xorU (a b : Int) : Int := valI (binOp .xor 22 (.int .u64 a) (.int .u64 b))
def shrU (a b : Int) : Int := valI (binOp .shr 22 (.int .u64 a) (.int .u64 b))
def addV (a b : Int) : Int := valI (binOp .add 88 (.int .u32 a) (.int .u32 b))
def shlV (a b : Int) : Int := valI (binOp .shl 88 (.int .u32 a) (.int .u64 b))
def sitesR : Nat → List Nat
  | 53 => [13, 15, 20, 23, 2024, 2025, 29, 31, 33, 35, 39, 42, 44, 46, 48, 51, 54, 58, 60]
  | _ => []
def loopsOf : Code → List Code
  | .loop c => [c]
  | .seq a b => loopsOf a ++ loopsOf b
  | .block _ c => loopsOf c
  | _ => []
noncomputable def bodyR (n : Nat) : Code := match Try.f53.body with | some c => (loopsOf c).getD n .skip | none => .skip
def st1R (vs : List AV) : St := (⟨1, .nil, [], []⟩ : St).set 0 (.row vs 5)
def T1R (off len : Nat) (full : Bool) (r i : Int) : Tm := ⟨62, [(0, .sl 0 1 off len full), (3, u64 r), (4, i64 i)], []⟩
def T2R (r i o : Int) : Tm := ⟨62, [(3, u64 r), (6, u32 o), (7, i64 i)], []⟩
noncomputable def evR (n : Nat) (T : Tm) (st : St) (x : List AV) := evS E0 (fun _ _ _ => none) sitesR 100000 (sitesR 53) (bodyR n) T st x
def facts1 (q : Exit × Tm × St × List AV × Ob) := (q.1, q.2.1.n, [q.2.1.get 0, q.2.1.get 3, q.2.1.get 4], q.2.2.1, q.2.2.2.2)
def facts2 (q : Exit × Tm × St × List AV × Ob) := (q.1, q.2.1.n, [q.2.1.get 3, q.2.1.get 6, q.2.1.get 7], q.2.2.1, q.2.2.2.2)
theorem rsBVR (vs : List AV) (off len : Nat) (full : Bool) (r i : Int) (j x : Int) (c : Nat) (bv : Int) (bw : Int) (r1 : Int) (r2 : Int) : (evR 0 (T1R off len full r i) (st1R vs) [TT, TT, i64 j, u8 x, u64 c, u64 bv, TT, u64 bw, u64 r1, TT, u64 r2, i64 (i + 1)]).map facts1 = some (.normal, 62, [.sl 0 1 off len full, u64 r2, i64 (i + 1)], st1R vs, [bo (ltN i (addN (mulN 8 len) 32)) = TT, bo (ltN i (mulN 8 len)) = TT, i64 (quoN i 8) = i64 j, (0 ≤ j ∧ j < (len : Int)), partA E0 5 vs (off + j.toNat * 1) = some (u8 x), u64 (IntKind.u64.wrap (remN i 8)) = u64 c, u64 (andU (shrU (IntKind.u64.wrap x) c) 1) = u64 bv, bo (ltN i 32) = TT, u64 (xorU bv 1) = u64 bw, u64 (addU (mulU 2 r) bw) = u64 r1, bo (eqU (shrU r1 32) 1) = TT, u64 (xorU r1 4374732215) = u64 r2, i64 (addN i 1) = i64 (i + 1)]) := by kernel_rfl
theorem rsBVr (vs : List AV) (off len : Nat) (full : Bool) (r i : Int) (j x : Int) (c : Nat) (bv : Int) (bw : Int) (r1 : Int) : (evR 0 (T1R off len full r i) (st1R vs) [TT, TT, i64 j, u8 x, u64 c, u64 bv, TT, u64 bw, u64 r1, FF, i64 (i + 1)]).map facts1 = some (.normal, 62, [.sl 0 1 off len full, u64 r1, i64 (i + 1)], st1R vs, [bo (ltN i (addN (mulN 8 len) 32)) = TT, bo (ltN i (mulN 8 len)) = TT, i64 (quoN i 8) = i64 j, (0 ≤ j ∧ j < (len : Int)), partA E0 5 vs (off + j.toNat * 1) = some (u8 x), u64 (IntKind.u64.wrap (remN i 8)) = u64 c, u64 (andU (shrU (IntKind.u64.wrap x) c) 1) = u64 bv, bo (ltN i 32) = TT, u64 (xorU bv 1) = u64 bw, u64 (addU (mulU 2 r) bw) = u64 r1, bo (eqU (shrU r1 32) 1) = FF, i64 (addN i 1) = i64 (i + 1)]) := by kernel_rfl
theorem rsBvR (vs : List AV) (off len : Nat) (full : Bool) (r i : Int) (j x : Int) (c : Nat) (bv : Int) (r1 : Int) (r2 : Int) : (evR 0 (T1R off len full r i) (st1R vs) [TT, TT, i64 j, u8 x, u64 c, u64 bv, FF, u64 r1, TT, u64 r2, i64 (i + 1)]).map facts1 = some (.normal, 62, [.sl 0 1 off len full, u64 r2, i64 (i + 1)], st1R vs, [bo (ltN i (addN (mulN 8 len) 32)) = TT, bo (ltN i (mulN 8 len)) = TT, i64 (quoN i 8) = i64 j, (0 ≤ j ∧ j < (len : Int)), partA E0 5 vs (off + j.toNat * 1) = some (u8 x), u64 (IntKind.u64.wrap (remN i 8)) = u64 c, u64 (andU (shrU (IntKind.u64.wrap x) c) 1) = u64 bv, bo (ltN i 32) = FF, u64 (addU (mulU 2 r) bv) = u64 r1, bo (eqU (shrU r1 32) 1) = TT, u64 (xorU r1 4374732215) = u64 r2, i64 (addN i 1) = i64 (i + 1)]) := by kernel_rfl
theorem rsBvr (vs : List AV) (off len : Nat) (full : Bool) (r i : Int) (j x : Int) (c : Nat) (bv : Int) (r1 : Int) : (evR 0 (T1R off len full r i) (st1R vs) [TT, TT, i64 j, u8 x, u64 c, u64 bv, FF, u64 r1, FF, i64 (i + 1)]).map facts1 = some (.normal, 62, [.sl 0 1 off len full, u64 r1, i64 (i + 1)], st1R vs, [bo (ltN i (addN (mulN 8 len) 32)) = TT, bo (ltN i (mulN 8 len)) = TT, i64 (quoN i 8) = i64 j, (0 ≤ j ∧ j < (len : Int)), partA E0 5 vs (off + j.toNat * 1) = some (u8 x), u64 (IntKind.u64.wrap (remN i 8)) = u64 c, u64 (andU (shrU (IntKind.u64.wrap x) c) 1) = u64 bv, bo (ltN i 32) = FF, u64 (addU (mulU 2 r) bv) = u64 r1, bo (eqU (shrU r1 32) 1) = FF, i64 (addN i 1) = i64 (i + 1)]) := by kernel_rfl
theorem rsbVR (vs : List AV) (off len : Nat) (full : Bool) (r i : Int) (bw : Int) (r1 : Int) (r2 : Int) : (evR 0 (T1R off len full r i) (st1R vs) [TT, FF, TT, u64 bw, u64 r1, TT, u64 r2, i64 (i + 1)]).map facts1 = some (.normal, 62, [.sl 0 1 off len full, u64 r2, i64 (i + 1)], st1R vs, [bo (ltN i (addN (mulN 8 len) 32)) = TT, bo (ltN i (mulN 8 len)) = FF, bo (ltN i 32) = TT, u64 (xorU 0 1) = u64 bw, u64 (addU (mulU 2 r) bw) = u64 r1, bo (eqU (shrU r1 32) 1) = TT, u64 (xorU r1 4374732215) = u64 r2, i64 (addN i 1) = i64 (i + 1)]) := by kernel_rfl
theorem rsbVr (vs : List AV) (off len : Nat) (full : Bool) (r i : Int) (bw : Int) (r1 : Int) : (evR 0 (T1R off len full r i) (st1R vs) [TT, FF, TT, u64 bw, u64 r1, FF, i64 (i + 1)]).map facts1 = some (.normal, 62, [.sl 0 1 off len full, u64 r1, i64 (i + 1)], st1R vs, [bo (ltN i (addN (mulN 8 len) 32)) = TT, bo (ltN i (mulN 8 len)) = FF, bo (ltN i 32) = TT, u64 (xorU 0 1) = u64 bw, u64 (addU (mulU 2 r) bw) = u64 r1, bo (eqU (shrU r1 32) 1) = FF, i64 (addN i 1) = i64 (i + 1)]) := by kernel_rfl
theorem rsbvR (vs : List AV) (off len : Nat) (full : Bool) (r i : Int) (r1 : Int) (r2 : Int) : (evR 0 (T1R off len full r i) (st1R vs) [TT, FF, FF, u64 r1, TT, u64 r2, i64 (i + 1)]).map facts1 = some (.normal, 62, [.sl 0 1 off len full, u64 r2, i64 (i + 1)], st1R vs, [bo (ltN i (addN (mulN 8 len) 32)) = TT, bo (ltN i (mulN 8 len)) = FF, bo (ltN i 32) = FF, u64 (addU (mulU 2 r) 0) = u64 r1, bo (eqU (shrU r1 32) 1) = TT, u64 (xorU r1 4374732215) = u64 r2, i64 (addN i 1) = i64 (i + 1)]) := by kernel_rfl
theorem rsbvr (vs : List AV) (off len : Nat) (full : Bool) (r i : Int) (r1 : Int) : (evR 0 (T1R off len full r i) (st1R vs) [TT, FF, FF, u64 r1, FF, i64 (i + 1)]).map facts1 = some (.normal, 62, [.sl 0 1 off len full, u64 r1, i64 (i + 1)], st1R vs, [bo (ltN i (addN (mulN 8 len) 32)) = TT, bo (ltN i (mulN 8 len)) = FF, bo (ltN i 32) = FF, u64 (addU (mulU 2 r) 0) = u64 r1, bo (eqU (shrU r1 32) 1) = FF, i64 (addN i 1) = i64 (i + 1)]) := by kernel_rfl
theorem rsEnd (vs : List AV) (off len : Nat) (full : Bool) (r i : Int) : (evR 0 (T1R off len full r i) (st1R vs) [FF]).map facts1 = some (.exit 0, 62, [.sl 0 1 off len full, u64 r, i64 i], st1R vs, [bo (ltN i (addN (mulN 8 len) 32)) = FF]) := by kernel_rfl
theorem rtOne (r o : Int) (i : Nat) : (evR 1 (T2R r i o) st00 [TT, u64 i, FF, i64 ((i : Int) + 1)]).map facts2 = some (.normal, 62, [u64 r, u32 o, i64 ((i : Int) + 1)], st00, [bo (ltN i 32) = TT, u64 (IntKind.u64.wrap i) = u64 i, bo (eqU (andU (shrU r i) 1) 0) = FF, i64 (addN i 1) = i64 ((i : Int) + 1)]) := by kernel_rfl
theorem rtZero (r o o2 : Int) (i n : Nat) : (evR 1 (T2R r i o) st00 [TT, u64 i, TT, u64 n, u32 o2, i64 ((i : Int) + 1)]).map facts2 = some (.normal, 62, [u64 r, u32 o2, i64 ((i : Int) + 1)], st00, [bo (ltN i 32) = TT, u64 (IntKind.u64.wrap i) = u64 i, bo (eqU (andU (shrU r i) 1) 0) = TT, u64 (IntKind.u64.wrap (subN 31 i)) = u64 n, u32 (addV o (shlV 1 n)) = u32 o2, i64 (addN i 1) = i64 ((i : Int) + 1)]) := by kernel_rfl
theorem rtEnd (r o : Int) (i : Int) : (evR 1 (T2R r i o) st00 [FF]).map facts2 = some (.exit 2, 62, [u64 r, u32 o, i64 i], st00, [bo (ltN i 32) = FF]) := by kernel_rfl
theorem ob_T {b : Bool} (h : b = true) : bo b = TT := by rw [h]; rfl
theorem ob_F {b : Bool} (h : b = false) : bo b = FF := by rw [h]; rfl
theorem ltN_eq (a b : Int) : ltN a b = decide (a < b) := rfl
theorem eqU_eq (a b : Int) : eqU a b = (a == b) := rfl
theorem addN_eq (a b : Int) (h : 0 ≤ a + b ∧ a + b ≤ 9223372036854775807) : addN a b = a + b := by
  have : addN a b = IntKind.i64.wrap (a + b) := rfl
  rw [this, IntWalk.i64_in _ (by omega)]
theorem subN_eq (a b : Int) (h : 0 ≤ a - b ∧ a - b ≤ 9223372036854775807) : subN a b = a - b := by
  have : subN a b = IntKind.i64.wrap (a - b) := rfl
  rw [this, IntWalk.i64_in _ (by omega)]
theorem mulN_eq (a b : Int) (h : 0 ≤ a * b ∧ a * b ≤ 9223372036854775807) : mulN a b = a * b := by
  have : mulN a b = IntKind.i64.wrap (a * b) := rfl
  rw [this, IntWalk.i64_in _ (by omega)]
theorem quoN_eq (a : Int) (h : 0 ≤ a ∧ a ≤ 9223372036854775807) : quoN a 8 = a / 8 := by
  have : quoN a 8 = IntKind.i64.wrap (a.tdiv 8) := rfl
  rw [this, Int.tdiv_eq_ediv_of_nonneg h.1, IntWalk.i64_in _ (by omega)]
theorem remN_eq (a : Int) (h : 0 ≤ a) : remN a 8 = a % 8 := by
  have : remN a 8 = a.tmod 8 := rfl
  rw [this, Int.tmod_eq_emod_of_nonneg h]
theorem addU_eq (a b : Int) (h : 0 ≤ a + b ∧ a + b ≤ 18446744073709551615) : addU a b = a + b := by
  have : addU a b = IntKind.u64.wrap (a + b) := rfl
  rw [this, IntWalk.u64_in _ h]
theorem mulU_eq (a b : Int) (h : 0 ≤ a * b ∧ a * b ≤ 18446744073709551615) : mulU a b = a * b := by
  have : mulU a b = IntKind.u64.wrap (a * b) := rfl
  rw [this, IntWalk.u64_in _ h]
theorem shrU_eq (a c : Nat) (h : c ≤ 64) : shrU (a : Int) (c : Int) = ((a >>> c : Nat) : Int) := by
  have : shrU (a : Int) (c : Int) = valI (Op.shift .shr .u64 (a : Int) .u64 (c : Int)) := rfl
  have h2 : valI (Op.shift .shr .u64 (a : Int) .u64 (c : Int)) = (a : Int).fdiv (2 ^ (min c 64)) := by
    unfold Op.shift
    rw [if_neg (by omega)]
    rfl
  rw [this, h2, Nat.min_eq_left h, Int.fdiv_eq_ediv_of_nonneg _ (Int.le_of_lt (Int.pow_pos (by decide))), Nat.shiftRight_eq_div_pow, Int.natCast_ediv, Int.natCast_pow]
  rfl
theorem andU_one (a : Nat) (h : a < 2 ^ 64) : andU (a : Int) 1 = ((a % 2 : Nat) : Int) := by
  have : andU (a : Int) 1 = IntKind.u64.wrap (((BitVec.ofInt 64 (a : Int)) &&& (BitVec.ofInt 64 ((1 : Nat) : Int))).toNat : Int) := rfl
  rw [this, BitVec.ofInt_natCast, BitVec.ofInt_natCast, BitVec.toNat_and, BitVec.toNat_ofNat, BitVec.toNat_ofNat, Nat.mod_eq_of_lt h, Nat.mod_eq_of_lt (by omega), Nat.and_one_is_mod, IntWalk.u64_in _ (by omega)]
theorem xorU_nat (a b : Nat) (ha : a < 2 ^ 64) (hb : b < 2 ^ 64) : xorU (a : Int) (b : Int) = ((a ^^^ b : Nat) : Int) := by
  have : xorU (a : Int) (b : Int) = IntKind.u64.wrap (((BitVec.ofInt 64 (a : Int)) ^^^ (BitVec.ofInt 64 (b : Int))).toNat : Int) := rfl
  have hx : a ^^^ b < 2 ^ 64 := Nat.xor_lt_two_pow ha hb
  rw [this, BitVec.ofInt_natCast, BitVec.ofInt_natCast, BitVec.toNat_xor, BitVec.toNat_ofNat, BitVec.toNat_ofNat, Nat.mod_eq_of_lt ha, Nat.mod_eq_of_lt hb, IntWalk.u64_in _ (by omega)]
theorem xorU_bit (b : Bool) : xorU ((b.toNat : Nat) : Int) 1 = (((!b).toNat : Nat) : Int) := by cases b <;> rfl
theorem refReg_lt (c : Nat → Bool) (k : Nat) : refReg c k < 2 ^ 32 := (turned c k).1
theorem step_red {r : Nat} {b : Bool} (h : (2 * r + b.toNat) >>> 32 = 1) : refStep r b = (2 * r + b.toNat) ^^^ 0x104c11db7 := by unfold refStep; rw [if_pos h]
theorem step_not {r : Nat} {b : Bool} (h : ¬ (2 * r + b.toNat) >>> 32 = 1) : refStep r b = 2 * r + b.toNat := by unfold refStep; rw [if_neg h]
theorem r1_eq {r : Nat} (b : Bool) (h : r < 2 ^ 32) : addU (mulU 2 (r : Int)) ((b.toNat : Nat) : Int) = ((2 * r + b.toNat : Nat) : Int) := by
  have hb : b.toNat < 2 := by cases b <;> decide
  rw [mulU_eq _ _ (by omega), addU_eq _ _ (by omega)]
  omega
theorem red_T {r1 : Nat} (h : r1 >>> 32 = 1) : bo (eqU (shrU (r1 : Int) 32) 1) = TT := ob_T (by
  have := shrU_eq r1 32 (by omega)
  rw [show ((32 : Nat) : Int) = 32 from rfl] at this
  rw [this, h, eqU_eq]; rfl)
theorem red_F {r1 : Nat} (h : ¬ r1 >>> 32 = 1) : bo (eqU (shrU (r1 : Int) 32) 1) = FF := ob_F (by
  have := shrU_eq r1 32 (by omega)
  rw [show ((32 : Nat) : Int) = 32 from rfl] at this
  rw [this, eqU_eq]
  refine beq_eq_false_iff_ne.2 fun e => h ?_
  generalize r1 >>> 32 = z at e ⊢
  omega)
theorem bit_eq (x c : Nat) (hx : x < 256) (hc : c < 8) : andU (shrU (IntKind.u64.wrap (x : Int)) (c : Int)) 1 = (((x.testBit c).toNat : Nat) : Int) := by
  rw [IntWalk.u64_in _ (by omega), shrU_eq x c (by omega), andU_one _ (by
    rw [Nat.shiftRight_eq_div_pow]
    exact Nat.lt_of_le_of_lt (Nat.div_le_self _ _) (by omega)), Nat.shiftRight_eq_div_pow, Nat.toNat_testBit]
theorem o_more {k len : Nat} (h : k < 8 * len + 32) (hl : len < 1000000) : bo (ltN k (addN (mulN 8 len) 32)) = TT := ob_T (by rw [ltN_eq, mulN_eq _ _ (by omega), addN_eq _ _ (by omega)]; simp; omega)
theorem r1_lt {r : Nat} (b : Bool) (h : r < 2 ^ 32) : 2 * r + b.toNat < 2 ^ 64 := by
  have hb : b.toNat < 2 := by cases b <;> decide
  omega
/-- one turn of the first loop, at the small store -/
def LeafR (vs : List AV) (off len : Nat) (full : Bool) (c : Nat → Bool) (k : Nat) : Prop :=
  ∃ x T1 x1 ob, evR 0 (T1R off len full ((refReg c k : Nat) : Int) ((k : Nat) : Int)) (st1R vs) x = some (.normal, T1, st1R vs, x1, ob) ∧ ob.ok ∧ T1.n = 62 ∧ T1.get 0 = .sl 0 1 off len full ∧ T1.get 3 = u64 ((refReg c (k + 1) : Nat) : Int) ∧ T1.get 4 = i64 ((k + 1 : Nat) : Int)
theorem leafR_of {vs : List AV} {off len : Nat} {full : Bool} {c : Nat → Bool} {k : Nat} {x : List AV} {r2 : Nat} {ob : Ob}
    (h : (evR 0 (T1R off len full ((refReg c k : Nat) : Int) ((k : Nat) : Int)) (st1R vs) x).map facts1 = some (.normal, 62, [.sl 0 1 off len full, u64 ((r2 : Nat) : Int), i64 ((k : Nat) + 1 : Int)], st1R vs, ob)) (hob : ob.ok) (hr : refReg c (k + 1) = r2) : LeafR vs off len full c k := by
  obtain ⟨⟨e, T1, st1, x1, ob1⟩, hq, h2⟩ := Option.map_eq_some_iff.1 h
  simp only [facts1, Prod.mk.injEq, List.cons.injEq] at h2
  obtain ⟨rfl, h3, ⟨h4, h5, h6, _⟩, rfl, rfl⟩ := h2
  exact ⟨x, T1, x1, _, hq, hob, h3, h4, by rw [h5, hr], h6⟩
theorem q_rsBVR {vs : List AV} {off len : Nat} {full : Bool} {c : Nat → Bool} {k x : Nat} (hl : len < 1000000) (hk : k < 8 * len + 32) (hb : k < 8 * len) (hv : k < 32) (hx : partA E0 5 vs (off + ((k / 8 : Nat) : Int).toNat * 1) = some (u8 ((x : Nat) : Int))) (hx2 : x < 256) (hc : c k = (!(x.testBit (k % 8)))) (hr : (2 * refReg c k + (!(x.testBit (k % 8))).toNat) >>> 32 = 1) : LeafR vs off len full c k := by
  refine leafR_of (rsBVR vs off len full ((refReg c k : Nat) : Int) ((k : Nat) : Int) ((k / 8 : Nat) : Int) ((x : Nat) : Int) (k % 8) (((x.testBit (k % 8)).toNat : Nat) : Int) (((!(x.testBit (k % 8))).toNat : Nat) : Int) ((2 * refReg c k + (!(x.testBit (k % 8))).toNat : Nat) : Int) (((2 * refReg c k + (!(x.testBit (k % 8))).toNat) ^^^ 4374732215 : Nat) : Int)) ?_ ?_
  · simp only [Ob.ok_cons, Ob.ok_nil, and_true]
    exact ⟨o_more hk hl, ob_T (by rw [ltN_eq, mulN_eq _ _ (by omega)]; simp; omega), congrArg i64 ((quoN_eq _ (by omega)).trans (by omega)), ⟨by omega, by omega⟩, hx, congrArg u64 (by rw [remN_eq _ (by omega), IntWalk.u64_in _ (by omega)]; omega), congrArg u64 (bit_eq x _ hx2 (by omega)), ob_T (by rw [ltN_eq]; simp; omega), congrArg u64 (xorU_bit (x.testBit (k % 8))), congrArg u64 (r1_eq (!(x.testBit (k % 8))) (refReg_lt c k)), red_T hr, congrArg u64 (xorU_nat _ _ (r1_lt _ (refReg_lt c k)) (by decide)), congrArg i64 (addN_eq _ _ (by omega))⟩
  · rw [show refReg c (k + 1) = refStep (refReg c k) (c k) from rfl, hc, step_red hr]
theorem q_rsBVr {vs : List AV} {off len : Nat} {full : Bool} {c : Nat → Bool} {k x : Nat} (hl : len < 1000000) (hk : k < 8 * len + 32) (hb : k < 8 * len) (hv : k < 32) (hx : partA E0 5 vs (off + ((k / 8 : Nat) : Int).toNat * 1) = some (u8 ((x : Nat) : Int))) (hx2 : x < 256) (hc : c k = (!(x.testBit (k % 8)))) (hr : ¬ (2 * refReg c k + (!(x.testBit (k % 8))).toNat) >>> 32 = 1) : LeafR vs off len full c k := by
  refine leafR_of (rsBVr vs off len full ((refReg c k : Nat) : Int) ((k : Nat) : Int) ((k / 8 : Nat) : Int) ((x : Nat) : Int) (k % 8) (((x.testBit (k % 8)).toNat : Nat) : Int) (((!(x.testBit (k % 8))).toNat : Nat) : Int) ((2 * refReg c k + (!(x.testBit (k % 8))).toNat : Nat) : Int)) ?_ ?_
  · simp only [Ob.ok_cons, Ob.ok_nil, and_true]
    exact ⟨o_more hk hl, ob_T (by rw [ltN_eq, mulN_eq _ _ (by omega)]; simp; omega), congrArg i64 ((quoN_eq _ (by omega)).trans (by omega)), ⟨by omega, by omega⟩, hx, congrArg u64 (by rw [remN_eq _ (by omega), IntWalk.u64_in _ (by omega)]; omega), congrArg u64 (bit_eq x _ hx2 (by omega)), ob_T (by rw [ltN_eq]; simp; omega), congrArg u64 (xorU_bit (x.testBit (k % 8))), congrArg u64 (r1_eq (!(x.testBit (k % 8))) (refReg_lt c k)), red_F hr, congrArg i64 (addN_eq _ _ (by omega))⟩
  · rw [show refReg c (k + 1) = refStep (refReg c k) (c k) from rfl, hc, step_not hr]
theorem q_rsBvR {vs : List AV} {off len : Nat} {full : Bool} {c : Nat → Bool} {k x : Nat} (hl : len < 1000000) (hk : k < 8 * len + 32) (hb : k < 8 * len) (hv : 32 ≤ k) (hx : partA E0 5 vs (off + ((k / 8 : Nat) : Int).toNat * 1) = some (u8 ((x : Nat) : Int))) (hx2 : x < 256) (hc : c k = (x.testBit (k % 8))) (hr : (2 * refReg c k + (x.testBit (k % 8)).toNat) >>> 32 = 1) : LeafR vs off len full c k := by
  refine leafR_of (rsBvR vs off len full ((refReg c k : Nat) : Int) ((k : Nat) : Int) ((k / 8 : Nat) : Int) ((x : Nat) : Int) (k % 8) (((x.testBit (k % 8)).toNat : Nat) : Int) ((2 * refReg c k + (x.testBit (k % 8)).toNat : Nat) : Int) (((2 * refReg c k + (x.testBit (k % 8)).toNat) ^^^ 4374732215 : Nat) : Int)) ?_ ?_
  · simp only [Ob.ok_cons, Ob.ok_nil, and_true]
    exact ⟨o_more hk hl, ob_T (by rw [ltN_eq, mulN_eq _ _ (by omega)]; simp; omega), congrArg i64 ((quoN_eq _ (by omega)).trans (by omega)), ⟨by omega, by omega⟩, hx, congrArg u64 (by rw [remN_eq _ (by omega), IntWalk.u64_in _ (by omega)]; omega), congrArg u64 (bit_eq x _ hx2 (by omega)), ob_F (by rw [ltN_eq]; simp; omega), congrArg u64 (r1_eq (x.testBit (k % 8)) (refReg_lt c k)), red_T hr, congrArg u64 (xorU_nat _ _ (r1_lt _ (refReg_lt c k)) (by decide)), congrArg i64 (addN_eq _ _ (by omega))⟩
  · rw [show refReg c (k + 1) = refStep (refReg c k) (c k) from rfl, hc, step_red hr]
theorem q_rsBvr {vs : List AV} {off len : Nat} {full : Bool} {c : Nat → Bool} {k x : Nat} (hl : len < 1000000) (hk : k < 8 * len + 32) (hb : k < 8 * len) (hv : 32 ≤ k) (hx : partA E0 5 vs (off + ((k / 8 : Nat) : Int).toNat * 1) = some (u8 ((x : Nat) : Int))) (hx2 : x < 256) (hc : c k = (x.testBit (k % 8))) (hr : ¬ (2 * refReg c k + (x.testBit (k % 8)).toNat) >>> 32 = 1) : LeafR vs off len full c k := by
  refine leafR_of (rsBvr vs off len full ((refReg c k : Nat) : Int) ((k : Nat) : Int) ((k / 8 : Nat) : Int) ((x : Nat) : Int) (k % 8) (((x.testBit (k % 8)).toNat : Nat) : Int) ((2 * refReg c k + (x.testBit (k % 8)).toNat : Nat) : Int)) ?_ ?_
  · simp only [Ob.ok_cons, Ob.ok_nil, and_true]
    exact ⟨o_more hk hl, ob_T (by rw [ltN_eq, mulN_eq _ _ (by omega)]; simp; omega), congrArg i64 ((quoN_eq _ (by omega)).trans (by omega)), ⟨by omega, by omega⟩, hx, congrArg u64 (by rw [remN_eq _ (by omega), IntWalk.u64_in _ (by omega)]; omega), congrArg u64 (bit_eq x _ hx2 (by omega)), ob_F (by rw [ltN_eq]; simp; omega), congrArg u64 (r1_eq (x.testBit (k % 8)) (refReg_lt c k)), red_F hr, congrArg i64 (addN_eq _ _ (by omega))⟩
  · rw [show refReg c (k + 1) = refStep (refReg c k) (c k) from rfl, hc, step_not hr]
theorem q_rsbVR {vs : List AV} {off len : Nat} {full : Bool} {c : Nat → Bool} {k : Nat} (hl : len < 1000000) (hk : k < 8 * len + 32) (hb : 8 * len ≤ k) (hv : k < 32) (hc : c k = (!false)) (hr : (2 * refReg c k + (!false).toNat) >>> 32 = 1) : LeafR vs off len full c k := by
  refine leafR_of (rsbVR vs off len full ((refReg c k : Nat) : Int) ((k : Nat) : Int) (((!false).toNat : Nat) : Int) ((2 * refReg c k + (!false).toNat : Nat) : Int) (((2 * refReg c k + (!false).toNat) ^^^ 4374732215 : Nat) : Int)) ?_ ?_
  · simp only [Ob.ok_cons, Ob.ok_nil, and_true]
    exact ⟨o_more hk hl, ob_F (by rw [ltN_eq, mulN_eq _ _ (by omega)]; simp; omega), ob_T (by rw [ltN_eq]; simp; omega), congrArg u64 (xorU_bit false), congrArg u64 (r1_eq (!false) (refReg_lt c k)), red_T hr, congrArg u64 (xorU_nat _ _ (r1_lt _ (refReg_lt c k)) (by decide)), congrArg i64 (addN_eq _ _ (by omega))⟩
  · rw [show refReg c (k + 1) = refStep (refReg c k) (c k) from rfl, hc, step_red hr]
theorem q_rsbVr {vs : List AV} {off len : Nat} {full : Bool} {c : Nat → Bool} {k : Nat} (hl : len < 1000000) (hk : k < 8 * len + 32) (hb : 8 * len ≤ k) (hv : k < 32) (hc : c k = (!false)) (hr : ¬ (2 * refReg c k + (!false).toNat) >>> 32 = 1) : LeafR vs off len full c k := by
  refine leafR_of (rsbVr vs off len full ((refReg c k : Nat) : Int) ((k : Nat) : Int) (((!false).toNat : Nat) : Int) ((2 * refReg c k + (!false).toNat : Nat) : Int)) ?_ ?_
  · simp only [Ob.ok_cons, Ob.ok_nil, and_true]
    exact ⟨o_more hk hl, ob_F (by rw [ltN_eq, mulN_eq _ _ (by omega)]; simp; omega), ob_T (by rw [ltN_eq]; simp; omega), congrArg u64 (xorU_bit false), congrArg u64 (r1_eq (!false) (refReg_lt c k)), red_F hr, congrArg i64 (addN_eq _ _ (by omega))⟩
  · rw [show refReg c (k + 1) = refStep (refReg c k) (c k) from rfl, hc, step_not hr]
theorem q_rsbvR {vs : List AV} {off len : Nat} {full : Bool} {c : Nat → Bool} {k : Nat} (hl : len < 1000000) (hk : k < 8 * len + 32) (hb : 8 * len ≤ k) (hv : 32 ≤ k) (hc : c k = false) (hr : (2 * refReg c k + false.toNat) >>> 32 = 1) : LeafR vs off len full c k := by
  refine leafR_of (rsbvR vs off len full ((refReg c k : Nat) : Int) ((k : Nat) : Int) ((2 * refReg c k + false.toNat : Nat) : Int) (((2 * refReg c k + false.toNat) ^^^ 4374732215 : Nat) : Int)) ?_ ?_
  · simp only [Ob.ok_cons, Ob.ok_nil, and_true]
    exact ⟨o_more hk hl, ob_F (by rw [ltN_eq, mulN_eq _ _ (by omega)]; simp; omega), ob_F (by rw [ltN_eq]; simp; omega), congrArg u64 (r1_eq false (refReg_lt c k)), red_T hr, congrArg u64 (xorU_nat _ _ (r1_lt _ (refReg_lt c k)) (by decide)), congrArg i64 (addN_eq _ _ (by omega))⟩
  · rw [show refReg c (k + 1) = refStep (refReg c k) (c k) from rfl, hc, step_red hr]
theorem q_rsbvr {vs : List AV} {off len : Nat} {full : Bool} {c : Nat → Bool} {k : Nat} (hl : len < 1000000) (hk : k < 8 * len + 32) (hb : 8 * len ≤ k) (hv : 32 ≤ k) (hc : c k = false) (hr : ¬ (2 * refReg c k + false.toNat) >>> 32 = 1) : LeafR vs off len full c k := by
  refine leafR_of (rsbvr vs off len full ((refReg c k : Nat) : Int) ((k : Nat) : Int) ((2 * refReg c k + false.toNat : Nat) : Int)) ?_ ?_
  · simp only [Ob.ok_cons, Ob.ok_nil, and_true]
    exact ⟨o_more hk hl, ob_F (by rw [ltN_eq, mulN_eq _ _ (by omega)]; simp; omega), ob_F (by rw [ltN_eq]; simp; omega), congrArg u64 (r1_eq false (refReg_lt c k)), red_F hr, congrArg i64 (addN_eq _ _ (by omega))⟩
  · rw [show refReg c (k + 1) = refStep (refReg c k) (c k) from rfl, hc, step_not hr]
theorem leafR_all {vs : List AV} {off len : Nat} {full : Bool} {xs : List Nat} {k : Nat} (hl : len < 1000000) (hlen : xs.length = len) (hxs : ∀ i, i < len → partA E0 5 vs (off + (i : Int).toNat * 1) = some (u8 ((xs.getD i 0 : Nat) : Int))) (h256 : ∀ x ∈ xs, x < 256) (hk : k < 8 * len + 32) :
    LeafR vs off len full (refBits xs) k := by
  by_cases hb : k < 8 * len
  · have hi : k / 8 < len := by omega
    have hx := hxs (k / 8) hi
    have hx2 : xs.getD (k / 8) 0 < 256 := by
      rw [List.getD_eq_getElem?_getD, List.getElem?_eq_getElem (by omega)]
      exact h256 _ (List.getElem_mem _)
    by_cases hv : k < 32
    · have hc : refBits xs k = !((xs.getD (k / 8) 0).testBit (k % 8)) := by unfold refBits bitsOf; rw [if_pos hv]
      by_cases hr : (2 * refReg (refBits xs) k + (!((xs.getD (k / 8) 0).testBit (k % 8))).toNat) >>> 32 = 1
      · exact q_rsBVR hl hk hb hv hx hx2 hc hr
      · exact q_rsBVr hl hk hb hv hx hx2 hc hr
    · have hc : refBits xs k = (xs.getD (k / 8) 0).testBit (k % 8) := by unfold refBits bitsOf; rw [if_neg hv]
      by_cases hr : (2 * refReg (refBits xs) k + ((xs.getD (k / 8) 0).testBit (k % 8)).toNat) >>> 32 = 1
      · exact q_rsBvR hl hk hb (by omega) hx hx2 hc hr
      · exact q_rsBvr hl hk hb (by omega) hx hx2 hc hr
  · have h0 : bitsOf xs k = false := by
      unfold bitsOf
      rw [List.getD_eq_getElem?_getD, List.getElem?_eq_none (by omega)]
      simp
    by_cases hv : k < 32
    · have hc : refBits xs k = !false := by unfold refBits; rw [if_pos hv, h0]
      by_cases hr : (2 * refReg (refBits xs) k + (!false).toNat) >>> 32 = 1
      · exact q_rsbVR hl hk (by omega) hv hc hr
      · exact q_rsbVr hl hk (by omega) hv hc hr
    · have hc : refBits xs k = false := by unfold refBits; rw [if_neg hv, h0]
      by_cases hr : (2 * refReg (refBits xs) k + (false).toNat) >>> 32 = 1
      · exact q_rsbvR hl hk (by omega) (by omega) hc hr
      · exact q_rsbvr hl hk (by omega) (by omega) hc hr
/-- the second loop's turn -/
theorem refOut_lt {r : Nat} {q : BitVec 32} (_h : Turned r q) {k : Nat} (hk : k ≤ 32) : refOut r k < 2 ^ 32 := by
  obtain ⟨x, e, hl, _⟩ := refOut_bits r k hk
  rw [e]
  calc x * 2 ^ (32 - k) < 2 ^ k * 2 ^ (32 - k) := Nat.mul_lt_mul_of_pos_right hl (Nat.pow_pos (by decide))
    _ = 2 ^ 32 := by rw [← Nat.pow_add]; congr 1; omega
theorem bit2_eq (r k : Nat) (hr : r < 2 ^ 32) (hk : k < 32) : andU (shrU (r : Int) (k : Int)) 1 = (((r.testBit k).toNat : Nat) : Int) := by
  rw [shrU_eq r k (by omega), andU_one _ (by
    rw [Nat.shiftRight_eq_div_pow]
    exact Nat.lt_of_le_of_lt (Nat.div_le_self _ _) (by omega)), Nat.shiftRight_eq_div_pow, Nat.toNat_testBit]
theorem shlV_eq (k : Nat) (hk : k < 32) : shlV 1 (((31 - k : Nat)) : Int) = ((2 ^ (31 - k) : Nat) : Int) := by
  have h2 : shlV 1 (((31 - k : Nat)) : Int) = IntKind.u32.wrap (1 * 2 ^ (min (31 - k) 32)) := by
    have : shlV 1 (((31 - k : Nat)) : Int) = valI (Op.shift .shl .u32 1 .u64 (((31 - k : Nat)) : Int)) := rfl
    rw [this]
    unfold Op.shift
    rw [if_neg (by omega)]
    rfl
  have hp : 2 ^ (31 - k) ≤ 2 ^ 31 := Nat.pow_le_pow_right (by decide) (by omega)
  rw [h2, Nat.min_eq_left (by omega), Int.one_mul, show (2 : Int) ^ (31 - k) = ((2 ^ (31 - k) : Nat) : Int) by rw [Int.natCast_pow]; rfl, IntWalk.u32_in _ ⟨Int.natCast_nonneg _, Int.ofNat_le.2 (Nat.le_trans hp (by decide))⟩]
def LeafT (r k : Nat) : Prop :=
  ∃ x T1 x1 ob, evR 1 (T2R (r : Int) (k : Int) ((refOut r k : Nat) : Int)) st00 x = some (.normal, T1, st00, x1, ob) ∧ ob.ok ∧ T1.n = 62 ∧ T1.get 3 = u64 (r : Int) ∧ T1.get 6 = u32 ((refOut r (k + 1) : Nat) : Int) ∧ T1.get 7 = i64 ((k + 1 : Nat) : Int)
theorem leafT_all {r : Nat} {q : BitVec 32} (h : Turned r q) {k : Nat} (hk : k < 32) : LeafT r k := by
  have e0 : bo (ltN (k : Int) 32) = TT := ob_T (by rw [ltN_eq]; simp; omega)
  have e1 : u64 (IntKind.u64.wrap (k : Int)) = u64 (k : Int) := congrArg u64 (IntWalk.u64_in _ (by omega))
  have e2 : i64 (addN (k : Int) 1) = i64 ((k : Int) + 1) := congrArg i64 (addN_eq _ _ (by omega))
  have hb := bit2_eq r k h.1 hk
  cases hr : r.testBit k with
  | true =>
    have hO : refOut r (k + 1) = refOut r k := by simp [refOut, hr]
    obtain ⟨⟨e, T1, st1, x1, ob1⟩, hq, h2⟩ := Option.map_eq_some_iff.1 (rtOne (r : Int) ((refOut r k : Nat) : Int) k)
    simp only [facts2, Prod.mk.injEq, List.cons.injEq] at h2
    obtain ⟨rfl, h3, ⟨h4, h5, h6, _⟩, rfl, rfl⟩ := h2
    refine ⟨_, T1, x1, _, hq, ?_, h3, h4, by rw [hO]; exact h5, h6⟩
    simp only [Ob.ok_cons, Ob.ok_nil, and_true]
    exact ⟨e0, e1, ob_F (by rw [hb, hr, eqU_eq]; rfl), e2⟩
  | false =>
    have hO : refOut r (k + 1) = refOut r k + 2 ^ (31 - k) := by simp [refOut, hr]
    obtain ⟨⟨e, T1, st1, x1, ob1⟩, hq, h2⟩ := Option.map_eq_some_iff.1 (rtZero (r : Int) ((refOut r k : Nat) : Int) ((refOut r (k + 1) : Nat) : Int) k (31 - k))
    simp only [facts2, Prod.mk.injEq, List.cons.injEq] at h2
    obtain ⟨rfl, h3, ⟨h4, h5, h6, _⟩, rfl, rfl⟩ := h2
    refine ⟨_, T1, x1, _, hq, ?_, h3, h4, h5, h6⟩
    simp only [Ob.ok_cons, Ob.ok_nil, and_true]
    have hlt := refOut_lt h (k := k + 1) (by omega)
    refine ⟨e0, e1, ob_T (by rw [hb, hr, eqU_eq]; rfl), congrArg u64 ?_, congrArg u32 ?_, e2⟩
    · rw [subN_eq _ _ (by omega), IntWalk.u64_in _ (by omega)]; omega
    · have : addV ((refOut r k : Nat) : Int) (shlV 1 (((31 - k : Nat)) : Int)) = IntKind.u32.wrap (((refOut r k : Nat) : Int) + shlV 1 (((31 - k : Nat)) : Int)) := rfl
      rw [this, shlV_eq k hk, hO, IntWalk.u32_in _ (by omega)]
      omega
/-! the contract -/
noncomputable def partsR : List Code × Code × Code × Code × Code × Code := match Try.f53.body with
  | some c => ([], c, .skip, .skip, .skip, .skip)
  | none => ([], .skip, .skip, .skip, .skip, .skip)
def rho1 (st : St) (id i : Nat) : Nat := if i = 0 then id else st.next + (i - 1)
theorem emb1 {st : St} {id : Nat} {vs : List AV} (hg : st.get id = some (.row vs 5)) (hv : ∀ ρ, renL ρ vs = vs) (hwf : st.wf) (hl : id ∉ st.lock) : Emb (st1R vs) st (rho1 st id) := by
  have h0 : ∀ id', ((⟨1, .nil, [], []⟩ : St)).get id' = none := fun id' => by cases id' <;> rfl
  have g : ∀ i, (st1R vs).get i = if i = 0 then some (.row vs 5) else none := fun i => by
    unfold st1R; rw [St.get_set]; split
    · rfl
    · exact h0 i
  have present : ∀ i o, (st1R vs).get i = some o → i = 0 ∧ o = .row vs 5 := fun i o ho => by
    rw [g] at ho
    split at ho
    · rename_i hi; cases ho; exact ⟨hi, rfl⟩
    · cases ho
  refine ⟨fun i hi => ?_, fun i hi => ?_, fun i j o o' hi hj _ => ?_, fun i o ho => ?_, fun i o ho => ?_, fun i o ho => ?_, fun p hp => by cases hp⟩
  · have : 1 ≤ i := hi
    unfold rho1; rw [if_neg (by omega)]; rfl
  · have : i < 1 := hi
    obtain rfl : i = 0 := by omega
    exact hwf _ _ hg
  · rw [(present i o hi).1, (present j o' hj).1]
  · obtain ⟨rfl, rfl⟩ := present i o ho
    rw [show rho1 st id 0 = id from rfl, hg]
    simp only [AObj.ren, hv]
  · obtain ⟨rfl, _⟩ := present i o ho
    exact Nat.zero_lt_one
  · obtain ⟨rfl, _⟩ := present i o ho
    constructor
    · intro h; simp [st1R, St.set] at h
    · intro h; exact absurd h hl
theorem T1R_get (off len : Nat) (full : Bool) (r i : Int) (t : Nat) : (T1R off len full r i).get t = if 0 = t then .sl 0 1 off len full else if 3 = t then u64 r else if 4 = t then i64 i else .undef := rfl
theorem T2R_get (r i o : Int) (t : Nat) : (T2R r i o).get t = if 3 = t then u64 r else if 6 = t then u32 o else if 7 = t then i64 i else .undef := rfl
noncomputable def pcs (i : Nat) : Code := match Try.f53.body with
  | some (.seq r0 (.seq r1 (.seq (.seq r2 _) (.seq r13 (.seq (.seq r14 _) (.seq r19 _)))))) => [r0, r1, r2, r13, r14, r19].getD i .skip
  | _ => .skip
theorem body53 : Try.f53.body = some (.seq (pcs 0) (.seq (pcs 1) (.seq (.seq (pcs 2) (.block 0 (.loop (bodyR 0)))) (.seq (pcs 3) (.seq (.seq (pcs 4) (.block 2 (.loop (bodyR 1)))) (.seq (pcs 5) .ret)))))) := by kernel_rfl
noncomputable def evP (i : Nat) (l : List (Nat × AV)) (st : St) := (evS E0 (fun _ _ _ => none) sitesR 100000 [] (pcs i) ⟨62, l, []⟩ st []).map fun q => (q.1, q.2.1.n, [q.2.1.get 0, q.2.1.get 2, q.2.1.get 3, q.2.1.get 4, q.2.1.get 6, q.2.1.get 7], q.2.2.1, q.2.2.2.2)
theorem pc0 (vs : List AV) (off len : Nat) (full : Bool) : evP 0 [(0, .sl 0 1 off len full)] (st1R vs) = some (.normal, 62, [.sl 0 1 off len full, u32 0, .undef, .undef, .undef, .undef], st1R vs, []) := by kernel_rfl
theorem pc1 (vs : List AV) (off len : Nat) (full : Bool) : evP 1 [(0, .sl 0 1 off len full)] (st1R vs) = some (.normal, 62, [.sl 0 1 off len full, .undef, u64 0, .undef, .undef, .undef], st1R vs, []) := by kernel_rfl
theorem pc2 (vs : List AV) (off len : Nat) (full : Bool) : evP 2 [(0, .sl 0 1 off len full), (3, u64 0)] (st1R vs) = some (.normal, 62, [.sl 0 1 off len full, .undef, u64 0, i64 0, .undef, .undef], st1R vs, []) := by kernel_rfl
theorem pc3 (r : Int) : evP 3 [(3, u64 r)] st00 = some (.normal, 62, [.undef, .undef, u64 r, .undef, u32 0, .undef], st00, []) := by kernel_rfl
theorem pc4 (r : Int) : evP 4 [(3, u64 r), (6, u32 0)] st00 = some (.normal, 62, [.undef, .undef, u64 r, .undef, u32 0, i64 0], st00, []) := by kernel_rfl
theorem pc5 (o : Int) : evP 5 [(6, u32 o)] st00 = some (.normal, 62, [.undef, u32 o, .undef, .undef, u32 o, .undef], st00, []) := by kernel_rfl
theorem emb0 (st : St) : Emb st00 st (fun i => st.next + i) :=
  ⟨fun i _ => rfl, fun i h => by simp [st00] at h, fun i j o o' h => by simp [st00, St.get, Tr.get] at h, fun id o h => by simp [st00, St.get, Tr.get] at h, fun id o h => by simp [st00, St.get, Tr.get] at h, fun id o h => by simp [st00, St.get, Tr.get] at h, fun p hp => by cases hp⟩
theorem piece {i : Nat} {l : List (Nat × AV)} {st0 st : St} {e : Exit} {n : Nat} {a0 a2 a3 a4 a6 a7 : AV} {T : Tm} {ρ : Nat → Nat} (h : evP i l st0 = some (e, n, [a0, a2, a3, a4, a6, a7], st0, [])) (hE : Emb st0 st ρ) (hn : T.n = 62) (hT : ∀ p ∈ l, T.get p.1 = ren ρ p.2) :
    AW Try.prog (pcs i) (fun e' T' st' => e' = e ∧ T'.n = n ∧ T'.get 0 = ren ρ a0 ∧ T'.get 2 = ren ρ a2 ∧ T'.get 3 = ren ρ a3 ∧ T'.get 4 = ren ρ a4 ∧ T'.get 6 = ren ρ a6 ∧ T'.get 7 = ren ρ a7 ∧ Same st st') T st := by
  obtain ⟨⟨e1, T1, st1, x1, ob1⟩, hq, h2⟩ := Option.map_eq_some_iff.1 h
  simp only [Prod.mk.injEq, List.cons.injEq] at h2
  obtain ⟨rfl, h3, ⟨h4, h5, h6, h7, h8, h9, _⟩, rfl, rfl⟩ := h2
  have look_or : ∀ (l : List (Nat × AV)), (∀ p ∈ l, T.get p.1 = ren ρ p.2) → ∀ t, look l t = .undef ∨ T.get t = ren ρ (look l t) := by
    intro l
    induction l with
    | nil => intro _ t; exact .inl rfl
    | cons p r ih =>
      intro hp t
      obtain ⟨u, v⟩ := p
      simp only [look]
      by_cases hu : u = t
      · subst hu; rw [if_pos rfl]; exact .inr (hp (u, v) (List.mem_cons_self ..))
      · rw [if_neg hu]; exact ih (fun q hq => hp q (List.mem_cons_of_mem _ hq)) t
  refine (AW.same (sites := sitesR) (envOf_ok (P := Try.prog) rfl) (ov := fun _ _ _ => none) (fun f args st r st' p h => by cases h) hq Ob.ok_nil hE hn (look_or l hT) rfl).mono fun e' T' st' hp => ?_
  obtain ⟨rfl, rfl, hs⟩ := hp
  refine ⟨rfl, h3, ?_, ?_, ?_, ?_, ?_, ?_, hs⟩ <;> rw [renT_get]
  · rw [h4]
  · rw [h5]
  · rw [h6]
  · rw [h7]
  · rw [h8]
  · rw [h9]
theorem loop1_ok {st : St} {id off len : Nat} {full : Bool} {vs : List AV} {xs : List Nat} (hg : st.get id = some (.row vs 5)) (hv : ∀ ρ, renL ρ vs = vs) (hlk : id ∉ st.lock) (hl : len < 1000000) (hlen : xs.length = len)
    (hxs : ∀ i, i < len → partA E0 5 vs (off + (i : Int).toNat * 1) = some (u8 ((xs.getD i 0 : Nat) : Int))) (h256 : ∀ x ∈ xs, x < 256) {T : Tm} {st' : St} (hS : Same st st') (hn : T.n = 62) (h0 : T.get 0 = .sl id 1 off len full) (h3 : T.get 3 = u64 0) (h4 : T.get 4 = i64 0) :
    AW Try.prog (.loop (bodyR 0)) (fun e T' st2 => e = .exit 0 ∧ Same st st2 ∧ T'.n = 62 ∧ T'.get 3 = u64 ((refReg (refBits xs) (8 * len + 32) : Nat) : Int)) T st' := by
  refine .loop (fun n T st2 => ∃ k, k ≤ 8 * len + 32 ∧ n = 8 * len + 32 - k ∧ Same st st2 ∧ T.n = 62 ∧ T.get 0 = .sl id 1 off len full ∧ T.get 3 = u64 ((refReg (refBits xs) k : Nat) : Int) ∧ T.get 4 = i64 (k : Int)) (8 * len + 32) ⟨0, by omega, by omega, hS, hn, h0, h3, h4⟩ fun n T st2 hI => ?_
  obtain ⟨k, hk, rfl, s2, n2, g0, g3, g4⟩ := hI
  refine AW.wf fun w2 => ?_
  have hE := emb1 (s2.get _ _ hg) hv w2 (by rw [s2.lock]; exact hlk)
  have hT : ∀ t, (T1R off len full ((refReg (refBits xs) k : Nat) : Int) (k : Int)).get t = .undef ∨ T.get t = ren (rho1 st2 id) ((T1R off len full ((refReg (refBits xs) k : Nat) : Int) (k : Int)).get t) := fun t => by
    rw [T1R_get]
    by_cases h0 : 0 = t
    · subst h0; right; rw [if_pos rfl, g0]; rfl
    rw [if_neg h0]
    by_cases h3 : 3 = t
    · subst h3; right; rw [if_pos rfl, g3]; rfl
    rw [if_neg h3]
    by_cases h4 : 4 = t
    · subst h4; right; rw [if_pos rfl, g4]; rfl
    rw [if_neg h4]; exact .inl rfl
  rcases Nat.lt_or_ge k (8 * len + 32) with hlt | hge
  · obtain ⟨x, T1, x1, ob, hq, hob, k1, k2, k3, k4⟩ := leafR_all (vs := vs) (off := off) (full := full) hl hlen hxs h256 hlt
    refine (AW.same (sites := sitesR) (envOf_ok (P := Try.prog) rfl) (ov := fun _ _ _ => none) (fun f args st r st' p h => by cases h) hq hob hE n2 hT rfl).mono fun e T' st3 hp => ?_
    obtain ⟨rfl, rfl, s3⟩ := hp
    refine ⟨8 * len + 32 - (k + 1), by omega, k + 1, by omega, rfl, s2.trans s3, k1, ?_, ?_, ?_⟩ <;> rw [renT_get]
    · rw [k2]; rfl
    · rw [k3]; rfl
    · rw [k4]; rfl
  · obtain rfl : k = 8 * len + 32 := by omega
    obtain ⟨⟨e1, T1, st1, x1, ob1⟩, hq, h2⟩ := Option.map_eq_some_iff.1 (rsEnd vs off len full ((refReg (refBits xs) (8 * len + 32) : Nat) : Int) ((8 * len + 32 : Nat) : Int))
    simp only [facts1, Prod.mk.injEq, List.cons.injEq] at h2
    obtain ⟨rfl, k1, ⟨k2, k3, k4, _⟩, rfl, rfl⟩ := h2
    have hob : Ob.ok [bo (ltN ((8 * len + 32 : Nat) : Int) (addN (mulN 8 len) 32)) = FF] := by
      simp only [Ob.ok_cons, Ob.ok_nil, and_true]
      exact ob_F (by rw [ltN_eq, mulN_eq _ _ (by omega), addN_eq _ _ (by omega)]; simp)
    refine (AW.same (sites := sitesR) (envOf_ok (P := Try.prog) rfl) (ov := fun _ _ _ => none) (fun f args st r st' p h => by cases h) hq hob hE n2 hT rfl).mono fun e T' st3 hp => ?_
    obtain ⟨rfl, rfl, s3⟩ := hp
    exact ⟨rfl, s2.trans s3, k1, by rw [renT_get, k3]; rfl⟩
theorem loop2_ok {st : St} {r : Nat} {q : BitVec 32} (hr : Turned r q) {T : Tm} {st' : St} (hS : Same st st') (hn : T.n = 62) (h3 : T.get 3 = u64 (r : Int)) (h6 : T.get 6 = u32 0) (h7 : T.get 7 = i64 0) :
    AW Try.prog (.loop (bodyR 1)) (fun e T' st2 => e = .exit 2 ∧ Same st st2 ∧ T'.n = 62 ∧ T'.get 6 = u32 ((refOut r 32 : Nat) : Int)) T st' := by
  refine .loop (fun n T st2 => ∃ k, k ≤ 32 ∧ n = 32 - k ∧ Same st st2 ∧ T.n = 62 ∧ T.get 3 = u64 (r : Int) ∧ T.get 6 = u32 ((refOut r k : Nat) : Int) ∧ T.get 7 = i64 (k : Int)) 32 ⟨0, by omega, by omega, hS, hn, h3, h6, h7⟩ fun n T st2 hI => ?_
  obtain ⟨k, hk, rfl, s2, n2, g3, g6, g7⟩ := hI
  have hT : ∀ t, (T2R (r : Int) (k : Int) ((refOut r k : Nat) : Int)).get t = .undef ∨ T.get t = ren (fun i => st2.next + i) ((T2R (r : Int) (k : Int) ((refOut r k : Nat) : Int)).get t) := fun t => by
    rw [T2R_get]
    by_cases h0 : 3 = t
    · subst h0; right; rw [if_pos rfl, g3]; rfl
    rw [if_neg h0]
    by_cases h3 : 6 = t
    · subst h3; right; rw [if_pos rfl, g6]; rfl
    rw [if_neg h3]
    by_cases h4 : 7 = t
    · subst h4; right; rw [if_pos rfl, g7]; rfl
    rw [if_neg h4]; exact .inl rfl
  rcases Nat.lt_or_ge k 32 with hlt | hge
  · obtain ⟨x, T1, x1, ob, hq, hob, k1, k2, k3, k4⟩ := leafT_all hr hlt
    refine (AW.same (sites := sitesR) (envOf_ok (P := Try.prog) rfl) (ov := fun _ _ _ => none) (fun f args st r st' p h => by cases h) hq hob (emb0 st2) n2 hT rfl).mono fun e T' st3 hp => ?_
    obtain ⟨rfl, rfl, s3⟩ := hp
    refine ⟨32 - (k + 1), by omega, k + 1, by omega, rfl, s2.trans s3, k1, ?_, ?_, ?_⟩ <;> rw [renT_get]
    · rw [k2]; rfl
    · rw [k3]; rfl
    · rw [k4]; rfl
  · obtain rfl : k = 32 := by omega
    obtain ⟨⟨e1, T1, st1, x1, ob1⟩, hq, h2⟩ := Option.map_eq_some_iff.1 (rtEnd (r : Int) ((refOut r 32 : Nat) : Int) ((32 : Nat) : Int))
    simp only [facts2, Prod.mk.injEq, List.cons.injEq] at h2
    obtain ⟨rfl, k1, ⟨k2, k3, k4, _⟩, rfl, rfl⟩ := h2
    have hob : Ob.ok [bo (ltN ((32 : Nat) : Int) 32) = FF] := by
      simp only [Ob.ok_cons, Ob.ok_nil, and_true]
      exact ob_F (by rw [ltN_eq]; simp)
    refine (AW.same (sites := sitesR) (envOf_ok (P := Try.prog) rfl) (ov := fun _ _ _ => none) (fun f args st r st' p h => by cases h) hq hob (emb0 st2) n2 hT rfl).mono fun e T' st3 hp => ?_
    obtain ⟨rfl, rfl, s3⟩ := hp
    exact ⟨rfl, s2.trans s3, k1, by rw [renT_get, k3]; rfl⟩
/-- escritoireref14.Sum -/
theorem refSum_ok {st : St} {id off len : Nat} {full : Bool} {vs : List AV} {xs : List Nat} (hg : st.get id = some (.row vs 5)) (hv : ∀ ρ, renL ρ vs = vs) (hlk : id ∉ st.lock) (hl : len < 1000000) (hlen : xs.length = len)
    (hxs : ∀ i, i < len → partA E0 5 vs (off + (i : Int).toNat * 1) = some (u8 ((xs.getD i 0 : Nat) : Int))) (h256 : ∀ x ∈ xs, x < 256) :
    ACalls Try.prog 53 [.sl id 1 off len full] (fun a st' => a = u32 (crcMore 0 (xs.map Int.ofNat)) ∧ st' = st) st := by
  rw [sums_agree xs h256, hlen]
  refine ACalls.very (ACalls.wf fun hwf => ACalls.body (E := E0) (envOf_ok (P := Try.prog) rfl) Try.func53 body53 ?_)
  have eE : ∀ {s : St}, Same st s → s.wf → Emb (st1R vs) s (rho1 s id) := fun h w => emb1 (h.get _ _ hg) hv w (by rw [h.lock]; exact hlk)
  refine .seq ((piece (pc0 vs off len full) (eE (Same.refl st) hwf) rfl (fun p hp => ?_)).mono fun e T1 s1 h => ?_)
  · obtain rfl := List.mem_singleton.1 hp; rfl
  obtain ⟨rfl, n1, a0, _, _, _, _, _, m1⟩ := h
  simp only [thenA]
  refine AW.wf fun w1 => .seq ((piece (pc1 vs off len full) (eE m1 w1) n1 (fun p hp => ?_)).mono fun e T2 s2 h => ?_)
  · obtain rfl := List.mem_singleton.1 hp; exact a0
  obtain ⟨rfl, n2, b0, _, b3, _, _, _, m2⟩ := h
  simp only [thenA]
  have m2' := m1.trans m2
  refine AW.wf fun w2 => .seq (.seq ((piece (pc2 vs off len full) (eE m2' w2) n2 (fun p hp => ?_)).mono fun e T3 s3 h => ?_))
  · rcases List.mem_cons.1 hp with rfl | hp
    · exact b0
    · obtain rfl := List.mem_singleton.1 hp; exact b3
  obtain ⟨rfl, n3, c0, _, c3, c4, _, _, m3⟩ := h
  simp only [thenA]
  refine .block ((loop1_ok hg hv hlk hl hlen hxs h256 (m2'.trans m3) n3 c0 c3 c4).mono fun e T4 s4 h => ?_)
  obtain ⟨rfl, m4, n4, d3⟩ := h
  simp only [blockA, if_true, thenA]
  refine .seq ((piece (pc3 ((refReg (refBits xs) (8 * len + 32) : Nat) : Int)) (emb0 s4) n4 (fun p hp => ?_)).mono fun e T5 s5 h => ?_)
  · obtain rfl := List.mem_singleton.1 hp; exact d3
  obtain ⟨rfl, n5, _, _, e3, _, e6, _, m5⟩ := h
  simp only [thenA]
  refine .seq (.seq ((piece (pc4 ((refReg (refBits xs) (8 * len + 32) : Nat) : Int)) (emb0 s5) n5 (fun p hp => ?_)).mono fun e T6 s6 h => ?_))
  · rcases List.mem_cons.1 hp with rfl | hp
    · exact e3
    · obtain rfl := List.mem_singleton.1 hp; exact e6
  obtain ⟨rfl, n6, _, _, f3, _, f6, f7, m6⟩ := h
  simp only [thenA]
  refine .block ((loop2_ok (turned (refBits xs) (8 * len + 32)) ((m4.trans m5).trans m6) n6 f3 f6 f7).mono fun e T7 s7 h => ?_)
  obtain ⟨rfl, m7, n7, g6⟩ := h
  simp only [blockA, if_true, thenA]
  refine .seq ((piece (pc5 ((refOut (refReg (refBits xs) (8 * len + 32)) 32 : Nat) : Int)) (emb0 s7) n7 (fun p hp => ?_)).mono fun e T8 s8 h => ?_)
  · obtain rfl := List.mem_singleton.1 hp; exact g6
  obtain ⟨rfl, n8, _, h2, _, _, _, _, m8⟩ := h
  simp only [thenA]
  refine .ret ⟨[T8.get 2], rfl, ?_, m7.trans m8⟩
  simp only [oneOrTup]
  rw [h2]; rfl
end Go.Proofs.Ytniaiciabfdbnaa.E
