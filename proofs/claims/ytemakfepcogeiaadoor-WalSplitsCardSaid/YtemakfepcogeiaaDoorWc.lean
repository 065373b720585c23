/- The plain law: frames, with a beginning of another behind them, are split into their records; the comparing loop's runs. No condition beyond those that the lemmas name. -/
import Derived.Test.YtemakfepcogeiaaDoorWb
namespace Go.Proofs.YtemakfepcogeiaaDoor.E
open Go Go.Proofs
set_option maxRecDepth 100000
/-! ### the plain law: frames, one behind the other, with a beginning of another behind them, are split into their records -/
theorem shrU_eq (a c : Nat) (h : c ≤ 64) : shrU (a : Int) (c : Int) = ((a >>> c : Nat) : Int) := by
  have h1 : shrU (a : Int) (c : Int) = (a : Int).fdiv (2 ^ (min c 64)) := by
    unfold shrU
    rfl
  rw [h1, Nat.min_eq_left h, Int.fdiv_eq_ediv_of_nonneg _ (Int.le_of_lt (Int.pow_pos (by decide))), Nat.shiftRight_eq_div_pow, Int.natCast_ediv, Int.natCast_pow]
  rfl
theorem byteAt_div (s : Nat) (c : Nat) (hc : c ≤ 64) : byteAt (s : Int) (c : Int) = ((s / 2 ^ c % 256 : Nat) : Int) := by
  unfold byteAt
  rw [shrU_eq s c hc, Nat.shiftRight_eq_div_pow, IntKind.wrap_u8]
  omega
theorem orU_eq (a b : Int) : orU a b = IntKind.u64.wrap ((BitVec.ofInt 64 a ||| BitVec.ofInt 64 b).toNat : Int) := rfl
theorem orU_nat (m b : Nat) (hm : m < 2 ^ 56) (hb : b < 256) : orU (shlU (m : Int) 8) (IntKind.u64.wrap (b : Int)) = ((m * 256 + b : Nat) : Int) := by
  have h1 : shlU (m : Int) 8 = ((m * 256 : Nat) : Int) := by
    have : shlU (m : Int) 8 = IntKind.u64.wrap ((m : Int) * 2 ^ 8) := rfl
    rw [this, IntWalk.u64_in _ (by omega)]
    omega
  rw [h1, IntWalk.u64_in (b : Int) (by omega), orU_eq]
  have h2 : ((BitVec.ofInt 64 ((m * 256 : Nat) : Int) ||| BitVec.ofInt 64 (b : Int)).toNat) = m * 256 + b := by
    rw [BitVec.toNat_or, BitVec.ofInt_natCast, BitVec.ofInt_natCast, BitVec.toNat_ofNat, BitVec.toNat_ofNat, Nat.mod_eq_of_lt (by omega), Nat.mod_eq_of_lt (by omega)]
    have := Nat.shiftLeft_add_eq_or_of_lt (show b < 2 ^ 8 by omega) m
    rw [Nat.shiftLeft_eq, show (2 : Nat) ^ 8 = 256 from rfl] at this
    omega
  rw [h2, IntWalk.u64_in _ (by omega)]
theorem foldN_be4 (n : Nat) (h : n < 2 ^ 32) : foldN (be4 (n : Int)) = (n : Int) := by
  have b24 := byteAt_div n 24 (by omega)
  have b16 := byteAt_div n 16 (by omega)
  have b8 := byteAt_div n 8 (by omega)
  have b0 := byteAt_div n 0 (by omega)
  unfold be4 foldN
  rw [show (24 : Int) = ((24 : Nat) : Int) from rfl, show (16 : Int) = ((16 : Nat) : Int) from rfl, show (byteAt (n : Int) 8) = byteAt (n : Int) ((8 : Nat) : Int) from rfl, show (0 : Int) = ((0 : Nat) : Int) from rfl, b24, b16, b8, b0]
  simp only [List.foldl_cons, List.foldl_nil]
  have e : ∀ (m b : Nat), m < 2 ^ 56 → b < 256 → orU (shlU (m : Int) 8) (IntKind.u64.wrap (b : Int)) = ((m * 256 + b : Nat) : Int) := orU_nat
  rw [e 0 _ (by omega) (by omega), e _ _ (by omega) (by omega), e _ _ (by omega) (by omega), e _ _ (by omega) (by omega)]
  omega
theorem num4_frame (n : Int) (h : 0 ≤ n ∧ n ≤ 4294967295) (l : List Int) : num4 (be4 n ++ l) = n := by
  obtain ⟨m, rfl⟩ := Int.eq_ofNat_of_zero_le h.1
  show foldN (be4 (m : Int)) = _
  exact foldN_be4 m (by omega)
theorem parse_frame {d : List Int} (h1 : 1 ≤ d.length) (h2 : d.length ≤ 4096) (rest : List Int) : parse1 (frameL d ++ rest) = some (d, rest) := by
  have hc := crc_range d
  rw [← crcU_eq] at hc
  have e0 : frameL d ++ rest = be4 d.length ++ (be4 (crcU d) ++ (d ++ rest)) := by simp [frameL]
  have n1 : num4 (frameL d ++ rest) = d.length := by rw [e0]; exact num4_frame _ (by omega) _
  have d4 : (frameL d ++ rest).drop 4 = be4 (crcU d) ++ (d ++ rest) := by rw [e0]; rfl
  have d8 : (frameL d ++ rest).drop 8 = d ++ rest := by rw [e0]; rfl
  have n2 : num4 ((frameL d ++ rest).drop 4) = crcU d := by rw [d4]; exact num4_frame _ hc _
  have hl : (frameL d ++ rest).length = 8 + d.length + rest.length := by rw [List.length_append, frame_len]
  unfold parse1
  rw [if_neg (by omega), if_neg (by omega), if_neg (by omega), if_neg (by rw [List.length_drop]; omega), n1, n2, d8]
  have ht : ((d.length : Int)).toNat = d.length := rfl
  rw [ht, if_neg (by simp), List.take_left' rfl, if_neg (by simp), List.drop_left' rfl]
theorem parse_part {d : List Int} (h1 : 1 ≤ d.length) (h2 : d.length ≤ 4096) {k : Nat} (hk : k < 8 + d.length) : parse1 ((frameL d).take k) = none := by
  have hl : ((frameL d).take k).length = k := by rw [List.length_take, frame_len]; omega
  have hc := crc_range d
  rw [← crcU_eq] at hc
  unfold parse1
  by_cases h4 : k < 4
  · rw [if_pos (by omega)]
  rw [if_neg (by omega)]
  have e0 : (frameL d).take k = be4 d.length ++ (be4 (crcU d) ++ d).take (k - 4) := by
    unfold frameL
    rw [List.append_assoc, List.take_append, be4_len, List.take_of_length_le (by rw [be4_len]; omega)]
  have n1 : num4 ((frameL d).take k) = d.length := by rw [e0]; exact num4_frame _ (by omega) _
  rw [if_neg (by omega), if_neg (by omega)]
  by_cases h8 : k < 8
  · rw [if_pos (by rw [List.length_drop]; omega)]
  rw [if_neg (by rw [List.length_drop]; omega), if_pos]
  rw [n1, List.length_drop, hl]
  show k - 8 < ((d.length : Int)).toNat
  have ht : ((d.length : Int)).toNat = d.length := rfl
  omega
theorem split_frames (tl : List Int) (hp : parse1 tl = none) : ∀ (R : List (List Int)), (∀ d ∈ R, 1 ≤ d.length ∧ d.length ≤ 4096) → splitN (R.flatMap frameL ++ tl).length (R.flatMap frameL ++ tl) = R
  | [], _ => by simpa using split_none hp
  | d :: r, h => by
    have hd := h d (List.mem_cons_self ..)
    have ih := split_frames tl hp r fun e he => h e (List.mem_cons_of_mem _ he)
    rw [List.flatMap_cons, List.append_assoc, split_some (parse_frame hd.1 hd.2 _)]
    simp only [ih]
def sitesC : Nat → List Nat
  | 6 => [2006, 2008, 9]
  | _ => []
def stGW (G W : List AV) : St := (st00.push (.row G 24)).push (.row W 24)
def T0c (k : Nat) : List (Nat × AV) := [(7, .sl 1 1 0 k false), (12, .sl 0 1 0 k false), (70, i64 k), (71, i64 0)]
noncomputable def cmpEv (k : Nat) (g w : List AV) (x : List Or) := (evS Tryd.prog E0 noOv sitesC 100000 [] (.loop (wsC 9)) ⟨86, T0c k, []⟩ (stGW g w) x).map fun q => (q.1, q.2.1.n, q.2.2.1, q.2.2.2.2)
def okC (c : List AV) (n : Nat) : Prop := True ∧ numsA c = some (c.map intOf) ∧ (c.map intOf).length = n
def strEqI (a b : List Int) : Bool := boolI (binOp .eql 9 (.string (strOfNums a)) (.string (strOfNums b)))
def ob1 (d : List Int) : Ob := [okC (d.map u8) d.length, okC (d.map u8) d.length, bo (strEqI ((d.map u8).map intOf) ((d.map u8).map intOf)) = TT]
def obs : List (List Int) → Ob
  | [] => []
  | d :: r => ob1 d ++ obs r
def ts : Nat → List Or
  | 0 => []
  | k + 1 => TT :: ts k
def cmpAt (R : List (List Int)) : Prop := cmpEv R.length (R.map recA) (R.map recW) (ts R.length) = some (.exit 2, 86, stGW (R.map recA) (R.map recW), obs R)
theorem cmp1 (d1 : List Int) : cmpAt [d1] := by unfold cmpAt; kernel_rfl
theorem cmp2 (d1 d2 : List Int) : cmpAt [d1, d2] := by unfold cmpAt; kernel_rfl
theorem cmp3 (d1 d2 d3 : List Int) : cmpAt [d1, d2, d3] := by unfold cmpAt; kernel_rfl
theorem cmp4 (d1 d2 d3 d4 : List Int) : cmpAt [d1, d2, d3, d4] := by unfold cmpAt; kernel_rfl
theorem cmp5 (d1 d2 d3 d4 d5 : List Int) : cmpAt [d1, d2, d3, d4, d5] := by unfold cmpAt; kernel_rfl
theorem cmp6 (d1 d2 d3 d4 d5 d6 : List Int) : cmpAt [d1, d2, d3, d4, d5, d6] := by unfold cmpAt; kernel_rfl
theorem cmp7 (d1 d2 d3 d4 d5 d6 d7 : List Int) : cmpAt [d1, d2, d3, d4, d5, d6, d7] := by unfold cmpAt; kernel_rfl
theorem cmp8 (d1 d2 d3 d4 d5 d6 d7 d8 : List Int) : cmpAt [d1, d2, d3, d4, d5, d6, d7, d8] := by unfold cmpAt; kernel_rfl
theorem cmp9 (d1 d2 d3 d4 d5 d6 d7 d8 d9 : List Int) : cmpAt [d1, d2, d3, d4, d5, d6, d7, d8, d9] := by unfold cmpAt; kernel_rfl
theorem cmp10 (d1 d2 d3 d4 d5 d6 d7 d8 d9 d10 : List Int) : cmpAt [d1, d2, d3, d4, d5, d6, d7, d8, d9, d10] := by unfold cmpAt; kernel_rfl
theorem cmp11 (d1 d2 d3 d4 d5 d6 d7 d8 d9 d10 d11 : List Int) : cmpAt [d1, d2, d3, d4, d5, d6, d7, d8, d9, d10, d11] := by unfold cmpAt; kernel_rfl
theorem cmp12 (d1 d2 d3 d4 d5 d6 d7 d8 d9 d10 d11 d12 : List Int) : cmpAt [d1, d2, d3, d4, d5, d6, d7, d8, d9, d10, d11, d12] := by unfold cmpAt; kernel_rfl
theorem cmp13 (d1 d2 d3 d4 d5 d6 d7 d8 d9 d10 d11 d12 d13 : List Int) : cmpAt [d1, d2, d3, d4, d5, d6, d7, d8, d9, d10, d11, d12, d13] := by unfold cmpAt; kernel_rfl
theorem cmp14 (d1 d2 d3 d4 d5 d6 d7 d8 d9 d10 d11 d12 d13 d14 : List Int) : cmpAt [d1, d2, d3, d4, d5, d6, d7, d8, d9, d10, d11, d12, d13, d14] := by unfold cmpAt; kernel_rfl
theorem cmp15 (d1 d2 d3 d4 d5 d6 d7 d8 d9 d10 d11 d12 d13 d14 d15 : List Int) : cmpAt [d1, d2, d3, d4, d5, d6, d7, d8, d9, d10, d11, d12, d13, d14, d15] := by unfold cmpAt; kernel_rfl
theorem cmp16 (d1 d2 d3 d4 d5 d6 d7 d8 d9 d10 d11 d12 d13 d14 d15 d16 : List Int) : cmpAt [d1, d2, d3, d4, d5, d6, d7, d8, d9, d10, d11, d12, d13, d14, d15, d16] := by unfold cmpAt; kernel_rfl
theorem cmp17 (d1 d2 d3 d4 d5 d6 d7 d8 d9 d10 d11 d12 d13 d14 d15 d16 d17 : List Int) : cmpAt [d1, d2, d3, d4, d5, d6, d7, d8, d9, d10, d11, d12, d13, d14, d15, d16, d17] := by unfold cmpAt; kernel_rfl
theorem cmp18 (d1 d2 d3 d4 d5 d6 d7 d8 d9 d10 d11 d12 d13 d14 d15 d16 d17 d18 : List Int) : cmpAt [d1, d2, d3, d4, d5, d6, d7, d8, d9, d10, d11, d12, d13, d14, d15, d16, d17, d18] := by unfold cmpAt; kernel_rfl
theorem cmp19 (d1 d2 d3 d4 d5 d6 d7 d8 d9 d10 d11 d12 d13 d14 d15 d16 d17 d18 d19 : List Int) : cmpAt [d1, d2, d3, d4, d5, d6, d7, d8, d9, d10, d11, d12, d13, d14, d15, d16, d17, d18, d19] := by unfold cmpAt; kernel_rfl
theorem cmp20 (d1 d2 d3 d4 d5 d6 d7 d8 d9 d10 d11 d12 d13 d14 d15 d16 d17 d18 d19 d20 : List Int) : cmpAt [d1, d2, d3, d4, d5, d6, d7, d8, d9, d10, d11, d12, d13, d14, d15, d16, d17, d18, d19, d20] := by unfold cmpAt; kernel_rfl
theorem cmp_all : ∀ (R : List (List Int)), R ≠ [] → R.length ≤ 20 → cmpAt R
  | [], h, _ => absurd rfl h
  | [d1], _, _ => cmp1 d1
  | [d1, d2], _, _ => cmp2 d1 d2
  | [d1, d2, d3], _, _ => cmp3 d1 d2 d3
  | [d1, d2, d3, d4], _, _ => cmp4 d1 d2 d3 d4
  | [d1, d2, d3, d4, d5], _, _ => cmp5 d1 d2 d3 d4 d5
  | [d1, d2, d3, d4, d5, d6], _, _ => cmp6 d1 d2 d3 d4 d5 d6
  | [d1, d2, d3, d4, d5, d6, d7], _, _ => cmp7 d1 d2 d3 d4 d5 d6 d7
  | [d1, d2, d3, d4, d5, d6, d7, d8], _, _ => cmp8 d1 d2 d3 d4 d5 d6 d7 d8
  | [d1, d2, d3, d4, d5, d6, d7, d8, d9], _, _ => cmp9 d1 d2 d3 d4 d5 d6 d7 d8 d9
  | [d1, d2, d3, d4, d5, d6, d7, d8, d9, d10], _, _ => cmp10 d1 d2 d3 d4 d5 d6 d7 d8 d9 d10
  | [d1, d2, d3, d4, d5, d6, d7, d8, d9, d10, d11], _, _ => cmp11 d1 d2 d3 d4 d5 d6 d7 d8 d9 d10 d11
  | [d1, d2, d3, d4, d5, d6, d7, d8, d9, d10, d11, d12], _, _ => cmp12 d1 d2 d3 d4 d5 d6 d7 d8 d9 d10 d11 d12
  | [d1, d2, d3, d4, d5, d6, d7, d8, d9, d10, d11, d12, d13], _, _ => cmp13 d1 d2 d3 d4 d5 d6 d7 d8 d9 d10 d11 d12 d13
  | [d1, d2, d3, d4, d5, d6, d7, d8, d9, d10, d11, d12, d13, d14], _, _ => cmp14 d1 d2 d3 d4 d5 d6 d7 d8 d9 d10 d11 d12 d13 d14
  | [d1, d2, d3, d4, d5, d6, d7, d8, d9, d10, d11, d12, d13, d14, d15], _, _ => cmp15 d1 d2 d3 d4 d5 d6 d7 d8 d9 d10 d11 d12 d13 d14 d15
  | [d1, d2, d3, d4, d5, d6, d7, d8, d9, d10, d11, d12, d13, d14, d15, d16], _, _ => cmp16 d1 d2 d3 d4 d5 d6 d7 d8 d9 d10 d11 d12 d13 d14 d15 d16
  | [d1, d2, d3, d4, d5, d6, d7, d8, d9, d10, d11, d12, d13, d14, d15, d16, d17], _, _ => cmp17 d1 d2 d3 d4 d5 d6 d7 d8 d9 d10 d11 d12 d13 d14 d15 d16 d17
  | [d1, d2, d3, d4, d5, d6, d7, d8, d9, d10, d11, d12, d13, d14, d15, d16, d17, d18], _, _ => cmp18 d1 d2 d3 d4 d5 d6 d7 d8 d9 d10 d11 d12 d13 d14 d15 d16 d17 d18
  | [d1, d2, d3, d4, d5, d6, d7, d8, d9, d10, d11, d12, d13, d14, d15, d16, d17, d18, d19], _, _ => cmp19 d1 d2 d3 d4 d5 d6 d7 d8 d9 d10 d11 d12 d13 d14 d15 d16 d17 d18 d19
  | [d1, d2, d3, d4, d5, d6, d7, d8, d9, d10, d11, d12, d13, d14, d15, d16, d17, d18, d19, d20], _, _ => cmp20 d1 d2 d3 d4 d5 d6 d7 d8 d9 d10 d11 d12 d13 d14 d15 d16 d17 d18 d19 d20
  | _ :: _ :: _ :: _ :: _ :: _ :: _ :: _ :: _ :: _ :: _ :: _ :: _ :: _ :: _ :: _ :: _ :: _ :: _ :: _ :: _ :: r, _, h => by simp only [List.length_cons] at h; omega
theorem slice_hi (st : St) (f m k : Nat) (hk : k ≤ m) : ∃ fl, sliceA E0 st 24 (S4 f m) none (some (i64 k)) none = some (if k = 0 then .imm 1 0 false [] else .sl f 1 0 k fl) := by
  have e1 : natLe (i64 k) m = some k := by
    show (if 0 ≤ (k : Int) ∧ (k : Int) ≤ m then some (k : Int).toNat else none) = some k
    rw [if_pos ⟨by omega, by omega⟩]; rfl
  have hb : boundsA m m none (some (i64 k)) none = some (0, k, m) := by
    delta boundsA
    simp only [e1]
  refine ⟨fullOf none (0, k, m) false m, ?_⟩
  unfold S4
  simp only [sliceA, ty28, size5, hb, if_true, Nat.mul_one, Nat.zero_add, Nat.sub_zero]
  by_cases h : k = 0
  · rw [if_pos h, if_pos h]
  · rw [if_neg h, if_neg h]
theorem remN_eq (s : Int) (m : Nat) (h : 0 ≤ s) : remN s ((m + 1 : Nat) : Int) = s % ((m + 1 : Nat) : Int) := by
  have : remN s ((m + 1 : Nat) : Int) = s.tmod ((m + 1 : Nat) : Int) := rfl
  rw [this, Int.tmod_eq_emod_of_nonneg h]
/-- behind the tail -/
structure Tailed (R : List (List Int)) (T : Tm) (st : St) : Prop where
  n : T.n = 86
  b : ∃ tl, parse1 tl = none ∧ BR st (T.get 5) (R.flatMap frameL ++ tl) ∧ tl.length ≤ 5000
  want : LC st (T.get 7) (R.map recW)
  lock : st.lock = []
  good : ∀ d ∈ R, 1 ≤ d.length ∧ d.length ≤ 4096
  len : R.length ≤ 20
theorem app_zero {st : St} {i len : Nat} : apP st (S4 i len) (.imm 1 0 false []) (S4 i len) st := by
  unfold apP S4
  simp only [appendA, el24, src_of, sliceCells, str24]
  simp
theorem tail_ok {cu : Int} (hcu : 0 ≤ cu ∧ cu ≤ 65535) {R : List (List Int)} {T : Tm} {st : St} (h : Made (u16 cu) R T st) :
    AW Tryd.prog (wsC 5) (fun e T' st' => e = .normal ∧ Tailed R T' st') T st := by
  refine AW.wf fun hw => ?_
  have hfl := flat_len h.good
  have hlen := h.len
  rcases h.tail with ⟨rfl, h6⟩ | ⟨f, d, hd, h6, hg⟩
  · refine (ws_run (l := [(5, T.get 5), (6, .nils), (7, T.get 7)]) (wt0 (T.get 5) (T.get 7) st) ?_ h.n (fun p hp => ?_)).mono fun e T' st' ⟨he, hn, hF, hs⟩ => ?_
    · simp only [Ob.ok_cons, Ob.ok_nil, and_true]
      exact gt_F (by omega)
    · simp only [List.mem_cons, List.not_mem_nil, or_false] at hp
      rcases hp with rfl | rfl | rfl
      · rfl
      · exact h6
      · rfl
    · simp only [List.cons.injEq] at hF
      obtain ⟨_, _, q5, _, q7, _⟩ := hF
      subst hs
      exact ⟨he, hn, ⟨[], by simp [parse1], by rw [q5, List.append_nil]; exact h.b, by simp⟩, by rw [q7]; exact h.want, h.lock, h.good, h.len⟩
  have hdm : d ∈ R := List.mem_of_getLast? hd
  have hdg := h.good d hdm
  have hm : 8 + d.length = (7 + d.length) + 1 := by omega
  have hRne : R ≠ [] := fun e => by rw [e] at hdm; cases hdm
  obtain ⟨k, hk, hk2⟩ : ∃ k : Nat, remN cu (((7 + d.length) + 1 : Nat) : Int) = (k : Int) ∧ k < 8 + d.length := by
    have := remN_eq cu (7 + d.length) hcu.1
    have p1 := Int.emod_nonneg cu (show (((7 + d.length) + 1 : Nat) : Int) ≠ 0 by omega)
    have p2 := Int.emod_lt_of_pos cu (show (0 : Int) < (((7 + d.length) + 1 : Nat) : Int) by omega)
    generalize cu % (((7 + d.length) + 1 : Nat) : Int) = z at *
    exact ⟨z.toNat, by rw [this]; exact (Int.toNat_of_nonneg p1).symm, by omega⟩
  obtain ⟨fl, hs⟩ := slice_hi st f ((7 + d.length) + 1) k (by omega)
  have hBne : R.flatMap frameL ≠ [] := fun e => by
    have := List.flatMap_eq_nil_iff.1 e d hdm
    exact frameL_ne d this
  obtain ⟨i, hb5, hbg⟩ : ∃ i, T.get 5 = S4 i (R.flatMap frameL).length ∧ st.get i = some (.row ((R.flatMap frameL).map u8) 5) := by
    rcases h.b with ⟨e, _⟩ | ⟨_, i, e, hg⟩
    · exact absurd e hBne
    · exact ⟨i, e, hg⟩
  have hT : ∀ p ∈ [(1, u16 cu), (5, T.get 5), (6, S4 f ((7 + d.length) + 1)), (7, T.get 7)], T.get p.1 = p.2 := fun p hp => by
    simp only [List.mem_cons, List.not_mem_nil, or_false] at hp
    rcases hp with rfl | rfl | rfl | rfl
    · exact h.cut
    · rfl
    · show T.get 6 = _; rw [h6, hm]
    · rfl
  have hc1 : i64 (IntKind.i64.wrap cu) = i64 cu := by rw [IntWalk.i64_in _ (by omega)]
  have hpt := parse_part hdg.1 hdg.2 hk2
  have htl : ((frameL d).take k).length = k := by rw [List.length_take, frame_len]; omega
  by_cases hk0 : k = 0
  · rw [if_pos hk0] at hs
    refine (ws_run (wt1 (T.get 5) (T.get 7) (T.get 5) st f (7 + d.length) cu (.imm 1 0 false []) (fun _ => st) cu k) ?_ h.n hT).mono fun e T' st' ⟨he, hn, hF, hs⟩ => ?_
    · simp only [Ob.ok_cons, Ob.ok_nil, and_true]
      refine ⟨gt_T (by omega), hc1, by rw [hk], hs, ?_⟩
      rw [hb5]; exact app_zero
    · simp only [List.cons.injEq] at hF
      obtain ⟨_, _, q5, _, q7, _⟩ := hF
      subst hs
      refine ⟨he, hn, ⟨[], by simp [parse1], by rw [q5, List.append_nil]; exact h.b, by simp⟩, by rw [q7]; exact h.want, h.lock, h.good, h.len⟩
  · rw [if_neg hk0] at hs
    have hx : sliceCells st (.sl f 1 0 k fl) = some (((frameL d).take k).length, ((frameL d).take k).map u8) := by
      rw [cells_sl hg (by simp [frame_len]; omega), List.drop_zero, htl, List.map_take]
    obtain ⟨s2, a2, g2, l2, n2, k2, w2⟩ := app_bytes h.b hw h.lock hx (fun e => by rw [e] at htl; simp at htl; omega) (by rw [htl]; omega)
    refine (ws_run (wt1 (T.get 5) (T.get 7) (S4 st.next ((R.flatMap frameL).length + ((frameL d).take k).length)) st f (7 + d.length) cu (.sl f 1 0 k fl) (fun _ => s2) cu k) ?_ h.n hT).mono fun e T' st' ⟨he, hn, hF, hs⟩ => ?_
    · simp only [Ob.ok_cons, Ob.ok_nil, and_true]
      exact ⟨gt_T (by omega), hc1, by rw [hk], hs, a2⟩
    · simp only [List.cons.injEq] at hF
      obtain ⟨_, _, q5, _, q7, _⟩ := hF
      subst hs
      refine ⟨he, hn, ⟨(frameL d).take k, hpt, .inr ⟨by simp [hBne], st.next, by rw [q5, List.length_append], g2⟩, by omega⟩, ?_, l2, h.good, h.len⟩
      rw [q7]
      rcases h.want with h | ⟨hne, j, e, hj⟩
      · exact .inl h
      · refine .inr ⟨hne, j, e, k2 _ _ hj fun e' => ?_⟩
        rw [hb5] at e'
        simp only [S4, AV.sl.injEq] at e'
        obtain ⟨rfl, _⟩ := e'
        rw [hj] at hbg
        simp only [Option.some.injEq, AObj.row.injEq] at hbg
        exact absurd hbg.2 (by decide)
end Go.Proofs.YtemakfepcogeiaaDoor.E
