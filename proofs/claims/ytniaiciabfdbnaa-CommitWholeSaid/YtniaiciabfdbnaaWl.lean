/- CommitWhole over the abstract machine: true for every argument: the plain laws that the runs left. No condition beyond those that the lemmas name. -/
import Derived.Test.YtniaiciabfdbnaaWb
import Derived.Test.YtniaiciabfdbnaaWc
namespace Go.Proofs.Ytniaiciabfdbnaa.E
open Go Go.Proofs
set_option maxRecDepth 100000
theorem gtI_eq (a b : Int) : gtI a b = decide (a > b) := rfl
theorem gtN_eq (a b : Int) : gtN a b = decide (a > b) := rfl
theorem ltN_eq (a b : Int) : ltN a b = decide (a < b) := rfl
theorem geH_eq (a b : Int) : geH a b = decide (a ≥ b) := rfl
theorem strEqI_self (l : List Int) : strEqI l l = true := by
  show ((strOfNums l).toList == (strOfNums l).toList) = true
  simp
theorem wrap_range (k : Int) : 0 ≤ IntKind.u64.wrap k ∧ IntKind.u64.wrap k ≤ 18446744073709551615 := by
  rw [IntKind.wrap_u64]; omega
theorem wrap32_range (k : Int) : 0 ≤ IntKind.u32.wrap k ∧ IntKind.u32.wrap k ≤ 4294967295 := by
  rw [IntKind.wrap_u32]; omega
theorem orI_eq (a b : Int) : orI a b = IntKind.u64.wrap ((BitVec.ofInt 64 a ||| BitVec.ofInt 64 b).toNat : Int) := rfl
theorem crcI_range (l : List Int) : 0 ≤ crcI l ∧ crcI l ≤ 4294967295 := by
  have h : ∃ z : Int, crcMoreS 0 l = IntKind.u32.wrap z := ⟨_, rfl⟩
  obtain ⟨z, hz⟩ := h
  have h2 := wrap32_range z
  unfold crcI
  rw [hz, IntWalk.u64_in _ (by omega)]
  exact h2
theorem foldN_range (l : List Int) : 0 ≤ foldN l ∧ foldN l ≤ 18446744073709551615 := by
  unfold foldN
  have : ∀ (l : List Int) (n : Int), 0 ≤ n ∧ n ≤ 18446744073709551615 → 0 ≤ l.foldl (fun n b => orI (shlI n 8) (IntKind.u64.wrap b)) n ∧ l.foldl (fun n b => orI (shlI n 8) (IntKind.u64.wrap b)) n ≤ 18446744073709551615 := by
    intro l
    induction l with
    | nil => intro n h; exact h
    | cons b r ih => intro n _; exact ih _ (by simp only [orI_eq]; exact wrap_range _)
  exact this l 0 (by omega)
theorem byteAt_nat (n c : Nat) (hc : c ≤ 64) : byteAt (n : Int) (c : Int) = ((n / 2 ^ c % 256 : Nat) : Int) := by
  have h1 : shrI (n : Int) (c : Int) = (n : Int).fdiv (2 ^ (min c 64)) := by
    unfold shrI Op.shift
    rw [if_neg (by omega)]
    rfl
  unfold byteAt
  rw [h1, Nat.min_eq_left hc, IntKind.wrap_u8, Int.fdiv_eq_ediv_of_nonneg _ (Int.le_of_lt (Int.pow_pos (by decide))), Int.natCast_emod, Int.natCast_ediv, Int.natCast_pow]
  rfl
theorem orI_nat (m b : Nat) (hm : m < 2 ^ 56) (hb : b < 256) : orI (shlI (m : Int) 8) (IntKind.u64.wrap (b : Int)) = ((m * 256 + b : Nat) : Int) := by
  have h1 : shlI (m : Int) 8 = ((m * 256 : Nat) : Int) := by
    have : shlI (m : Int) 8 = IntKind.u64.wrap ((m : Int) * 2 ^ 8) := rfl
    rw [this, IntWalk.u64_in _ (by omega)]
    omega
  rw [h1, IntWalk.u64_in (b : Int) (by omega), orI_eq]
  have h2 : ((BitVec.ofInt 64 ((m * 256 : Nat) : Int) ||| BitVec.ofInt 64 (b : Int)).toNat) = m * 256 + b := by
    rw [BitVec.toNat_or, BitVec.ofInt_natCast, BitVec.ofInt_natCast, BitVec.toNat_ofNat, BitVec.toNat_ofNat, Nat.mod_eq_of_lt (by omega), Nat.mod_eq_of_lt (by omega)]
    have := Nat.shiftLeft_add_eq_or_of_lt (show b < 2 ^ 8 by omega) m
    rw [Nat.shiftLeft_eq, show (2 : Nat) ^ 8 = 256 from rfl] at this
    omega
  rw [h2, IntWalk.u64_in _ (by omega)]
def natN (l : List Nat) : Nat := l.foldl (fun n b => n * 256 + b) 0
theorem foldN_nat : ∀ (l : List Nat) (n : Nat), (∀ b ∈ l, b < 256) → n < 2 ^ (64 - 8 * l.length) → l.length ≤ 8 → (l.map Int.ofNat).foldl (fun n b => orI (shlI n 8) (IntKind.u64.wrap b)) (n : Int) = ((l.foldl (fun n b => n * 256 + b) n : Nat) : Int)
  | [], n, _, _, _ => rfl
  | b :: r, n, h, hn, hl => by
    simp only [List.length_cons] at hn hl
    have hb : b < 256 := h b (by simp)
    simp only [List.map_cons, List.foldl_cons]
    have e : 64 - 8 * (r.length + 1) + 8 = 64 - 8 * r.length := by omega
    have h56 : n < 2 ^ 56 := Nat.lt_of_lt_of_le hn (Nat.pow_le_pow_right (by omega) (by omega))
    have := orI_nat n b h56 hb
    rw [show (Int.ofNat b) = (b : Int) from rfl, this]
    refine foldN_nat r _ (fun c hc => h c (by simp [hc])) ?_ (by omega)
    rw [← e, Nat.pow_add]
    have : n + 1 ≤ 2 ^ (64 - 8 * (r.length + 1)) := hn
    have := Nat.mul_le_mul_right 256 this
    omega
theorem be8_nat (n : Nat) : be8 (n : Int) = [n / 2 ^ 56 % 256, n / 2 ^ 48 % 256, n / 2 ^ 40 % 256, n / 2 ^ 32 % 256, n / 2 ^ 24 % 256, n / 2 ^ 16 % 256, n / 2 ^ 8 % 256, n / 2 ^ 0 % 256].map Int.ofNat := by
  unfold be8
  have := byteAt_nat n
  simp only [List.map_cons, List.map_nil]
  rw [show (56 : Int) = ((56 : Nat) : Int) from rfl, show (48 : Int) = ((48 : Nat) : Int) from rfl, show (40 : Int) = ((40 : Nat) : Int) from rfl, show (32 : Int) = ((32 : Nat) : Int) from rfl,
    show (24 : Int) = ((24 : Nat) : Int) from rfl, show (16 : Int) = ((16 : Nat) : Int) from rfl, show (8 : Int) = ((8 : Nat) : Int) from rfl, show (0 : Int) = ((0 : Nat) : Int) from rfl]
  rw [this 56 (by omega), this 48 (by omega), this 40 (by omega), this 32 (by omega), this 24 (by omega), this 16 (by omega), this 8 (by omega), this 0 (by omega)]
  rfl
theorem foldN_be8 (s : Int) (h0 : 0 ≤ s) (h1 : s ≤ 18446744073709551615) : foldN (be8 s) = s := by
  obtain ⟨n, rfl⟩ := Int.eq_ofNat_of_zero_le h0
  rw [be8_nat]
  unfold foldN
  have := foldN_nat [n / 2 ^ 56 % 256, n / 2 ^ 48 % 256, n / 2 ^ 40 % 256, n / 2 ^ 32 % 256, n / 2 ^ 24 % 256, n / 2 ^ 16 % 256, n / 2 ^ 8 % 256, n / 2 ^ 0 % 256] 0 (by
    intro b hb
    simp only [List.mem_cons, List.not_mem_nil, or_false] at hb
    omega) (by simp) (by simp)
  rw [show ((0 : Nat) : Int) = 0 from rfl] at this
  rw [this]
  simp only [List.foldl_cons, List.foldl_nil]
  omega
theorem ob_T {b : Bool} (h : b = true) : bo b = TT := by rw [h]; rfl
theorem ob_F {b : Bool} (h : b = false) : bo b = FF := by rw [h]; rfl
theorem obPut_ok (s t : Int) (r g : Nat → Int) (hs : 0 ≤ s ∧ s ≤ 1048576) (ht : 0 ≤ t ∧ t ≤ 18446744073709551615) : (obPut s t r g).ok := by
  have hc := crcI_range (headInts s t r g)
  unfold obPut
  simp only [Ob.ok_cons, Ob.ok_nil, gtI_eq, and_true]
  refine ⟨ob_F ?_, ob_F ?_, ob_F ?_, ob_F ?_⟩ <;> (simp; omega)
theorem obTake_ok (s t : Int) (r g : Nat → Int) (hs : 0 ≤ s ∧ s ≤ 1048576) (ht : 0 ≤ t ∧ t ≤ 18446744073709551615) : (obTake s t r g).ok := by
  have hp := obPut_ok s t r g hs ht
  have e1 : u64 (foldN (be8 s)) = u64 s := by rw [foldN_be8 s hs.1 (by omega)]
  have e2 : u64 (foldN (be8 t)) = u64 t := by rw [foldN_be8 t ht.1 ht.2]
  have e3 : bo (strEqI (formInts s t r g) (formInts s t r g)) = TT := ob_T (strEqI_self _)
  unfold obTake
  rw [e1, e2, e3]
  simp [Ob.ok_append, Ob.ok_cons, Ob.ok_nil, hp]
theorem remB_eq (a : Int) (h : 0 ≤ a) : remB a 7 = a % 7 := by
  have : remB a 7 = a.tmod 7 := rfl
  rw [this, Int.tmod_eq_emod_of_nonneg h]
theorem remH_eq (a : Int) (h : 0 ≤ a) : remH a 200 = a % 200 := by
  have : remH a 200 = a.tmod 200 := rfl
  rw [this, Int.tmod_eq_emod_of_nonneg h]
theorem remN_eq (a : Int) (h : 0 ≤ a) : remN a 121 = a % 121 := by
  have : remN a 121 = a.tmod 121 := rfl
  rw [this, Int.tmod_eq_emod_of_nonneg h]
theorem addN_eq (a b : Int) (h : 0 ≤ a + b ∧ a + b ≤ 9223372036854775807) : addN a b = a + b := by
  have : addN a b = IntKind.i64.wrap (a + b) := rfl
  rw [this, IntWalk.i64_in _ (by omega)]
theorem subN_eq (a b : Int) (h : -9223372036854775808 ≤ a - b ∧ a - b ≤ 9223372036854775807) : subN a b = a - b := by
  have : subN a b = IntKind.i64.wrap (a - b) := rfl
  rw [this, IntWalk.i64_in _ h]
theorem roomN_eq (used room : Int) (hu : 0 ≤ used ∧ used ≤ 120) (h : 0 ≤ room) : roomN used room = room % 200 := by
  unfold roomN maxN
  rw [remH_eq room h, IntWalk.i64_in (room % 200) (by omega), addN_eq _ _ (by omega), if_neg (by omega), subN_eq _ _ (by omega)]
  omega
theorem awake_ev : isTrue (evCall E0 ovK 1000000 15 [] st00) = true := by kernel_rfl
theorem closed_calls {f k : Nat} (h : isTrue (evCall E0 ovK k f [] st00) = true) (st : St) : ACalls Try.prog f [] (fun a st' => a = TT ∧ st' = st) st := fun g w us hok hv => by
  obtain rfl : us = [] := List.eq_nil_of_length_eq_zero hv.1
  exact (closed h w).mono fun e w' ⟨he, hb⟩ => ⟨g, st, TT, .bool true, he, step_below hok hb, .val _ rfl, rfl, rfl⟩
theorem ovW_ok : ∀ f args st r, ovW f args st = some r → ACalls Try.prog f args (fun a st' => (a, st') = r) st := by
  intro f args st r h
  unfold ovW at h
  split at h
  · rename_i hf
    subst hf
    split at h
    · cases h
      exact (closed_calls awake_ev st).mono fun a st' ⟨h1, h2⟩ => by rw [h1, h2]
    · cases h
  · exact ovF_ok f args st r h
theorem whole_of {args x : List AV} {ob : Ob} (h : wholeEv args x = some (TT, ob)) (hob : ob.ok) : ACalls Try.prog 9 args (fun a _ => a = TT) st00 := by
  unfold wholeEv at h
  obtain ⟨⟨a, st, x', ob'⟩, h1, h2⟩ := Option.map_eq_some_iff.1 h
  simp only [Prod.mk.injEq] at h2
  obtain ⟨rfl, rfl⟩ := h2
  exact ((evS_ok E1_ok ovW_ok 100000).call _ _ _ _ _ _ _ _ h1 hob).mono fun a st' ⟨h, _⟩ => h
set_option maxHeartbeats 4000000 in
theorem whole_all (none : Bool) (s t : Int) (r g : Nat → Int) (s2 t2 : Int) (r2 g2 : Nat → Int) (fu room : Int) (pk : AV) (hs : 0 ≤ s ∧ s ≤ 18446744073709551615) (ht : 0 ≤ t ∧ t ≤ 18446744073709551615)
    (hs2 : 0 ≤ s2 ∧ s2 ≤ 18446744073709551615) (ht2 : 0 ≤ t2 ∧ t2 ≤ 18446744073709551615) (hfu : 0 ≤ fu ∧ fu ≤ 255) (hroom : 0 ≤ room ∧ room ≤ 65535)
    (hpk : pk = .nils ∨ ∃ n full cells, pk = .imm 1 n full cells ∧ (0 < n → ∃ p0 rest, cells = .val (.int .u16 p0) :: rest ∧ 0 ≤ p0 ∧ p0 ≤ 65535)) :
    ACalls Try.prog 9 [turn none s t r g s2 t2 r2 g2 fu pk room] (fun a _ => a = TT) st00 := by
  rcases Int.lt_or_le 1048576 s with hb | hb
  · have e1 : bo (gtI s 1048576) = TT := ob_T (by rw [gtI_eq]; simp; omega)
    exact whole_of (wBig1 s t r g s2 t2 r2 g2 fu room none pk) (by simp [Ob.ok_cons, Ob.ok_nil, e1])
  have e1 : bo (gtI s 1048576) = FF := ob_F (by rw [gtI_eq]; simp; omega)
  rcases Int.lt_or_le 1048576 s2 with hb2 | hb2
  · have e2 : bo (gtI s2 1048576) = TT := ob_T (by rw [gtI_eq]; simp; omega)
    exact whole_of (wBig2 s t r g s2 t2 r2 g2 fu room none pk) (by simp [Ob.ok_cons, Ob.ok_nil, e1, e2])
  have e2 : bo (gtI s2 1048576) = FF := ob_F (by rw [gtI_eq]; simp; omega)
  have p1 := obPut_ok s t r g ⟨hs.1, hb⟩ ht
  have p2 := obPut_ok s2 t2 r2 g2 ⟨hs2.1, hb2⟩ ht2
  have q1 := obTake_ok s t r g ⟨hs.1, hb⟩ ht
  have q2 := obTake_ok s2 t2 r2 g2 ⟨hs2.1, hb2⟩ ht2
  have d3 : bo true = TT := rfl
  have hr0 := roomN_eq 0 room (by omega) hroom.1
  have hr1 := roomN_eq 120 room (by omega) hroom.1
  have hrem := remB_eq fu hfu.1
  have hh := remH_eq room hroom.1
  have key : ∀ (k : Int), fu % 7 = k → u8 (remB fu 7) = u8 k := fun k h => by rw [hrem, h]
  rcases Int.lt_or_le (room % 200) 120 with hf | hf
  · have f0 : bo (gtN 120 (roomN 0 room)) = TT := ob_T (by rw [hr0, gtN_eq]; simp; omega)
    have f1 : bo (gtN 120 (roomN 120 room)) = TT := ob_T (by rw [hr1, gtN_eq]; simp; omega)
    have f2 : bo (geH (remH room 200) 120) = FF := ob_F (by rw [hh, geH_eq]; simp; omega)
    have hk : fu % 7 = 0 ∨ fu % 7 = 1 ∨ fu % 7 = 2 ∨ fu % 7 = 3 ∨ fu % 7 = 4 ∨ fu % 7 = 5 ∨ fu % 7 = 6 := by omega
    cases none
    · rcases hk with h | h | h | h | h | h | h
      · exact whole_of (wO0F s t r g s2 t2 r2 g2 fu room pk) (by simp [Ob.ok_append, Ob.ok_cons, Ob.ok_nil, e1, e2, key _ h, p1, p2, f1, f2, q1, d3])
      · exact whole_of (wO1R s t r g s2 t2 r2 g2 fu room pk) (by simp [Ob.ok_append, Ob.ok_cons, Ob.ok_nil, e1, e2, key _ h, p1, p2, q1, d3])
      · exact whole_of (wO2F s t r g s2 t2 r2 g2 fu room pk) (by simp [Ob.ok_append, Ob.ok_cons, Ob.ok_nil, e1, e2, key _ h, p1, p2, f1, f2, q1, d3])
      · exact whole_of (wO3F s t r g s2 t2 r2 g2 fu room pk) (by simp [Ob.ok_append, Ob.ok_cons, Ob.ok_nil, e1, e2, key _ h, p1, p2, f1, f2, q1, d3])
      · exact whole_of (wO4F s t r g s2 t2 r2 g2 fu room pk) (by simp [Ob.ok_append, Ob.ok_cons, Ob.ok_nil, e1, e2, key _ h, p1, p2, f1, f2, q1, d3])
      · exact whole_of (wO5F s t r g s2 t2 r2 g2 fu room pk) (by simp [Ob.ok_append, Ob.ok_cons, Ob.ok_nil, e1, e2, key _ h, p1, p2, f1, f2, q1, d3])
      · exact whole_of (wO6F s t r g s2 t2 r2 g2 fu room pk) (by simp [Ob.ok_append, Ob.ok_cons, Ob.ok_nil, e1, e2, key _ h, p1, p2, f1, f2, q1, d3])
    · rcases hk with h | h | h | h | h | h | h
      · exact whole_of (wN0F s t r g s2 t2 r2 g2 fu room pk) (by simp [Ob.ok_append, Ob.ok_cons, Ob.ok_nil, e1, e2, key _ h, p2, f0, f2])
      · exact whole_of (wN1R s t r g s2 t2 r2 g2 fu room pk) (by simp [Ob.ok_append, Ob.ok_cons, Ob.ok_nil, e1, e2, key _ h, p2])
      · exact whole_of (wN2F s t r g s2 t2 r2 g2 fu room pk) (by simp [Ob.ok_append, Ob.ok_cons, Ob.ok_nil, e1, e2, key _ h, p2, f0, f2])
      · exact whole_of (wN3F s t r g s2 t2 r2 g2 fu room pk) (by simp [Ob.ok_append, Ob.ok_cons, Ob.ok_nil, e1, e2, key _ h, p2, f0, f2])
      · exact whole_of (wN4F s t r g s2 t2 r2 g2 fu room pk) (by simp [Ob.ok_append, Ob.ok_cons, Ob.ok_nil, e1, e2, key _ h, p2, f0, f2])
      · exact whole_of (wN5F s t r g s2 t2 r2 g2 fu room pk) (by simp [Ob.ok_append, Ob.ok_cons, Ob.ok_nil, e1, e2, key _ h, p2, f0, f2])
      · exact whole_of (wN6F s t r g s2 t2 r2 g2 fu room pk) (by simp [Ob.ok_append, Ob.ok_cons, Ob.ok_nil, e1, e2, key _ h, p2, f0, f2])
  · have f0 : bo (gtN 120 (roomN 0 room)) = FF := ob_F (by rw [hr0, gtN_eq]; simp; omega)
    have f1 : bo (gtN 120 (roomN 120 room)) = FF := ob_F (by rw [hr1, gtN_eq]; simp; omega)
    have hk : fu % 7 = 3 ∨ fu % 7 = 0 ∨ fu % 7 = 1 ∨ fu % 7 = 2 ∨ fu % 7 = 4 ∨ fu % 7 = 5 ∨ fu % 7 = 6 := by omega
    have hpk' : pk = .nils ∨ (∃ n full cells, pk = .imm 1 n full cells ∧ bo (ltN 0 n) = FF) ∨ (∃ (n : Nat) (full : Bool) (p0 : Int) (rest : List AV), pk = .imm 1 n full (.val (.int .u16 p0) :: rest) ∧ bo (ltN 0 n) = TT ∧ 0 < n ∧ i64 (remN (IntKind.i64.wrap p0) 121) = i64 0) ∨
        (∃ (n : Nat) (full : Bool) (p0 : Int) (rest : List AV) (kp : Nat), pk = .imm 1 n full (.val (.int .u16 p0) :: rest) ∧ bo (ltN 0 n) = TT ∧ 0 < n ∧ i64 (remN (IntKind.i64.wrap p0) 121) = i64 kp ∧ 0 < kp ∧ kp ≤ 120) := by
      rcases hpk with h | ⟨n, full, cells, rfl, h⟩
      · exact .inl h
      · rcases Nat.eq_zero_or_pos n with h0 | h0
        · exact .inr (.inl ⟨n, full, cells, rfl, ob_F (by rw [ltN_eq]; simp; omega)⟩)
        · obtain ⟨p0, rest, rfl, hp⟩ := h h0
          have hl : bo (ltN 0 n) = TT := ob_T (by rw [ltN_eq]; simp; omega)
          have hw : remN (IntKind.i64.wrap p0) 121 = p0 % 121 := by rw [IntWalk.i64_in p0 (by omega), remN_eq p0 hp.1]
          rcases Int.lt_or_le 0 (p0 % 121) with h1 | h1
          · refine .inr (.inr (.inr ⟨n, full, p0, rest, (p0 % 121).toNat, rfl, hl, h0, ?_, by omega, by omega⟩))
            rw [hw, Int.toNat_of_nonneg (by omega)]
          · refine .inr (.inr (.inl ⟨n, full, p0, rest, rfl, hl, h0, ?_⟩))
            rw [hw, show p0 % 121 = 0 by omega]
    have ha : ∀ kp : Nat, kp ≤ 120 → i64 (addN 0 kp) = i64 kp := fun kp h => by rw [addN_eq _ _ (by omega), Int.zero_add]
    cases none
    · rcases hk with h | h | h | h | h | h | h
      · rcases hpk' with rfl | ⟨n, full, cells, rfl, v1⟩ | ⟨n, full, p0, rest, rfl, v1, v2, v3⟩ | ⟨n, full, p0, rest, kp, rfl, v1, v2, v3, v4, v5⟩
        · exact whole_of (wO3Rn s t r g s2 t2 r2 g2 fu room) (by simp [Ob.ok_append, Ob.ok_cons, Ob.ok_nil, e1, e2, key _ h, p1, p2, f1, q1, d3])
        · exact whole_of (wO3Re s t r g s2 t2 r2 g2 fu room n full cells) (by simp [Ob.ok_append, Ob.ok_cons, Ob.ok_nil, e1, e2, key _ h, p1, p2, f1, q1, d3, v1])
        · exact whole_of (wO3Rz s t r g s2 t2 r2 g2 fu room n full p0 rest) (by simp [Ob.ok_append, Ob.ok_cons, Ob.ok_nil, e1, e2, key _ h, p1, p2, f1, q1, d3, v1, v2, v3])
        · exact whole_of (wO3Rp s t r g s2 t2 r2 g2 fu room n full p0 rest kp) (by simp [Ob.ok_append, Ob.ok_cons, Ob.ok_nil, e1, e2, key _ h, p1, p2, f1, q1, d3, v1, v2, v3, v4, v5, ha kp v5])
      · exact whole_of (wO0R s t r g s2 t2 r2 g2 fu room pk) (by simp [Ob.ok_append, Ob.ok_cons, Ob.ok_nil, e1, e2, key _ h, p1, p2, f1, q2, d3])
      · exact whole_of (wO1R s t r g s2 t2 r2 g2 fu room pk) (by simp [Ob.ok_append, Ob.ok_cons, Ob.ok_nil, e1, e2, key _ h, p1, p2, q1, d3])
      · exact whole_of (wO2R s t r g s2 t2 r2 g2 fu room pk) (by simp [Ob.ok_append, Ob.ok_cons, Ob.ok_nil, e1, e2, key _ h, p1, p2, f1, q1, d3])
      · exact whole_of (wO4R s t r g s2 t2 r2 g2 fu room pk) (by simp [Ob.ok_append, Ob.ok_cons, Ob.ok_nil, e1, e2, key _ h, p1, p2, f1, q1, d3])
      · exact whole_of (wO5R s t r g s2 t2 r2 g2 fu room pk) (by simp [Ob.ok_append, Ob.ok_cons, Ob.ok_nil, e1, e2, key _ h, p1, p2, f1, q2, d3])
      · exact whole_of (wO6R s t r g s2 t2 r2 g2 fu room pk) (by simp [Ob.ok_append, Ob.ok_cons, Ob.ok_nil, e1, e2, key _ h, p1, p2, f1, q2, d3])
    · rcases hk with h | h | h | h | h | h | h
      · rcases hpk' with rfl | ⟨n, full, cells, rfl, v1⟩ | ⟨n, full, p0, rest, rfl, v1, v2, v3⟩ | ⟨n, full, p0, rest, kp, rfl, v1, v2, v3, v4, v5⟩
        · exact whole_of (wN3Rn s t r g s2 t2 r2 g2 fu room) (by simp [Ob.ok_append, Ob.ok_cons, Ob.ok_nil, e1, e2, key _ h, p2, f0])
        · exact whole_of (wN3Re s t r g s2 t2 r2 g2 fu room n full cells) (by simp [Ob.ok_append, Ob.ok_cons, Ob.ok_nil, e1, e2, key _ h, p2, f0, v1])
        · exact whole_of (wN3Rz s t r g s2 t2 r2 g2 fu room n full p0 rest) (by simp [Ob.ok_append, Ob.ok_cons, Ob.ok_nil, e1, e2, key _ h, p2, f0, v1, v2, v3])
        · exact whole_of (wN3Rp s t r g s2 t2 r2 g2 fu room n full p0 rest kp) (by simp [Ob.ok_append, Ob.ok_cons, Ob.ok_nil, e1, e2, key _ h, p2, f0, v1, v2, v3, v4, v5, ha kp v5])
      · exact whole_of (wN0R s t r g s2 t2 r2 g2 fu room pk) (by simp [Ob.ok_append, Ob.ok_cons, Ob.ok_nil, e1, e2, key _ h, p2, f0, q2, d3])
      · exact whole_of (wN1R s t r g s2 t2 r2 g2 fu room pk) (by simp [Ob.ok_append, Ob.ok_cons, Ob.ok_nil, e1, e2, key _ h, p2])
      · exact whole_of (wN2R s t r g s2 t2 r2 g2 fu room pk) (by simp [Ob.ok_append, Ob.ok_cons, Ob.ok_nil, e1, e2, key _ h, p2, f0])
      · exact whole_of (wN4R s t r g s2 t2 r2 g2 fu room pk) (by simp [Ob.ok_append, Ob.ok_cons, Ob.ok_nil, e1, e2, key _ h, p2, f0])
      · exact whole_of (wN5R s t r g s2 t2 r2 g2 fu room pk) (by simp [Ob.ok_append, Ob.ok_cons, Ob.ok_nil, e1, e2, key _ h, p2, f0, q2, d3])
      · exact whole_of (wN6R s t r g s2 t2 r2 g2 fu room pk) (by simp [Ob.ok_append, Ob.ok_cons, Ob.ok_nil, e1, e2, key _ h, p2, f0, q2, d3])
/-- from the machine to the world -/
theorem run_of {f : Nat} {args : List AV} (h : ACalls Try.prog f args (fun a _ => a = TT) st00) {W : World} {us : List Value} (hv : VRs (gW W) args us) :
    Calls Try.prog f us.toArray W fun e w' => e = .returned (.bool true) ∧ RowKit.Below W.heap.size W w' :=
  (h (gW W) W us (okW W) hv).mono fun e w' ⟨g', st', a, v, h1, h2, h3, h4⟩ => by
    subst h4
    rw [h3.val_inv] at h1
    exact ⟨h1, h2.os, h2.tape, h2.output, h2.size, fun b hb => h2.frame b hb fun id o ho => by
      have := (St.wget_get ho).1
      simp [st00, St.get, Tr.get] at this⟩
end Go.Proofs.Ytniaiciabfdbnaa.E
