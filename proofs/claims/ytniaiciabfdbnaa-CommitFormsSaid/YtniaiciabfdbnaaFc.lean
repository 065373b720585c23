/- CommitForms over the abstract machine: it returns true. No condition beyond those that the lemmas name. -/
import Derived.Test.YtniaiciabfdbnaaFb
namespace Go.Proofs.Ytniaiciabfdbnaa.E
open Go Go.Proofs
set_option maxRecDepth 100000
open Go
/-- A new row that a call of another making has left. -/
theorem step_below_row {g : G} {st : St} {w w' : World} (h : OK g st w) (hb : RowKit.Below w.heap.size w w') {B : Nat} (hB : w.heap.size ≤ B) {cur : Array Value} {ty : TypeId} (hc : w'.heap[B]? = some (.cells cur ty (0, 0))) {vs : List AV} {us : List Value}
    (hv : VRs g vs us) (h1 : ∀ u ∈ us, u.oneCell' = true) (hp : us <+: cur.toList) : Step g st w (g.add B 0 cur.size) (st.push (.row vs ty)) w' := by
  have hle := g.le_add B 0 cur.size
  refine ⟨hle, ⟨fun b hb' => ?_, fun id o' hg => ?_, fun id o1 id' o2 h1 h2 he => ?_, fun id o' hg => ?_, by simp [h.n], fun p hp => (h.glob p hp).mono hle⟩, hb.os, hb.tape, hb.output, hb.size, fun b hb' _ => hb.block b hb', fun id o' hg hlt => ?_, fun _ _ _ => rfl, rfl, rfl⟩
  · obtain ⟨cs, T, fr, k1, k2⟩ := h.imm b hb'
    exact ⟨cs, T, fr, by rw [hb.block b (h.immlt hb')]; exact k1, k2⟩
  · rw [St.get_push] at hg
    split at hg
    · rename_i e
      cases hg
      subst e
      refine ⟨Nat.lt_succ_self _, ?_⟩
      rw [← h.n]
      exact ⟨cur, (0, 0), us, by rw [G.add_blk]; exact hc, by simp, hv.mono hle, h1, by simpa using hp, .inl rfl⟩
    · obtain ⟨h1, h2⟩ := h.obj id o' hg
      exact ⟨Nat.lt_succ_of_lt h1, h2.keep hle (h.lt hg).1 (hb.block _ (h.lt hg).2)⟩
  · rw [St.get_push] at h1 h2
    rw [← h.n] at h1 h2
    split at h1 <;> split at h2
    · rename_i a b; exact a.trans b.symm
    · rename_i a b
      subst a
      rw [G.add_blk, hle.blk id' (h.lt h2).1] at he
      have := (h.lt h2).2
      omega
    · rename_i a b
      subst b
      rw [G.add_blk, hle.blk id (h.lt h1).1] at he
      have := (h.lt h1).2
      omega
    · rw [hle.blk id (h.lt h1).1, hle.blk id' (h.lt h2).1] at he
      exact h.inj id o1 id' o2 h1 h2 he
  · rw [St.get_push, ← h.n] at hg
    split at hg
    · rename_i e
      subst e
      rw [G.add_blk, G.add_M]
      by_cases hM : g.M B = []
      · exact hM
      · exact absurd (h.immlt hM) (by omega)
    · rw [hle.blk id (h.lt hg).1]
      exact h.sep id o' hg
  · rw [St.get_push, ← h.n] at hg
    split at hg
    · rename_i e
      subst e
      rw [G.add_blk] at hlt
      omega
    · exact ⟨id, o', hg, (hle.blk id (h.lt hg).1).symm, fun _ => ⟨rfl, rfl⟩⟩
theorem step_below {g : G} {st : St} {w w' : World} (h : OK g st w) (hb : RowKit.Below w.heap.size w w') : Step g st w g st w' :=
  ⟨.refl g, ⟨fun b hb' => by
      obtain ⟨cs, T, fr, k1, k2⟩ := h.imm b hb'
      exact ⟨cs, T, fr, by rw [hb.block b (h.immlt hb')]; exact k1, k2⟩, fun id o hg => ⟨(h.obj id o hg).1, (h.obj id o hg).2.keep (.refl g) (h.lt hg).1 (hb.block _ (h.lt hg).2)⟩, h.inj, h.sep, h.n, h.glob⟩,
    hb.os, hb.tape, hb.output, hb.size, fun b hb' _ => hb.block b hb', fun id o hg _ => ⟨id, o, hg, rfl, fun _ => ⟨rfl, rfl⟩⟩, fun _ _ _ => rfl, rfl, rfl⟩
theorem gtU_eq (a b : Int) : gtU a b = decide (a > b) := rfl
theorem gtN_eq (a b : Int) : gtN a b = decide (a > b) := rfl
theorem strEqI_self (l : List Int) : strEqI l l = true := by
  show ((strOfNums l).toList == (strOfNums l).toList) = true
  simp
theorem strNeI_eq (a b : List Int) : strNeI a b = !strEqI a b := rfl
theorem map_intOf (A : List Int) : (A.map u8).map intOf = A := by
  induction A with
  | nil => rfl
  | cons a r ih => simp only [List.map_cons, ih]; rfl
theorem numsA_u8 (A : List Int) : numsA (A.map u8) = some ((A.map u8).map intOf) := by
  rw [map_intOf]
  induction A with
  | nil => rfl
  | cons a r ih =>
    show (numsA (r.map u8)).map (a :: ·) = some (a :: r)
    rw [ih]; rfl
theorem exP_u8 (A : List Int) (L : Nat) (h : L = A.length) : exP (A.map u8) 0 L 1 := ⟨rfl, by simp [h]⟩
theorem okC_ex (A : List Int) (L : Nat) (h : L = A.length) : okC (exP (A.map u8) 0 L 1) (A.map u8) L :=
  ⟨exP_u8 A L h, numsA_u8 A, by rw [map_intOf, h]⟩
theorem okC_tr (A : List Int) (L : Nat) (h : L = A.length) : okC True (A.map u8) L :=
  ⟨trivial, numsA_u8 A, by rw [map_intOf, h]⟩
theorem growP_u8 (A : List Int) (n len : Nat) (h : n = A.length) (h0 : n ≠ 0) (hb : len + n ≤ 140737488355328) : growP n len 1 1 (A.map u8) false :=
  ⟨⟨by simp [h], fun h => by cases h⟩, h0, by omega, by omega⟩
theorem exP_nil : exP [] 0 0 1 := ⟨rfl, rfl⟩
theorem wrap_range (k : Int) : 0 ≤ IntKind.u64.wrap k ∧ IntKind.u64.wrap k ≤ 18446744073709551615 := by
  rw [IntKind.wrap_u64]; omega
theorem orU_eq (a b : Int) : orU a b = IntKind.u64.wrap ((BitVec.ofInt 64 a ||| BitVec.ofInt 64 b).toNat : Int) := rfl
theorem orU_nat (m b : Nat) (hm : m < 2 ^ 56) (hb : b < 256) : orU (shlU (m : Int) 8) (IntKind.u64.wrap (b : Int)) = ((m * 256 + b : Nat) : Int) := by
  have h1 : shlU (m : Int) 8 = ((m * 256 : Nat) : Int) := by
    have : shlU (m : Int) 8 = IntKind.u64.wrap ((m : Int) * 2 ^ 8) := rfl
    rw [this, IntWalk.u64_in _ (by omega)]
    omega
  rw [h1, IntWalk.u64_in (b : Int) (by omega), orU_eq]
  have h2 : ((BitVec.ofInt 64 ((m * 256 : Nat) : Int) ||| BitVec.ofInt 64 (b : Int)).toNat) = m * 256 + b := by
    rw [BitVec.toNat_or, BitVec.ofInt_natCast, BitVec.ofInt_natCast, BitVec.toNat_ofNat, BitVec.toNat_ofNat, Nat.mod_eq_of_lt (by omega), Nat.mod_eq_of_lt (by omega)]
    have := Nat.shiftLeft_add_eq_or_of_lt (show b < 2 ^ 8 by omega) m
    rw [Nat.shiftLeft_eq, show (2 : Nat) ^ 8 = 256 from rfl] at this
    omega
  rw [h2, IntWalk.u64_in _ (by omega)]
theorem addmul_nat (m b : Nat) (hm : m < 2 ^ 56) (hb : b < 256) : addU (mulU 256 (m : Int)) (IntKind.u64.wrap (b : Int)) = ((m * 256 + b : Nat) : Int) := by
  have h1 : mulU 256 (m : Int) = ((m * 256 : Nat) : Int) := by
    have : mulU 256 (m : Int) = IntKind.u64.wrap (256 * (m : Int)) := rfl
    rw [this, IntWalk.u64_in _ (by omega)]
    omega
  rw [h1, IntWalk.u64_in (b : Int) (by omega)]
  have : addU ((m * 256 : Nat) : Int) (b : Int) = IntKind.u64.wrap (((m * 256 : Nat) : Int) + (b : Int)) := rfl
  rw [this, IntWalk.u64_in _ (by omega)]
  omega
theorem fold_step (m b l : Nat) (hb : b < 256) (hn : m < 2 ^ (64 - 8 * (l + 1))) (hl : l + 1 ≤ 8) : m < 2 ^ 56 ∧ m * 256 + b < 2 ^ (64 - 8 * l) := by
  have h56 : m < 2 ^ 56 := Nat.lt_of_lt_of_le hn (Nat.pow_le_pow_right (by omega) (by omega))
  refine ⟨h56, ?_⟩
  have e : 64 - 8 * (l + 1) + 8 = 64 - 8 * l := by omega
  rw [← e, Nat.pow_add]
  have : m + 1 ≤ 2 ^ (64 - 8 * (l + 1)) := hn
  have := Nat.mul_le_mul_right 256 this
  omega
theorem foldN_nat : ∀ (l : List Nat) (n : Nat), (∀ b ∈ l, b < 256) → n < 2 ^ (64 - 8 * l.length) → l.length ≤ 8 → (l.map Int.ofNat).foldl (fun n b => orU (shlU n 8) (IntKind.u64.wrap b)) (n : Int) = ((l.foldl (fun n b => n * 256 + b) n : Nat) : Int)
  | [], n, _, _, _ => rfl
  | b :: r, n, h, hn, hl => by
    simp only [List.length_cons] at hn hl
    have hb : b < 256 := h b (by simp)
    obtain ⟨h56, hs⟩ := fold_step n b r.length hb hn hl
    simp only [List.map_cons, List.foldl_cons]
    rw [show (Int.ofNat b) = (b : Int) from rfl, orU_nat n b h56 hb]
    exact foldN_nat r _ (fun c hc => h c (by simp [hc])) hs (by omega)
theorem numN_nat : ∀ (l : List Nat) (n : Nat), (∀ b ∈ l, b < 256) → n < 2 ^ (64 - 8 * l.length) → l.length ≤ 8 → (l.map Int.ofNat).foldl (fun n b => addU (mulU 256 n) (IntKind.u64.wrap b)) (n : Int) = ((l.foldl (fun n b => n * 256 + b) n : Nat) : Int)
  | [], n, _, _, _ => rfl
  | b :: r, n, h, hn, hl => by
    simp only [List.length_cons] at hn hl
    have hb : b < 256 := h b (by simp)
    obtain ⟨h56, hs⟩ := fold_step n b r.length hb hn hl
    simp only [List.map_cons, List.foldl_cons]
    rw [show (Int.ofNat b) = (b : Int) from rfl, addmul_nat n b h56 hb]
    exact numN_nat r _ (fun c hc => h c (by simp [hc])) hs (by omega)
theorem num_fold (l : List Int) (hl : l.length = 8) (hb : bytesP l) : numN l = foldN l := by
  have e := toNats hb
  have hb' : ∀ b ∈ l.map Int.toNat, b < 256 := fun b hx => by
    obtain ⟨z, hz, rfl⟩ := List.mem_map.1 hx
    have := hb z hz
    omega
  have h1 := numN_nat (l.map Int.toNat) 0 hb' (by simp [hl]) (by simp [hl])
  have h2 := foldN_nat (l.map Int.toNat) 0 hb' (by simp [hl]) (by simp [hl])
  rw [← e] at h1 h2
  unfold numN foldN
  rw [show (0 : Int) = ((0 : Nat) : Int) from rfl, h1, h2]
theorem foldN_range (l : List Int) : 0 ≤ foldN l ∧ foldN l ≤ 18446744073709551615 := by
  unfold foldN
  have : ∀ (l : List Int) (n : Int), 0 ≤ n ∧ n ≤ 18446744073709551615 → 0 ≤ l.foldl (fun n b => orU (shlU n 8) (IntKind.u64.wrap b)) n ∧ l.foldl (fun n b => orU (shlU n 8) (IntKind.u64.wrap b)) n ≤ 18446744073709551615 := by
    intro l
    induction l with
    | nil => intro n h; exact h
    | cons b r ih => intro n _; exact ih _ (by simp only [orU_eq]; exact wrap_range _)
  exact this l 0 (by omega)
theorem obPut_ok (s t : Int) (r g : Nat → Int) (hs : 0 ≤ s ∧ s ≤ 1048576) (ht : 0 ≤ t ∧ t ≤ 18446744073709551615) : (obPut s t r g).ok := by
  have hc := crcI_range (headInts s t r g)
  unfold obPut
  simp only [Ob.ok_cons, Ob.ok_nil, gtU_eq, and_true, true_and]
  refine ⟨ob_F ?_, ob_F ?_, ob_F ?_, ob_F ?_⟩ <;> simp <;> omega
theorem form_len (s t : Int) (r g : Nat → Int) : (formInts s t r g).length = 120 := by
  simp [formInts, headInts, be8, be4, rootL, sigL]
theorem bL_len (x : Nat → Int) : (bL x).length = 120 := by simp [bL]
theorem awake_ev : isTrue (evCall E0 ovK 1000000 15 [] st00) = true := by kernel_rfl
theorem closed_calls {f k : Nat} (h : isTrue (evCall E0 ovK k f [] st00) = true) (st : St) : ACalls Try.prog f [] (fun a st' => a = TT ∧ st' = st) st := fun g w us hok hv => by
  obtain rfl : us = [] := List.eq_nil_of_length_eq_zero hv.1
  exact (closed h w).mono fun e w' ⟨he, hb⟩ => ⟨g, st, TT, .bool true, he, step_below hok hb, .val _ rfl, rfl, rfl⟩
theorem ovL_ok : ∀ f args st r st' p, ovL f args st = some (r, st', p) → p → ACalls Try.prog f args (fun a s => a = r ∧ s = st') st := by
  intro f args st r st' p h hp
  unfold ovL at h
  split at h
  · rename_i hf
    subst hf
    split at h
    · cases h
      exact closed_calls awake_ev st
    · cases h
  · split at h
    · exact sumP_ok f args st r st' p h hp
    · obtain ⟨q, hq, he⟩ := Option.map_eq_some_iff.1 h
      cases he
      exact (ovK_ok f args st q hq).mono fun a s e => by rw [← e]; exact ⟨rfl, rfl⟩
theorem forms_of {args x : List AV} {ob : Ob} (h : formsEv args x = some (TT, ob)) (hob : ob.ok) : ACalls Try.prog 3 args (fun a _ => a = TT) st00 := by
  unfold formsEv at h
  obtain ⟨⟨a, st, x', ob'⟩, h1, h2⟩ := Option.map_eq_some_iff.1 h
  simp only [Prod.mk.injEq] at h2
  obtain ⟨rfl, rfl⟩ := h2
  exact ((evS_ok E1_ok ovL_ok 100000).call _ _ _ _ _ _ _ _ h1 hob).mono fun a st' ⟨h, _⟩ => h
theorem eqOb_form (s t : Int) (r g : Nat → Int) : (eqOb (exP ((formInts s t r g).map u8) 0 120 1) ((formInts s t r g).map u8) 120 (exP ((formInts s t r g).map u8) 0 120 1) ((formInts s t r g).map u8) 120).ok := by
  have h := okC_ex (formInts s t r g) 120 (form_len s t r g).symm
  unfold eqOb
  simp only [Ob.ok_cons, Ob.ok_nil, and_true]
  exact ⟨h, h, ob_T (strEqI_self _)⟩
theorem eqOb_nil : (eqOb True [] 0 True [] 0).ok := by
  have h := okC_tr [] 0 rfl
  unfold eqOb
  simp only [Ob.ok_cons, Ob.ok_nil, and_true]
  exact ⟨h, h, ob_T (strEqI_self _)⟩
theorem eqOb_own (A : List Int) (n m : Nat) (hn : n = A.length) (hm : m = A.length) : (eqOb (exP (A.map u8) 0 m 1) (A.map u8) m True (A.map u8) n).ok := by
  unfold eqOb
  simp only [Ob.ok_cons, Ob.ok_nil, and_true]
  exact ⟨okC_ex A m hm, okC_tr A n hn, ob_T (strEqI_self _)⟩
theorem big_ok (s : Int) (hs : 1048576 < s) : Ob.ok [bo (gtU s 1048576) = TT, bo (gtU s 1048576) = TT] := by
  have : bo (gtU s 1048576) = TT := ob_T (by rw [gtU_eq]; simp; omega)
  simp only [Ob.ok_cons, Ob.ok_nil, and_true]
  exact ⟨this, this⟩
theorem one_ok {p : Prop} (h : p) : Ob.ok [p] := by simp only [Ob.ok_cons, Ob.ok_nil, and_true]; exact h
theorem two_ok {p q : Prop} (h : p) (k : q) : Ob.ok [p, q] := by simp only [Ob.ok_cons, Ob.ok_nil, and_true]; exact ⟨h, k⟩
theorem four_ok {p q r s : Prop} (h : p) (k : q) (l : r) (m : s) : Ob.ok [p, q, r, s] := by simp only [Ob.ok_cons, Ob.ok_nil, and_true]; exact ⟨h, k, l, m⟩
theorem lt_T {a b : Int} (h : a < b) : bo (ltN a b) = TT := ob_T (by rw [ltN_eq]; simp; omega)
theorem lt_F {a b : Int} (h : b ≤ a) : bo (ltN a b) = FF := ob_F (by rw [ltN_eq]; simp; omega)
theorem gt_T {a b : Int} (h : b < a) : bo (gtN a b) = TT := ob_T (by rw [gtN_eq]; simp; omega)
theorem forms_all (s t : Int) (r g : Nat → Int) (hs : 0 ≤ s ∧ s ≤ 18446744073709551615) (ht : 0 ≤ t ∧ t ≤ 18446744073709551615) (hr : ∀ i, i < 32 → 0 ≤ r i ∧ r i < 256) (hg : ∀ i, i < 64 → 0 ≤ g i ∧ g i < 256) (v : AV)
    (hv : v = .nils ∨ (∃ (A : List Int) (full : Bool), A.length ≠ 120 ∧ A.length ≤ 140737488355328 ∧ v = .imm 1 A.length full (A.map u8)) ∨ ∃ (x : Nat → Int) (full : Bool), (∀ i, 0 ≤ x i ∧ x i < 256) ∧ v = .imm 1 120 full (bC x)) : ACalls Try.prog 3 [.agg (headCells s t r g), v] (fun a _ => a = TT) st00 := by
  have nums : ∀ (x : Nat → Int), (∀ i, 0 ≤ x i ∧ x i < 256) → bytesP (bS x) ∧ bytesP (bT x) := fun x hx => by
    constructor <;> intro z hz <;> simp only [bS, bT, List.mem_cons, List.not_mem_nil, or_false] at hz <;> rcases hz with rfl | rfl | rfl | rfl | rfl | rfl | rfl | rfl <;> exact hx _
  have e0 : exP [] 0 0 1 := exP_nil
  have z0 : True ∧ zeroP 0 1 [] false := ⟨trivial, ⟨rfl, fun h => by cases h⟩, rfl⟩
  rcases hv with rfl | ⟨A, full, hn, h47, rfl⟩ | ⟨x, full, hx, rfl⟩
  · have tl := two_ok (lt_T (show (0 : Int) < 120 by omega)) (lt_T (show (0 : Int) < 120 by omega))
    rcases Int.lt_or_le 1048576 s with hb | hb
    · refine forms_of (fmB_nil s t r g) ?_
      repeat rw [Ob.ok_append]
      exact ⟨⟨⟨⟨⟨⟨one_ok z0, big_ok s hb⟩, tl⟩, one_ok trivial⟩, eqOb_nil⟩, one_ok rfl⟩, eqOb_own [] 0 0 rfl rfl⟩
    · refine forms_of (fmS_nil s t r g) ?_
      repeat rw [Ob.ok_append]
      exact ⟨⟨⟨⟨⟨⟨⟨one_ok z0, obPut_ok s t r g ⟨hs.1, hb⟩ ht⟩, obPutR_ok s t r g ⟨hs.1, hb⟩ ht hr hg⟩, tl⟩, one_ok trivial⟩, eqOb_form s t r g⟩, one_ok rfl⟩, eqOb_own [] 0 0 rfl rfl⟩
  · cases A with
    | nil =>
      have tl := two_ok (lt_T (show (0 : Int) < 120 by omega)) (lt_T (show ((0 : Nat) : Int) < 120 by omega))
      rcases Int.lt_or_le 1048576 s with hb | hb
      · refine forms_of (fmB_zero s t r g 0 full []) ?_
        repeat rw [Ob.ok_append]
        exact ⟨⟨⟨⟨⟨⟨one_ok z0, big_ok s hb⟩, tl⟩, one_ok trivial⟩, eqOb_nil⟩, one_ok rfl⟩, eqOb_own [] 0 0 rfl rfl⟩
      · refine forms_of (fmS_zero s t r g 0 full []) ?_
        repeat rw [Ob.ok_append]
        exact ⟨⟨⟨⟨⟨⟨⟨one_ok z0, obPut_ok s t r g ⟨hs.1, hb⟩ ht⟩, obPutR_ok s t r g ⟨hs.1, hb⟩ ht hr hg⟩, tl⟩, one_ok trivial⟩, eqOb_form s t r g⟩, one_ok rfl⟩, eqOb_own [] 0 0 rfl rfl⟩
    | cons a A' =>
      generalize hA : a :: A' = A at *
      have hne : A.length ≠ 0 := by rw [← hA]; simp
      have gr : True ∧ growP A.length 0 1 1 (A.map u8) false ∧ exP [] 0 0 1 := ⟨trivial, growP_u8 A A.length 0 rfl hne (by omega), e0⟩
      have ow := eqOb_own A A.length (0 + A.length) rfl (Nat.zero_add _)
      rcases Nat.lt_or_ge A.length 120 with hl | hl
      · have tl := two_ok (lt_T (show ((0 : Int) + (A.length : Int)) < 120 by omega)) (lt_T (show (A.length : Int) < 120 by omega))
        rcases Int.lt_or_le 1048576 s with hb | hb
        · refine forms_of (fmB_short s t r g A.length full (A.map u8)) ?_
          repeat rw [Ob.ok_append]
          exact ⟨⟨⟨⟨⟨⟨one_ok gr, big_ok s hb⟩, tl⟩, one_ok trivial⟩, eqOb_nil⟩, one_ok rfl⟩, ow⟩
        · refine forms_of (fmS_short s t r g A.length full (A.map u8)) ?_
          repeat rw [Ob.ok_append]
          exact ⟨⟨⟨⟨⟨⟨⟨one_ok gr, obPut_ok s t r g ⟨hs.1, hb⟩ ht⟩, obPutR_ok s t r g ⟨hs.1, hb⟩ ht hr hg⟩, tl⟩, one_ok trivial⟩, eqOb_form s t r g⟩, one_ok rfl⟩, ow⟩
      · have tl := four_ok (lt_F (show (120 : Int) ≤ ((0 : Int) + (A.length : Int)) by omega)) (gt_T (show (120 : Int) < ((0 : Int) + (A.length : Int)) by omega)) (lt_F (show (120 : Int) ≤ (A.length : Int) by omega)) (gt_T (show (120 : Int) < (A.length : Int) by omega))
        rcases Int.lt_or_le 1048576 s with hb | hb
        · refine forms_of (fmB_long s t r g A.length full (A.map u8)) ?_
          repeat rw [Ob.ok_append]
          exact ⟨⟨⟨⟨⟨⟨one_ok gr, big_ok s hb⟩, tl⟩, one_ok trivial⟩, eqOb_nil⟩, one_ok rfl⟩, ow⟩
        · refine forms_of (fmS_long s t r g A.length full (A.map u8)) ?_
          repeat rw [Ob.ok_append]
          exact ⟨⟨⟨⟨⟨⟨⟨one_ok gr, obPut_ok s t r g ⟨hs.1, hb⟩ ht⟩, obPutR_ok s t r g ⟨hs.1, hb⟩ ht hr hg⟩, tl⟩, one_ok trivial⟩, eqOb_form s t r g⟩, one_ok rfl⟩, ow⟩
  · obtain ⟨bs, bt⟩ := nums x hx
    have hS := foldN_range (bS x)
    have hT := foldN_range (bT x)
    have exS : ∃ z, z = foldN (bS x) := ⟨_, rfl⟩
    have exT : ∃ z, z = foldN (bT x) := ⟨_, rfl⟩
    obtain ⟨s', es⟩ := exS
    obtain ⟨t', et⟩ := exT
    have n1 : Ob.ok [FF = FF, FF = FF, u64 (foldN (bS x)) = u64 s', u64 (foldN (bT x)) = u64 t'] := four_ok rfl rfl (by rw [es]) (by rw [et])
    have n2 : Ob.ok [FF = FF, FF = FF, u64 (numN (bS x)) = u64 s', u64 (numN (bT x)) = u64 t'] := four_ok rfl rfl (by rw [num_fold _ rfl bs, es]) (by rw [num_fold _ rfl bt, et])
    rw [← es] at hS
    rw [← et] at hT
    have gr : True ∧ growP 120 0 1 1 (bC x) false ∧ exP [] 0 0 1 := ⟨trivial, growP_u8 (bL x) 120 0 (bL_len x).symm (by omega) (by omega), e0⟩
    have ow := eqOb_own (bL x) 120 120 (bL_len x).symm (bL_len x).symm
    have hbr : ∀ i, i < 32 → 0 ≤ bR x i ∧ bR x i < 256 := fun i _ => hx _
    have hbg : ∀ i, i < 64 → 0 ≤ bG x i ∧ bG x i < 256 := fun i _ => hx _
    rcases Int.lt_or_le 1048576 s' with hb' | hb'
    · have tooBig : Ob.ok [bo (gtU s' 1048576) = TT] := one_ok (ob_T (by rw [gtU_eq]; simp; omega))
      rcases Int.lt_or_le 1048576 s with hb | hb
      · refine forms_of (fmB_A s t r g x full s' t') ?_
        repeat rw [Ob.ok_append]
        exact ⟨⟨⟨⟨⟨⟨⟨⟨⟨one_ok gr, big_ok s hb⟩, n1⟩, tooBig⟩, n2⟩, tooBig⟩, one_ok trivial⟩, eqOb_nil⟩, one_ok rfl⟩, ow⟩
      · refine forms_of (fmS_A s t r g x full s' t') ?_
        repeat rw [Ob.ok_append]
        exact ⟨⟨⟨⟨⟨⟨⟨⟨⟨⟨one_ok gr, obPut_ok s t r g ⟨hs.1, hb⟩ ht⟩, obPutR_ok s t r g ⟨hs.1, hb⟩ ht hr hg⟩, n1⟩, tooBig⟩, n2⟩, tooBig⟩, one_ok trivial⟩, eqOb_form s t r g⟩, one_ok rfl⟩, ow⟩
    · have p1 := obPut_ok s' t' (bR x) (bG x) ⟨hS.1, hb'⟩ hT
      have p2 := obPutR_ok s' t' (bR x) (bG x) ⟨hS.1, hb'⟩ hT hbr hbg
      have c1 := okC_ex (formInts s' t' (bR x) (bG x)) 120 (form_len s' t' (bR x) (bG x)).symm
      have c2 := okC_ex (bL x) 120 (bL_len x).symm
      have eqs : strEqI (((formInts s' t' (bR x) (bG x)).map u8).map intOf) ((bC x).map intOf) = strEqI (formInts s' t' (bR x) (bG x)) (bL x) := by unfold bC; rw [map_intOf, map_intOf]
      have same : Ob.ok [bo (decide (headL s' t' (bR x) (bG x) = headL s' t' (bR x) (bG x))) = TT] := one_ok (ob_T (by simp))
      cases hq : strEqI (formInts s' t' (bR x) (bG x)) (bL x) with
      | false =>
        have q1 : Ob.ok [okC (exP ((formInts s' t' (bR x) (bG x)).map u8) 0 120 1) ((formInts s' t' (bR x) (bG x)).map u8) 120, okC (exP (bC x) 0 120 1) (bC x) 120, bo (strEqI (((formInts s' t' (bR x) (bG x)).map u8).map intOf) ((bC x).map intOf)) = FF] := by
          simp only [Ob.ok_cons, Ob.ok_nil, and_true]
          exact ⟨c1, c2, ob_F (by rw [eqs]; exact hq)⟩
        have q2 : Ob.ok [bo (strNeI (formInts s' t' (bR x) (bG x)) (bL x)) = TT] := one_ok (ob_T (by rw [strNeI_eq, hq]; rfl))
        rcases Int.lt_or_le 1048576 s with hb | hb
        · refine forms_of (fmB_B s t r g x full s' t') ?_
          repeat rw [Ob.ok_append]
          exact ⟨⟨⟨⟨⟨⟨⟨⟨⟨⟨⟨one_ok gr, big_ok s hb⟩, n1⟩, p1⟩, q1⟩, n2⟩, p2⟩, q2⟩, one_ok trivial⟩, eqOb_nil⟩, one_ok rfl⟩, ow⟩
        · refine forms_of (fmS_B s t r g x full s' t') ?_
          repeat rw [Ob.ok_append]
          exact ⟨⟨⟨⟨⟨⟨⟨⟨⟨⟨⟨⟨one_ok gr, obPut_ok s t r g ⟨hs.1, hb⟩ ht⟩, obPutR_ok s t r g ⟨hs.1, hb⟩ ht hr hg⟩, n1⟩, p1⟩, q1⟩, n2⟩, p2⟩, q2⟩, one_ok trivial⟩, eqOb_form s t r g⟩, one_ok rfl⟩, ow⟩
      | true =>
        have q1 : Ob.ok [okC (exP ((formInts s' t' (bR x) (bG x)).map u8) 0 120 1) ((formInts s' t' (bR x) (bG x)).map u8) 120, okC (exP (bC x) 0 120 1) (bC x) 120, bo (strEqI (((formInts s' t' (bR x) (bG x)).map u8).map intOf) ((bC x).map intOf)) = TT] := by
          simp only [Ob.ok_cons, Ob.ok_nil, and_true]
          exact ⟨c1, c2, ob_T (by rw [eqs]; exact hq)⟩
        have q2 : Ob.ok [bo (strNeI (formInts s' t' (bR x) (bG x)) (bL x)) = FF] := one_ok (ob_F (by rw [strNeI_eq, hq]; rfl))
        rcases Int.lt_or_le 1048576 s with hb | hb
        · refine forms_of (fmB_C s t r g x full s' t') ?_
          repeat rw [Ob.ok_append]
          exact ⟨⟨⟨⟨⟨⟨⟨⟨⟨⟨⟨one_ok gr, big_ok s hb⟩, n1⟩, p1⟩, q1⟩, n2⟩, p2⟩, q2⟩, one_ok trivial⟩, eqOb_nil⟩, same⟩, ow⟩
        · refine forms_of (fmS_C s t r g x full s' t') ?_
          repeat rw [Ob.ok_append]
          exact ⟨⟨⟨⟨⟨⟨⟨⟨⟨⟨⟨⟨one_ok gr, obPut_ok s t r g ⟨hs.1, hb⟩ ht⟩, obPutR_ok s t r g ⟨hs.1, hb⟩ ht hr hg⟩, n1⟩, p1⟩, q1⟩, n2⟩, p2⟩, q2⟩, one_ok trivial⟩, eqOb_form s t r g⟩, same⟩, ow⟩
end Go.Proofs.Ytniaiciabfdbnaa.E
