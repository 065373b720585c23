/- CommitWhole over the abstract machine: equality of heads, and the words in which the runs say what is left to be shown. No condition beyond those that the lemmas name. -/
import Derived.Test.YtniaiciabfdbnaaNm
import Derived.Test.YtniaiciabfdbnaaEs
namespace Go.Proofs.Ytniaiciabfdbnaa.E
open Go Go.Proofs
set_option maxRecDepth 100000
def intsOf : List IntKind → List Value → Option (List Int)
  | [], [] => some []
  | k :: ks, .int k' n :: r => if k' = k then (intsOf ks r).map (n :: ·) else none
  | _, _ => none
theorem intsOf_at : ∀ {ks : List IntKind} {us : List Value} {xs : List Int}, intsOf ks us = some xs → us.length = ks.length ∧ xs.length = ks.length ∧ ∀ (i : Nat) (k : IntKind), ks[i]? = some k → us[i]? = some (.int k (xs.getD i 0))
  | [], us, xs, h => by
    unfold intsOf at h
    split at h <;> simp_all
  | k :: ks, us, xs, h => by
    unfold intsOf at h
    split at h
    · simp_all
    · rename_i k2 ks2 k' n r heq1
      cases heq1
      split at h
      · rename_i hk
        subst hk
        obtain ⟨ys, hy, rfl⟩ := Option.map_eq_some_iff.1 h
        obtain ⟨h1, h2, h3⟩ := intsOf_at hy
        refine ⟨by simp [h1], by simp [h2], fun i k hk => ?_⟩
        cases i with
        | zero => simp at hk; simp [hk]
        | succ i => simpa using h3 i k (by simpa using hk)
      · cases h
    · cases h
section
variable {P : Program} (w : World)
theorem eqItems_ints {d e : Nat} {k : IntKind} (hu : P.underlying e = some (.int k)) (xs ys : Array Value) (a b : Nat → Int) (o : Nat) : ∀ is : List Nat,
    (∀ i ∈ is, xs[i]? = some (.int k (a (o + i))) ∧ ys[i]? = some (.int k (b (o + i)))) → ∃ r : Bool, (Op.eqItems (d + 1) e 1 xs ys is).run P w = .ok r w ∧ (r = true ↔ ∀ i ∈ is, a (o + i) = b (o + i))
  | [], _ => ⟨true, by simp [Op.eqItems], by simp⟩
  | i :: is, h => by
    obtain ⟨h1, h2⟩ := h i (by simp)
    obtain ⟨r', hr', hi'⟩ := eqItems_ints (d := d) hu xs ys a b o is fun j hj => h j (by simp [hj])
    have hp : P.plainKey e = true := by simp [Program.plainKey, hu]
    simp only [Op.eqItems, Nat.mul_one, Sem.run_bind, run_part_plain w hp h1, run_part_plain w hp h2, run_equalIn_int w d e k k _ _ hu, Result.andThen_ok]
    by_cases hab : a (o + i) = b (o + i)
    · refine ⟨r', by simp [hab, hr'], ?_⟩
      simp [hab, hi']
    · exact ⟨false, by simp [hab], by simp [hab]⟩
theorem eq_array {m d t e n o : Nat} {k : IntKind} {inf : TypeInfo} (ht : P.underlying t = some (.array n e)) (hi : P.info? e = some inf) (hc : P.cellsOf e = 1) (hu : P.underlying e = some (.int k)) (xs ys : Array Value) (a b : Nat → Int) (hm : m = d + 2)
    (h : ∀ i, i < n → xs[i]? = some (.int k (a (o + i))) ∧ ys[i]? = some (.int k (b (o + i)))) :
    ∃ r : Bool, (Op.equalIn m t (.agg xs) (.agg ys)).run P w = .ok r w ∧ (r = true ↔ ∀ i, i < n → a (o + i) = b (o + i)) := by
  subst hm
  obtain ⟨r, h1, h2⟩ := eqItems_ints w (d := d) hu xs ys a b o (List.range n) fun i hi => h i (List.mem_range.1 hi)
  refine ⟨r, by rw [run_equalIn_array w (d + 1) xs ys ht hi, hc]; exact h1, ?_⟩
  rw [h2]
  simp [List.mem_range]
end
theorem eq_int {P : Program} (w : World) {m d t : Nat} {k : IntKind} (hm : m = d + 1) (h : P.underlying t = some (.int k)) (a b : Int) : (Op.equalIn m t (.int k a) (.int k b)).run P w = .ok (a == b) w := by
  subst hm; exact run_equalIn_int w d t k k a b h
theorem eq_struct {P : Program} (w : World) {m d t : Nat} (hm : m = d + 1) {fs : Array Field} (xs ys : Array Value) (ht : P.underlying t = some (.struct fs)) (hp : P.stoodInHeld t = false) :
    (Op.equalIn m t (.agg xs) (.agg ys)).run P w = (Op.eqFields d xs ys fs.toList).run P w := by
  subst hm
  have hf : P.fieldsOf t = fs := by unfold Program.fieldsOf; rw [ht]
  have := run_equalIn_struct w d t xs ys (by rw [hf]; exact ht) hp
  rwa [hf] at this
theorem eqFields_step {P : Program} (w : World) {d : Nat} {nm tg pk : String} {ty off bo : Nat} {em : Bool} {fs : List Field} {xs ys : Array Value} {a b : Value} {r : Bool} (hn : nm ≠ "_")
    (ha : (part ty xs off).run P w = .ok a w) (hb : (part ty ys off).run P w = .ok b w) (hr : (Op.equalIn d ty a b).run P w = .ok r w) :
    (Op.eqFields d xs ys (⟨nm, ty, off, em, tg, pk, bo⟩ :: fs)).run P w = if r = true then (Op.eqFields d xs ys fs).run P w else .ok false w := by
  simp only [Op.eqFields, hn, ne_eq, not_false_eq_true, if_true, Sem.run_bind, ha, hb, hr, Result.andThen_ok]
  cases r <;> simp
theorem eqFields_nil {P : Program} (w : World) {d : Nat} {xs ys : Array Value} : (Op.eqFields d xs ys []).run P w = .ok true w := rfl
def kinds27 : List IntKind := .u64 :: .u64 :: List.replicate 96 .u8
def fields27 : Array Field := #[⟨ "Size", 22, 0, false, "", "", 0⟩, ⟨ "Time", 22, 1, false, "", "", 8⟩, ⟨ "Root", 24, 2, false, "", "", 16⟩, ⟨ "Sig", 25, 34, false, "", "", 48⟩]
theorem fields27_eq : Try.prog.underlying 27 = some (.struct fields27) := by kernel_rfl
theorem u22 : Try.prog.underlying 22 = some (.int .u64) := by kernel_rfl
theorem u5 : Try.prog.underlying 5 = some (.int .u8) := by kernel_rfl
theorem u24 : Try.prog.underlying 24 = some (.array 32 5) := by kernel_rfl
theorem u25 : Try.prog.underlying 25 = some (.array 64 5) := by kernel_rfl
theorem c5 : Try.prog.cellsOf 5 = 1 := by kernel_rfl
theorem c24 : Try.prog.cellsOf 24 = 32 := by kernel_rfl
theorem c25 : Try.prog.cellsOf 25 = 64 := by kernel_rfl
theorem i5 : ∃ i, Try.prog.info? 5 = some i := info_of_underlying u5
theorem i24 : ∃ i, Try.prog.info? 24 = some i := info_of_underlying u24
theorem i25 : ∃ i, Try.prog.info? 25 = some i := info_of_underlying u25
theorem held27 : Try.prog.stoodInHeld 27 = false := by kernel_rfl
theorem guard27 : Try.prog.eqGuardType Try.prog.depth 27 = false := by kernel_rfl
theorem eq27 {us vs : List Value} {xa xb : List Int} (ha : intsOf kinds27 us = some xa) (hb : intsOf kinds27 vs = some xb) (w : World) :
    (Op.equalIn 10000 27 (.agg us.toArray) (.agg vs.toArray)).run Try.prog w = .ok (decide (xa = xb)) w := by
  obtain ⟨a1, a2, a3⟩ := intsOf_at ha
  obtain ⟨b1, b2, b3⟩ := intsOf_at hb
  have hk : ∀ i, 2 ≤ i → i < 98 → kinds27[i]? = some .u8 := fun i h1 h2 => by
    obtain ⟨j, rfl⟩ := Nat.exists_eq_add_of_le' h1
    simp only [kinds27, List.getElem?_cons_succ, List.getElem?_replicate]
    rw [if_pos (by omega)]
  have hl : kinds27.length = 98 := by simp [kinds27]
  have x0 : us.toArray[0]? = some (.int .u64 (xa.getD 0 0)) := by simpa using a3 0 .u64 rfl
  have y0 : vs.toArray[0]? = some (.int .u64 (xb.getD 0 0)) := by simpa using b3 0 .u64 rfl
  have x1 : us.toArray[1]? = some (.int .u64 (xa.getD 1 0)) := by simpa using a3 1 .u64 rfl
  have y1 : vs.toArray[1]? = some (.int .u64 (xb.getD 1 0)) := by simpa using b3 1 .u64 rfl
  have hp : Try.prog.plainKey 22 = true := by simp [Program.plainKey, u22]
  obtain ⟨inf, hinf⟩ := i5
  obtain ⟨i24, h24⟩ := i24
  obtain ⟨i25, h25⟩ := i25
  have xx : ∀ i, 2 ≤ i → i < 98 → us[i]? = some (.int .u8 (xa.getD i 0)) := fun i h1 h2 => a3 i .u8 (hk i h1 h2)
  have yy : ∀ i, 2 ≤ i → i < 98 → vs[i]? = some (.int .u8 (xb.getD i 0)) := fun i h1 h2 => b3 i .u8 (hk i h1 h2)
  obtain ⟨r2, p2, q2⟩ := eq_array (P := Try.prog) w (m := 9999) (d := 9997) (o := 2) u24 hinf c5 u5 (us.toArray.extract 2 (2 + 32)) (vs.toArray.extract 2 (2 + 32)) (fun i => xa.getD i 0) (fun i => xb.getD i 0) (by decide)
    (fun i hi => ⟨by rw [Array.getElem?_extract, if_pos (by simp; omega)]; simpa using xx (2 + i) (by omega) (by omega), by rw [Array.getElem?_extract, if_pos (by simp; omega)]; simpa using yy (2 + i) (by omega) (by omega)⟩)
  obtain ⟨r3, p3, q3⟩ := eq_array (P := Try.prog) w (m := 9999) (d := 9997) (o := 34) u25 hinf c5 u5 (us.toArray.extract 34 (34 + 64)) (vs.toArray.extract 34 (34 + 64)) (fun i => xa.getD i 0) (fun i => xb.getD i 0) (by decide)
    (fun i hi => ⟨by rw [Array.getElem?_extract, if_pos (by simp; omega)]; simpa using xx (34 + i) (by omega) (by omega), by rw [Array.getElem?_extract, if_pos (by simp; omega)]; simpa using yy (34 + i) (by omega) (by omega)⟩)
  have pa : ∀ (xs : Array Value) (t off n : Nat) (i : TypeInfo) (e : Nat) (m : Nat), Try.prog.underlying t = some (.array m e) → Try.prog.info? t = some i → Try.prog.cellsOf t = n → (part t xs off).run Try.prog w = .ok (.agg (xs.extract off (off + n))) w := fun xs t off n i e m hu hi hc => by
    rw [← hc]
    simp [part, isAgg, run_underlying hu, run_sizeOf w hi]
  have key : (xa = xb) ↔ (xa.getD 0 0 = xb.getD 0 0 ∧ xa.getD 1 0 = xb.getD 1 0 ∧ r2 = true ∧ r3 = true) := by
    rw [q2, q3]
    constructor
    · rintro rfl; exact ⟨rfl, rfl, fun _ _ => rfl, fun _ _ => rfl⟩
    · rintro ⟨h0, h1, h2, h3⟩
      apply List.ext_getElem (by omega)
      intro i hi hi'
      have : xa.getD i 0 = xb.getD i 0 := by
        rcases Nat.lt_or_ge i 2 with h | h
        · rcases Nat.lt_or_ge i 1 with h' | h'
          · obtain rfl : i = 0 := by omega
            exact h0
          · obtain rfl : i = 1 := by omega
            exact h1
        · rcases Nat.lt_or_ge i 34 with h' | h'
          · have := h2 (i - 2) (by omega)
            rwa [show 2 + (i - 2) = i by omega] at this
          · have := h3 (i - 34) (by omega)
            rwa [show 34 + (i - 34) = i by omega] at this
      simpa [List.getD_eq_getElem?_getD, List.getElem?_eq_getElem hi, List.getElem?_eq_getElem hi'] using this
  have e2 := p2
  have e3 := p3
  rw [show (decide (xa = xb)) = ((xa.getD 0 0 == xb.getD 0 0) && (xa.getD 1 0 == xb.getD 1 0) && r2 && r3) by
    rw [Bool.eq_iff_iff, decide_eq_true_iff, key]; simp [and_assoc]]
  have n1 : ("Size" : String) ≠ "_" := by decide
  have n2 : ("Time" : String) ≠ "_" := by decide
  have n3 : ("Root" : String) ≠ "_" := by decide
  have n4 : ("Sig" : String) ≠ "_" := by decide
  rw [eq_struct w (m := 10000) (d := 9999) (by decide) _ _ fields27_eq held27]
  show (Op.eqFields 9999 us.toArray vs.toArray [_, _, _, _]).run Try.prog w = _
  have z0 := run_part_plain (P := Try.prog) w hp x0
  have z0' := run_part_plain (P := Try.prog) w hp y0
  have z1 := run_part_plain (P := Try.prog) w hp x1
  have z1' := run_part_plain (P := Try.prog) w hp y1
  have z2 := pa us.toArray 24 2 32 i24 5 32 u24 h24 c24
  have z2' := pa vs.toArray 24 2 32 i24 5 32 u24 h24 c24
  have z3 := pa us.toArray 25 34 64 i25 5 64 u25 h25 c25
  have z3' := pa vs.toArray 25 34 64 i25 5 64 u25 h25 c25
  have k0 := eq_int (P := Try.prog) w (m := 9999) (d := 9998) (by decide) u22 (xa.getD 0 0) (xb.getD 0 0)
  have k1 := eq_int (P := Try.prog) w (m := 9999) (d := 9998) (by decide) u22 (xa.getD 1 0) (xb.getD 1 0)
  generalize us.toArray.extract 2 (2 + 32) = ua at *
  generalize vs.toArray.extract 2 (2 + 32) = va at *
  generalize us.toArray.extract 34 (34 + 64) = ub at *
  generalize vs.toArray.extract 34 (34 + 64) = vb at *
  generalize (9999 : Nat) = dd at *
  rw [eqFields_step w n1 z0 z0' k0, eqFields_step w n2 z1 z1' k1, eqFields_step w n3 z2 z2' e2, eqFields_step w n4 z3 z3' e3, eqFields_nil]
  cases (xa.getD 0 0 == xb.getD 0 0) <;> cases (xa.getD 1 0 == xb.getD 1 0) <;> cases r2 <;> cases r3 <;> rfl
def eqvB (us vs : List Value) : Option Bool := match intsOf kinds27 us, intsOf kinds27 vs with
  | some xa, some xb => some (decide (xa = xb))
  | _, _ => none
noncomputable def eqvA (t : Nat) (us vs : List Value) : Option Bool := if t = 27 then eqvB us vs else Env.eqv E0 t us vs
noncomputable def E1 : Env := { E0 with eqv := eqvA }
theorem E1_ok : EOK' Try.prog E1 := {
  ty := (envOf_ok (P := Try.prog) rfl).ty
  fn := (envOf_ok (P := Try.prog) rfl).fn
  mixed := (envOf_ok (P := Try.prog) rfl).mixed
  body := (envOf_ok (P := Try.prog) rfl).body
  eqv t us vs r h := by
    simp only [E1, eqvA, eqvB] at h
    split at h
    · rename_i ht
      subst ht
      split at h
      · rename_i xa xb ha hb
        simp only [Option.some.injEq] at h
        subst h
        exact ⟨fun w => eq27 ha hb w, guard27⟩
      · cases h
    · exact (envOf_ok (P := Try.prog) rfl).eqv t us vs r h }
def u8 (n : Int) : AV := .val (.int .u8 n)
def u64 (n : Int) : AV := .val (.int .u64 n)
def i64 (n : Int) : AV := .val (.int .i64 n)
def FF : AV := .val (.bool false)
def TT : AV := .val (.bool true)
def bo (b : Bool) : AV := .val (.bool b)
def rootL (r : Nat → Int) : List Int := (List.range 32).map r
def sigL (g : Nat → Int) : List Int := (List.range 64).map g
def headCells (s t : Int) (r g : Nat → Int) : List AV := u64 s :: u64 t :: ((rootL r).map u8 ++ (sigL g).map u8)
def shrI (n : Int) (c : Int) : Int := valI (Op.shift .shr .u64 n .u64 c)
def shlI (n : Int) (c : Int) : Int := valI (Op.shift .shl .u64 n .u64 c)
def orI (a b : Int) : Int := valI (Op.intBits .or .u64 a b)
def byteAt (n c : Int) : Int := IntKind.u8.wrap (shrI n c)
def be8 (n : Int) : List Int := [byteAt n 56, byteAt n 48, byteAt n 40, byteAt n 32, byteAt n 24, byteAt n 16, byteAt n 8, byteAt n 0]
def be4 (n : Int) : List Int := [byteAt n 24, byteAt n 16, byteAt n 8, byteAt n 0]
def foldN (l : List Int) : Int := l.foldl (fun n b => orI (shlI n 8) (IntKind.u64.wrap b)) 0
def headInts (s t : Int) (r g : Nat → Int) : List Int := 101 :: 115 :: 99 :: 114 :: (be8 s ++ be8 t ++ rootL r ++ sigL g)
def crcI (l : List Int) : Int := IntKind.u64.wrap (crcMoreS 0 l)
def formInts (s t : Int) (r g : Nat → Int) : List Int := headInts s t r g ++ be4 (crcI (headInts s t r g))
def boolI (s : Sem Value) : Bool := match s with | .pure (.bool b) => b | _ => false
def gtI (a b : Int) : Bool := boolI (binOp .gtr 22 (.int .u64 a) (.int .u64 b))
def gtN (a b : Int) : Bool := boolI (binOp .gtr 3 (.int .i64 a) (.int .i64 b))
def ltN (a b : Int) : Bool := boolI (binOp .lss 3 (.int .i64 a) (.int .i64 b))
def geH (a b : Int) : Bool := boolI (binOp .geq 50 (.int .u16 a) (.int .u16 b))
def remB (a b : Int) : Int := valI (binOp .rem 5 (.int .u8 a) (.int .u8 b))
def remH (a b : Int) : Int := valI (binOp .rem 50 (.int .u16 a) (.int .u16 b))
def remN (a b : Int) : Int := valI (binOp .rem 3 (.int .i64 a) (.int .i64 b))
def addN (a b : Int) : Int := valI (binOp .add 3 (.int .i64 a) (.int .i64 b))
def subN (a b : Int) : Int := valI (binOp .sub 3 (.int .i64 a) (.int .i64 b))
def maxN (x : Int) : Int := if 0 > x then 0 else x
def strEqI (a b : List Int) : Bool := boolI (binOp .eql 9 (.string (strOfNums a)) (.string (strOfNums b)))
def headL (s t : Int) (r g : Nat → Int) : List Int := s :: t :: (rootL r ++ sigL g)
/-- how much room is left behind what is used -/
def roomN (used room : Int) : Int := subN (maxN (addN used (IntKind.i64.wrap (remH room 200)))) used
def sitesW : Nat → List Nat
  | 9 => [18, 23, 51, 75, 95, 104]
  | 11 => [8]
  | 16 => [9]
  | 19 => [1030]
  | 30 => [36, 2039, 44, 52, 56, 2057]
  | 50 => [18]
  | 55 => [41]
  | _ => []
def ovW : Ov := fun f args st => if f = 15 then (match args with | [] => some (TT, st) | _ => none) else ovF f args st
noncomputable def wholeEv (args : List AV) (x : List AV) := (evCallS E1 ovW sitesW 100000 9 args st00 x).map fun q => (q.1, q.2.2.2)
def orPut : List AV := [FF, FF, FF, FF]
def obPut (s t : Int) (r g : Nat → Int) : Ob := [bo (gtI s 1048576) = FF, bo (gtI s 18446744073709551615) = FF, bo (gtI t 18446744073709551615) = FF, bo (gtI (crcI (headInts s t r g)) 4294967295) = FF]
/-- what a Take of a Put leaves to be shown -/
def orTake (s t : Int) : List AV := [u64 s, u64 t] ++ orPut ++ [TT]
def obTake (s t : Int) (r g : Nat → Int) : Ob := [u64 (foldN (be8 s)) = u64 s, u64 (foldN (be8 t)) = u64 t] ++ obPut s t r g ++ [bo (strEqI (formInts s t r g) (formInts s t r g)) = TT]
def turn (none : Bool) (s t : Int) (r g : Nat → Int) (s2 t2 : Int) (r2 g2 : Nat → Int) (fu : Int) (pk : AV) (room : Int) : AV :=
  .agg (bo none :: (headCells s t r g ++ (headCells s2 t2 r2 g2 ++ [u8 fu, pk, .val (.int .u16 room)])))
end Go.Proofs.Ytniaiciabfdbnaa.E
