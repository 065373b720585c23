/- CommitBack over the abstract machine: the runs, with what they leave to be shown, and the plain laws that show it. No condition beyond those that the lemmas name. -/
import Derived.Test.YtniaiciabfdbnaaOv
import Derived.Test.YtniaiciabfdbnaaEs
namespace Go.Proofs.Ytniaiciabfdbnaa.E
open Go Go.Proofs
set_option maxRecDepth 100000
def intsOf : List IntKind → List Value → Option (List Int)
  | [], [] => some []
  | k :: ks, .int k' n :: r => if k' = k then (intsOf ks r).map (n :: ·) else none
  | _, _ => none
theorem intsOf_at : ∀ {ks : List IntKind} {us : List Value} {xs : List Int}, intsOf ks us = some xs → us.length = ks.length ∧ xs.length = ks.length ∧ ∀ (i : Nat) (k : IntKind), ks[i]? = some k → us[i]? = some (.int k (xs.getD i 0))
  | [], us, xs, h => by
    unfold intsOf at h
    split at h <;> simp_all
  | k :: ks, us, xs, h => by
    unfold intsOf at h
    split at h
    · simp_all
    · rename_i k2 ks2 k' n r heq1
      cases heq1
      split at h
      · rename_i hk
        subst hk
        obtain ⟨ys, hy, rfl⟩ := Option.map_eq_some_iff.1 h
        obtain ⟨h1, h2, h3⟩ := intsOf_at hy
        refine ⟨by simp [h1], by simp [h2], fun i k hk => ?_⟩
        cases i with
        | zero => simp at hk; simp [hk]
        | succ i => simpa using h3 i k (by simpa using hk)
      · cases h
    · cases h
section
variable {P : Program} (w : World)
theorem eqItems_ints {d e : Nat} {k : IntKind} (hu : P.underlying e = some (.int k)) (xs ys : Array Value) (a b : Nat → Int) (o : Nat) : ∀ is : List Nat,
    (∀ i ∈ is, xs[i]? = some (.int k (a (o + i))) ∧ ys[i]? = some (.int k (b (o + i)))) → ∃ r : Bool, (Op.eqItems (d + 1) e 1 xs ys is).run P w = .ok r w ∧ (r = true ↔ ∀ i ∈ is, a (o + i) = b (o + i))
  | [], _ => ⟨true, by simp [Op.eqItems], by simp⟩
  | i :: is, h => by
    obtain ⟨h1, h2⟩ := h i (by simp)
    obtain ⟨r', hr', hi'⟩ := eqItems_ints (d := d) hu xs ys a b o is fun j hj => h j (by simp [hj])
    have hp : P.plainKey e = true := by simp [Program.plainKey, hu]
    simp only [Op.eqItems, Nat.mul_one, Sem.run_bind, run_part_plain w hp h1, run_part_plain w hp h2, run_equalIn_int w d e k k _ _ hu, Result.andThen_ok]
    by_cases hab : a (o + i) = b (o + i)
    · refine ⟨r', by simp [hab, hr'], ?_⟩
      simp [hab, hi']
    · exact ⟨false, by simp [hab], by simp [hab]⟩
theorem eq_array {m d t e n o : Nat} {k : IntKind} {inf : TypeInfo} (ht : P.underlying t = some (.array n e)) (hi : P.info? e = some inf) (hc : P.cellsOf e = 1) (hu : P.underlying e = some (.int k)) (xs ys : Array Value) (a b : Nat → Int) (hm : m = d + 2)
    (h : ∀ i, i < n → xs[i]? = some (.int k (a (o + i))) ∧ ys[i]? = some (.int k (b (o + i)))) :
    ∃ r : Bool, (Op.equalIn m t (.agg xs) (.agg ys)).run P w = .ok r w ∧ (r = true ↔ ∀ i, i < n → a (o + i) = b (o + i)) := by
  subst hm
  obtain ⟨r, h1, h2⟩ := eqItems_ints w (d := d) hu xs ys a b o (List.range n) fun i hi => h i (List.mem_range.1 hi)
  refine ⟨r, by rw [run_equalIn_array w (d + 1) xs ys ht hi, hc]; exact h1, ?_⟩
  rw [h2]
  simp [List.mem_range]
end
theorem eq_int {P : Program} (w : World) {m d t : Nat} {k : IntKind} (hm : m = d + 1) (h : P.underlying t = some (.int k)) (a b : Int) : (Op.equalIn m t (.int k a) (.int k b)).run P w = .ok (a == b) w := by
  subst hm; exact run_equalIn_int w d t k k a b h
theorem eq_struct {P : Program} (w : World) {m d t : Nat} (hm : m = d + 1) {fs : Array Field} (xs ys : Array Value) (ht : P.underlying t = some (.struct fs)) (hp : P.stoodInHeld t = false) :
    (Op.equalIn m t (.agg xs) (.agg ys)).run P w = (Op.eqFields d xs ys fs.toList).run P w := by
  subst hm
  have hf : P.fieldsOf t = fs := by unfold Program.fieldsOf; rw [ht]
  have := run_equalIn_struct w d t xs ys (by rw [hf]; exact ht) hp
  rwa [hf] at this
theorem eqFields_step {P : Program} (w : World) {d : Nat} {nm tg pk : String} {ty off bo : Nat} {em : Bool} {fs : List Field} {xs ys : Array Value} {a b : Value} {r : Bool} (hn : nm ≠ "_")
    (ha : (part ty xs off).run P w = .ok a w) (hb : (part ty ys off).run P w = .ok b w) (hr : (Op.equalIn d ty a b).run P w = .ok r w) :
    (Op.eqFields d xs ys (⟨nm, ty, off, em, tg, pk, bo⟩ :: fs)).run P w = if r = true then (Op.eqFields d xs ys fs).run P w else .ok false w := by
  simp only [Op.eqFields, hn, ne_eq, not_false_eq_true, if_true, Sem.run_bind, ha, hb, hr, Result.andThen_ok]
  cases r <;> simp
theorem eqFields_nil {P : Program} (w : World) {d : Nat} {xs ys : Array Value} : (Op.eqFields d xs ys []).run P w = .ok true w := rfl
def kinds27 : List IntKind := .u64 :: .u64 :: List.replicate 96 .u8
def fields27 : Array Field := #[⟨ "Size", 22, 0, false, "", "", 0⟩, ⟨ "Time", 22, 1, false, "", "", 8⟩, ⟨ "Root", 24, 2, false, "", "", 16⟩, ⟨ "Sig", 25, 34, false, "", "", 48⟩]
theorem fields27_eq : Try.prog.underlying 27 = some (.struct fields27) := by kernel_rfl
theorem u22 : Try.prog.underlying 22 = some (.int .u64) := by kernel_rfl
theorem u5 : Try.prog.underlying 5 = some (.int .u8) := by kernel_rfl
theorem u24 : Try.prog.underlying 24 = some (.array 32 5) := by kernel_rfl
theorem u25 : Try.prog.underlying 25 = some (.array 64 5) := by kernel_rfl
theorem c5 : Try.prog.cellsOf 5 = 1 := by kernel_rfl
theorem c24 : Try.prog.cellsOf 24 = 32 := by kernel_rfl
theorem c25 : Try.prog.cellsOf 25 = 64 := by kernel_rfl
theorem i5 : ∃ i, Try.prog.info? 5 = some i := info_of_underlying u5
theorem i24 : ∃ i, Try.prog.info? 24 = some i := info_of_underlying u24
theorem i25 : ∃ i, Try.prog.info? 25 = some i := info_of_underlying u25
theorem held27 : Try.prog.stoodInHeld 27 = false := by kernel_rfl
theorem guard27 : Try.prog.eqGuardType Try.prog.depth 27 = false := by kernel_rfl
theorem eq27 {us vs : List Value} {xa xb : List Int} (ha : intsOf kinds27 us = some xa) (hb : intsOf kinds27 vs = some xb) (w : World) :
    (Op.equalIn 10000 27 (.agg us.toArray) (.agg vs.toArray)).run Try.prog w = .ok (decide (xa = xb)) w := by
  obtain ⟨a1, a2, a3⟩ := intsOf_at ha
  obtain ⟨b1, b2, b3⟩ := intsOf_at hb
  have hk : ∀ i, 2 ≤ i → i < 98 → kinds27[i]? = some .u8 := fun i h1 h2 => by
    obtain ⟨j, rfl⟩ := Nat.exists_eq_add_of_le' h1
    simp only [kinds27, List.getElem?_cons_succ, List.getElem?_replicate]
    rw [if_pos (by omega)]
  have hl : kinds27.length = 98 := by simp [kinds27]
  have x0 : us.toArray[0]? = some (.int .u64 (xa.getD 0 0)) := by simpa using a3 0 .u64 rfl
  have y0 : vs.toArray[0]? = some (.int .u64 (xb.getD 0 0)) := by simpa using b3 0 .u64 rfl
  have x1 : us.toArray[1]? = some (.int .u64 (xa.getD 1 0)) := by simpa using a3 1 .u64 rfl
  have y1 : vs.toArray[1]? = some (.int .u64 (xb.getD 1 0)) := by simpa using b3 1 .u64 rfl
  have hp : Try.prog.plainKey 22 = true := by simp [Program.plainKey, u22]
  obtain ⟨inf, hinf⟩ := i5
  obtain ⟨i24, h24⟩ := i24
  obtain ⟨i25, h25⟩ := i25
  have xx : ∀ i, 2 ≤ i → i < 98 → us[i]? = some (.int .u8 (xa.getD i 0)) := fun i h1 h2 => a3 i .u8 (hk i h1 h2)
  have yy : ∀ i, 2 ≤ i → i < 98 → vs[i]? = some (.int .u8 (xb.getD i 0)) := fun i h1 h2 => b3 i .u8 (hk i h1 h2)
  obtain ⟨r2, p2, q2⟩ := eq_array (P := Try.prog) w (m := 9999) (d := 9997) (o := 2) u24 hinf c5 u5 (us.toArray.extract 2 (2 + 32)) (vs.toArray.extract 2 (2 + 32)) (fun i => xa.getD i 0) (fun i => xb.getD i 0) (by decide)
    (fun i hi => ⟨by rw [Array.getElem?_extract, if_pos (by simp; omega)]; simpa using xx (2 + i) (by omega) (by omega), by rw [Array.getElem?_extract, if_pos (by simp; omega)]; simpa using yy (2 + i) (by omega) (by omega)⟩)
  obtain ⟨r3, p3, q3⟩ := eq_array (P := Try.prog) w (m := 9999) (d := 9997) (o := 34) u25 hinf c5 u5 (us.toArray.extract 34 (34 + 64)) (vs.toArray.extract 34 (34 + 64)) (fun i => xa.getD i 0) (fun i => xb.getD i 0) (by decide)
    (fun i hi => ⟨by rw [Array.getElem?_extract, if_pos (by simp; omega)]; simpa using xx (34 + i) (by omega) (by omega), by rw [Array.getElem?_extract, if_pos (by simp; omega)]; simpa using yy (34 + i) (by omega) (by omega)⟩)
  have pa : ∀ (xs : Array Value) (t off n : Nat) (i : TypeInfo) (e : Nat) (m : Nat), Try.prog.underlying t = some (.array m e) → Try.prog.info? t = some i → Try.prog.cellsOf t = n → (part t xs off).run Try.prog w = .ok (.agg (xs.extract off (off + n))) w := fun xs t off n i e m hu hi hc => by
    rw [← hc]
    simp [part, isAgg, run_underlying hu, run_sizeOf w hi]
  have key : (xa = xb) ↔ (xa.getD 0 0 = xb.getD 0 0 ∧ xa.getD 1 0 = xb.getD 1 0 ∧ r2 = true ∧ r3 = true) := by
    rw [q2, q3]
    constructor
    · rintro rfl; exact ⟨rfl, rfl, fun _ _ => rfl, fun _ _ => rfl⟩
    · rintro ⟨h0, h1, h2, h3⟩
      apply List.ext_getElem (by omega)
      intro i hi hi'
      have : xa.getD i 0 = xb.getD i 0 := by
        rcases Nat.lt_or_ge i 2 with h | h
        · rcases Nat.lt_or_ge i 1 with h' | h'
          · obtain rfl : i = 0 := by omega
            exact h0
          · obtain rfl : i = 1 := by omega
            exact h1
        · rcases Nat.lt_or_ge i 34 with h' | h'
          · have := h2 (i - 2) (by omega)
            rwa [show 2 + (i - 2) = i by omega] at this
          · have := h3 (i - 34) (by omega)
            rwa [show 34 + (i - 34) = i by omega] at this
      simpa [List.getD_eq_getElem?_getD, List.getElem?_eq_getElem hi, List.getElem?_eq_getElem hi'] using this
  have e2 := p2
  have e3 := p3
  rw [show (decide (xa = xb)) = ((xa.getD 0 0 == xb.getD 0 0) && (xa.getD 1 0 == xb.getD 1 0) && r2 && r3) by
    rw [Bool.eq_iff_iff, decide_eq_true_iff, key]; simp [and_assoc]]
  have n1 : ("Size" : String) ≠ "_" := by decide
  have n2 : ("Time" : String) ≠ "_" := by decide
  have n3 : ("Root" : String) ≠ "_" := by decide
  have n4 : ("Sig" : String) ≠ "_" := by decide
  rw [eq_struct w (m := 10000) (d := 9999) (by decide) _ _ fields27_eq held27]
  show (Op.eqFields 9999 us.toArray vs.toArray [_, _, _, _]).run Try.prog w = _
  have z0 := run_part_plain (P := Try.prog) w hp x0
  have z0' := run_part_plain (P := Try.prog) w hp y0
  have z1 := run_part_plain (P := Try.prog) w hp x1
  have z1' := run_part_plain (P := Try.prog) w hp y1
  have z2 := pa us.toArray 24 2 32 i24 5 32 u24 h24 c24
  have z2' := pa vs.toArray 24 2 32 i24 5 32 u24 h24 c24
  have z3 := pa us.toArray 25 34 64 i25 5 64 u25 h25 c25
  have z3' := pa vs.toArray 25 34 64 i25 5 64 u25 h25 c25
  have k0 := eq_int (P := Try.prog) w (m := 9999) (d := 9998) (by decide) u22 (xa.getD 0 0) (xb.getD 0 0)
  have k1 := eq_int (P := Try.prog) w (m := 9999) (d := 9998) (by decide) u22 (xa.getD 1 0) (xb.getD 1 0)
  generalize us.toArray.extract 2 (2 + 32) = ua at *
  generalize vs.toArray.extract 2 (2 + 32) = va at *
  generalize us.toArray.extract 34 (34 + 64) = ub at *
  generalize vs.toArray.extract 34 (34 + 64) = vb at *
  generalize (9999 : Nat) = dd at *
  rw [eqFields_step w n1 z0 z0' k0, eqFields_step w n2 z1 z1' k1, eqFields_step w n3 z2 z2' e2, eqFields_step w n4 z3 z3' e3, eqFields_nil]
  cases (xa.getD 0 0 == xb.getD 0 0) <;> cases (xa.getD 1 0 == xb.getD 1 0) <;> cases r2 <;> cases r3 <;> rfl
def eqvB (us vs : List Value) : Option Bool := match intsOf kinds27 us, intsOf kinds27 vs with
  | some xa, some xb => some (decide (xa = xb))
  | _, _ => none
noncomputable def eqvA (t : Nat) (us vs : List Value) : Option Bool := if t = 27 then eqvB us vs else Env.eqv E0 t us vs
noncomputable def E1 : Env := { E0 with eqv := eqvA }
theorem E1_ok : EOK' Try.prog E1 := {
  ty := (envOf_ok (P := Try.prog) rfl).ty
  fn := (envOf_ok (P := Try.prog) rfl).fn
  mixed := (envOf_ok (P := Try.prog) rfl).mixed
  body := (envOf_ok (P := Try.prog) rfl).body
  eqv t us vs r h := by
    simp only [E1, eqvA, eqvB] at h
    split at h
    · rename_i ht
      subst ht
      split at h
      · rename_i xa xb ha hb
        simp only [Option.some.injEq] at h
        subst h
        exact ⟨fun w => eq27 ha hb w, guard27⟩
      · cases h
    · exact (envOf_ok (P := Try.prog) rfl).eqv t us vs r h }
open Go
/-- A new row that a call of another making has left. -/
theorem step_below_row {g : G} {st : St} {w w' : World} (h : OK g st w) (hb : RowKit.Below w.heap.size w w') {B : Nat} (hB : w.heap.size ≤ B) {cur : Array Value} {ty : TypeId} (hc : w'.heap[B]? = some (.cells cur ty (0, 0))) {vs : List AV} {us : List Value}
    (hv : VRs g vs us) (h1 : ∀ u ∈ us, u.oneCell' = true) (hp : us <+: cur.toList) : Step g st w (g.add B 0 cur.size) (st.push (.row vs ty)) w' := by
  have hle := g.le_add B 0 cur.size
  refine ⟨hle, ⟨fun b hb' => ?_, fun id o' hg => ?_, fun id o1 id' o2 h1 h2 he => ?_, fun id o' hg => ?_, by simp [h.n], fun p hp => (h.glob p hp).mono hle⟩, hb.os, hb.tape, hb.output, hb.size, fun b hb' _ => hb.block b hb', fun id o' hg hlt => ?_, fun _ _ _ => rfl, rfl, rfl⟩
  · obtain ⟨cs, T, fr, k1, k2⟩ := h.imm b hb'
    exact ⟨cs, T, fr, by rw [hb.block b (h.immlt hb')]; exact k1, k2⟩
  · rw [St.get_push] at hg
    split at hg
    · rename_i e
      cases hg
      subst e
      refine ⟨Nat.lt_succ_self _, ?_⟩
      rw [← h.n]
      exact ⟨cur, (0, 0), us, by rw [G.add_blk]; exact hc, by simp, hv.mono hle, h1, by simpa using hp, .inl rfl⟩
    · obtain ⟨h1, h2⟩ := h.obj id o' hg
      exact ⟨Nat.lt_succ_of_lt h1, h2.keep hle (h.lt hg).1 (hb.block _ (h.lt hg).2)⟩
  · rw [St.get_push] at h1 h2
    rw [← h.n] at h1 h2
    split at h1 <;> split at h2
    · rename_i a b; exact a.trans b.symm
    · rename_i a b
      subst a
      rw [G.add_blk, hle.blk id' (h.lt h2).1] at he
      have := (h.lt h2).2
      omega
    · rename_i a b
      subst b
      rw [G.add_blk, hle.blk id (h.lt h1).1] at he
      have := (h.lt h1).2
      omega
    · rw [hle.blk id (h.lt h1).1, hle.blk id' (h.lt h2).1] at he
      exact h.inj id o1 id' o2 h1 h2 he
  · rw [St.get_push, ← h.n] at hg
    split at hg
    · rename_i e
      subst e
      rw [G.add_blk, G.add_M]
      by_cases hM : g.M B = []
      · exact hM
      · exact absurd (h.immlt hM) (by omega)
    · rw [hle.blk id (h.lt hg).1]
      exact h.sep id o' hg
  · rw [St.get_push, ← h.n] at hg
    split at hg
    · rename_i e
      subst e
      rw [G.add_blk] at hlt
      omega
    · exact ⟨id, o', hg, (hle.blk id (h.lt hg).1).symm, fun _ => ⟨rfl, rfl⟩⟩
theorem step_below {g : G} {st : St} {w w' : World} (h : OK g st w) (hb : RowKit.Below w.heap.size w w') : Step g st w g st w' :=
  ⟨.refl g, ⟨fun b hb' => by
      obtain ⟨cs, T, fr, k1, k2⟩ := h.imm b hb'
      exact ⟨cs, T, fr, by rw [hb.block b (h.immlt hb')]; exact k1, k2⟩, fun id o hg => ⟨(h.obj id o hg).1, (h.obj id o hg).2.keep (.refl g) (h.lt hg).1 (hb.block _ (h.lt hg).2)⟩, h.inj, h.sep, h.n, h.glob⟩,
    hb.os, hb.tape, hb.output, hb.size, fun b hb' _ => hb.block b hb', fun id o hg _ => ⟨id, o, hg, rfl, fun _ => ⟨rfl, rfl⟩⟩, fun _ _ _ => rfl, rfl, rfl⟩
def u8 (n : Int) : AV := .val (.int .u8 n)
def u64 (n : Int) : AV := .val (.int .u64 n)
def FF : AV := .val (.bool false)
def TT : AV := .val (.bool true)
def bo (b : Bool) : AV := .val (.bool b)
def rootL (r : Nat → Int) : List Int := (List.range 32).map r
def sigL (g : Nat → Int) : List Int := (List.range 64).map g
def headCells (s t : Int) (r g : Nat → Int) : List AV := u64 s :: u64 t :: ((rootL r).map u8 ++ (sigL g).map u8)
def shrI (n : Int) (c : Int) : Int := valI (Op.shift .shr .u64 n .u64 c)
def shlI (n : Int) (c : Int) : Int := valI (Op.shift .shl .u64 n .u64 c)
def orI (a b : Int) : Int := valI (Op.intBits .or .u64 a b)
def byteAt (n c : Int) : Int := IntKind.u8.wrap (shrI n c)
def be8 (n : Int) : List Int := [byteAt n 56, byteAt n 48, byteAt n 40, byteAt n 32, byteAt n 24, byteAt n 16, byteAt n 8, byteAt n 0]
def be4 (n : Int) : List Int := [byteAt n 24, byteAt n 16, byteAt n 8, byteAt n 0]
def foldN (l : List Int) : Int := l.foldl (fun n b => orI (shlI n 8) (IntKind.u64.wrap b)) 0
def headInts (s t : Int) (r g : Nat → Int) : List Int := 101 :: 115 :: 99 :: 114 :: (be8 s ++ be8 t ++ rootL r ++ sigL g)
def crcI (l : List Int) : Int := IntKind.u64.wrap (crcMoreS 0 l)
def formInts (s t : Int) (r g : Nat → Int) : List Int := headInts s t r g ++ be4 (crcI (headInts s t r g))
def boolI (s : Sem Value) : Bool := match s with | .pure (.bool b) => b | _ => false
def gtI (a b : Int) : Bool := boolI (binOp .gtr 22 (.int .u64 a) (.int .u64 b))
def leI (a b : Int) : Bool := boolI (binOp .leq 22 (.int .u64 a) (.int .u64 b))
def gtN (a b : Int) : Bool := boolI (binOp .gtr 3 (.int .i64 a) (.int .i64 b))
def ltN (a b : Int) : Bool := boolI (binOp .lss 3 (.int .i64 a) (.int .i64 b))
def strEqI (a b : List Int) : Bool := boolI (binOp .eql 9 (.string (strOfNums a)) (.string (strOfNums b)))
def headL (s t : Int) (r g : Nat → Int) : List Int := s :: t :: (rootL r ++ sigL g)
def sitesB : Nat → List Nat | 4 => [21, 34, 59, 67] | 11 => [8] | 13 => [15, 20] | 16 => [9] | 50 => [18] | 55 => [41] | _ => []
def ovB : Ov := fun f args st => if f = 15 then (match args with | [] => some (TT, st) | _ => none) else ovK f args st
noncomputable def backEv (args : List AV) (x : List AV) := (evCallS E1 ovB sitesB 100000 4 args st00 x).map fun q => (q.1, q.2.2.2)
/-- what a Put leaves to be shown -/
def obPut (s t : Int) (r g : Nat → Int) : Ob := [(bo (gtI s 1048576), FF), (bo (gtI s 18446744073709551615), FF), (bo (gtI t 18446744073709551615), FF), (bo (gtI (crcI (headInts s t r g)) 4294967295), FF)]
def orPut : List AV := [FF, FF, FF, FF]
def ob1 (s t : Int) (r g : Nat → Int) : Ob := obPut s t r g ++ [(bo (!(true == leI s 1048576)), FF), (FF, FF), (FF, FF), (u64 (foldN (be8 s)), u64 s), (u64 (foldN (be8 t)), u64 t)] ++
  obPut s t r g ++ [(bo (strEqI (formInts s t r g) (formInts s t r g)), TT), (bo (!decide (headL s t r g = headL s t r g)), FF)]
def or1 (s t : Int) : List AV := orPut ++ [FF, FF, FF, u64 s, u64 t] ++ orPut ++ [TT, FF]
def ob2 (s : Int) : Ob := [(bo (gtI s 1048576), TT), (bo (!(false == leI s 1048576)), FF)]
def or2 : List AV := [TT, FF]
def bL (x : Nat → Int) : List Int := (List.range 120).map x
def bS (x : Nat → Int) : List Int := [x 4, x 5, x 6, x 7, x 8, x 9, x 10, x 11]
def bT (x : Nat → Int) : List Int := [x 12, x 13, x 14, x 15, x 16, x 17, x 18, x 19]
def bR (x : Nat → Int) (i : Nat) : Int := x (20 + i)
def bG (x : Nat → Int) (i : Nat) : Int := x (52 + i)
def obNum (x : Nat → Int) (s' t' : Int) : Ob := [(FF, FF), (FF, FF), (u64 (foldN (bS x)), u64 s'), (u64 (foldN (bT x)), u64 t')]
def orNum (s' t' : Int) : List AV := [FF, FF, u64 s', u64 t']
def obS (n : Nat) : Ob := [(bo (ltN n 120), TT), (bo (ltN n 120), TT), (bo (gtN n 120), FF)]
def orS : List AV := [TT, TT, FF]
def obLo (n : Nat) : Ob := [(bo (ltN n 120), FF), (bo (gtN n 120), TT), (bo (ltN n 120), FF), (bo (gtN n 120), TT)]
def orLo : List AV := [FF, TT, FF, TT]
def obA (x : Nat → Int) (s' t' : Int) : Ob := obNum x s' t' ++ [(bo (gtI s' 1048576), TT), (FF, FF), (FF, FF)]
def orA (s' t' : Int) : List AV := orNum s' t' ++ [TT, FF, FF]
def eqB (x : Nat → Int) (s' t' : Int) : Bool := strEqI (formInts s' t' (bR x) (bG x)) (bL x)
def obB (x : Nat → Int) (s' t' : Int) : Ob := obNum x s' t' ++ obPut s' t' (bR x) (bG x) ++ [(bo (eqB x s' t'), FF), (FF, FF), (FF, FF)]
def orB (s' t' : Int) : List AV := orNum s' t' ++ orPut ++ [FF, FF, FF]
def obC (x : Nat → Int) (s' t' : Int) : Ob := obNum x s' t' ++ obPut s' t' (bR x) (bG x) ++ [(bo (eqB x s' t'), TT)] ++ obPut s' t' (bR x) (bG x) ++ [(bo (eqB x s' t'), TT)]
def orC (s' t' : Int) : List AV := orNum s' t' ++ orPut ++ [TT] ++ orPut ++ [TT]
theorem leaf1S (s t : Int) (r g : Nat → Int) (n : Nat) (full : Bool) (cells : List AV) : backEv [.agg (headCells s t r g), .imm 1 n full cells] (or1 s t ++ orS) = some (TT, ob1 s t r g ++ obS n) := by kernel_rfl
theorem leaf1L (s t : Int) (r g : Nat → Int) (n : Nat) (full : Bool) (cells : List AV) : backEv [.agg (headCells s t r g), .imm 1 n full cells] (or1 s t ++ orLo) = some (TT, ob1 s t r g ++ obLo n) := by kernel_rfl
theorem leaf1A (s t : Int) (r g : Nat → Int) (x : Nat → Int) (full : Bool) (s' t' : Int) : backEv [.agg (headCells s t r g), .imm 1 120 full ((bL x).map u8)] (or1 s t ++ orA s' t') = some (TT, ob1 s t r g ++ obA x s' t') := by kernel_rfl
theorem leaf1B (s t : Int) (r g : Nat → Int) (x : Nat → Int) (full : Bool) (s' t' : Int) : backEv [.agg (headCells s t r g), .imm 1 120 full ((bL x).map u8)] (or1 s t ++ orB s' t') = some (TT, ob1 s t r g ++ obB x s' t') := by kernel_rfl
theorem leaf1C (s t : Int) (r g : Nat → Int) (x : Nat → Int) (full : Bool) (s' t' : Int) : backEv [.agg (headCells s t r g), .imm 1 120 full ((bL x).map u8)] (or1 s t ++ orC s' t') = some (TT, ob1 s t r g ++ obC x s' t') := by kernel_rfl
theorem leaf1N (s t : Int) (r g : Nat → Int) : backEv [.agg (headCells s t r g), .nils] (or1 s t ++ orS) = some (TT, ob1 s t r g ++ obS 0) := by kernel_rfl
theorem leaf2S (s t : Int) (r g : Nat → Int) (n : Nat) (full : Bool) (cells : List AV) : backEv [.agg (headCells s t r g), .imm 1 n full cells] (or2 ++ orS) = some (TT, ob2 s ++ obS n) := by kernel_rfl
theorem leaf2L (s t : Int) (r g : Nat → Int) (n : Nat) (full : Bool) (cells : List AV) : backEv [.agg (headCells s t r g), .imm 1 n full cells] (or2 ++ orLo) = some (TT, ob2 s ++ obLo n) := by kernel_rfl
theorem leaf2A (s t : Int) (r g : Nat → Int) (x : Nat → Int) (full : Bool) (s' t' : Int) : backEv [.agg (headCells s t r g), .imm 1 120 full ((bL x).map u8)] (or2 ++ orA s' t') = some (TT, ob2 s ++ obA x s' t') := by kernel_rfl
theorem leaf2B (s t : Int) (r g : Nat → Int) (x : Nat → Int) (full : Bool) (s' t' : Int) : backEv [.agg (headCells s t r g), .imm 1 120 full ((bL x).map u8)] (or2 ++ orB s' t') = some (TT, ob2 s ++ obB x s' t') := by kernel_rfl
theorem leaf2C (s t : Int) (r g : Nat → Int) (x : Nat → Int) (full : Bool) (s' t' : Int) : backEv [.agg (headCells s t r g), .imm 1 120 full ((bL x).map u8)] (or2 ++ orC s' t') = some (TT, ob2 s ++ obC x s' t') := by kernel_rfl
theorem leaf2N (s t : Int) (r g : Nat → Int) : backEv [.agg (headCells s t r g), .nils] (or2 ++ orS) = some (TT, ob2 s ++ obS 0) := by kernel_rfl
theorem gtI_eq (a b : Int) : gtI a b = decide (a > b) := rfl
theorem leI_eq (a b : Int) : leI a b = decide (a ≤ b) := rfl
theorem gtN_eq (a b : Int) : gtN a b = decide (a > b) := rfl
theorem ltN_eq (a b : Int) : ltN a b = decide (a < b) := rfl
theorem strEqI_self (l : List Int) : strEqI l l = true := by
  show ((strOfNums l).toList == (strOfNums l).toList) = true
  simp
theorem wrap_range (k : Int) : 0 ≤ IntKind.u64.wrap k ∧ IntKind.u64.wrap k ≤ 18446744073709551615 := by
  rw [IntKind.wrap_u64]; omega
theorem wrap32_range (k : Int) : 0 ≤ IntKind.u32.wrap k ∧ IntKind.u32.wrap k ≤ 4294967295 := by
  rw [IntKind.wrap_u32]; omega
theorem orI_eq (a b : Int) : orI a b = IntKind.u64.wrap ((BitVec.ofInt 64 a ||| BitVec.ofInt 64 b).toNat : Int) := rfl
theorem crcI_range (l : List Int) : 0 ≤ crcI l ∧ crcI l ≤ 4294967295 := by
  have h : ∃ z : Int, crcMoreS 0 l = IntKind.u32.wrap z := ⟨_, rfl⟩
  obtain ⟨z, hz⟩ := h
  have h2 := wrap32_range z
  unfold crcI
  rw [hz, IntWalk.u64_in _ (by omega)]
  exact h2
theorem foldN_range (l : List Int) : 0 ≤ foldN l ∧ foldN l ≤ 18446744073709551615 := by
  unfold foldN
  have : ∀ (l : List Int) (n : Int), 0 ≤ n ∧ n ≤ 18446744073709551615 → 0 ≤ l.foldl (fun n b => orI (shlI n 8) (IntKind.u64.wrap b)) n ∧ l.foldl (fun n b => orI (shlI n 8) (IntKind.u64.wrap b)) n ≤ 18446744073709551615 := by
    intro l
    induction l with
    | nil => intro n h; exact h
    | cons b r ih => intro n _; exact ih _ (by simp only [orI_eq]; exact wrap_range _)
  exact this l 0 (by omega)
theorem byteAt_nat (n c : Nat) (hc : c ≤ 64) : byteAt (n : Int) (c : Int) = ((n / 2 ^ c % 256 : Nat) : Int) := by
  have h1 : shrI (n : Int) (c : Int) = (n : Int).fdiv (2 ^ (min c 64)) := by
    unfold shrI Op.shift
    rw [if_neg (by omega)]
    rfl
  unfold byteAt
  rw [h1, Nat.min_eq_left hc, IntKind.wrap_u8, Int.fdiv_eq_ediv_of_nonneg _ (Int.le_of_lt (Int.pow_pos (by decide))), Int.natCast_emod, Int.natCast_ediv, Int.natCast_pow]
  rfl
theorem orI_nat (m b : Nat) (hm : m < 2 ^ 56) (hb : b < 256) : orI (shlI (m : Int) 8) (IntKind.u64.wrap (b : Int)) = ((m * 256 + b : Nat) : Int) := by
  have h1 : shlI (m : Int) 8 = ((m * 256 : Nat) : Int) := by
    have : shlI (m : Int) 8 = IntKind.u64.wrap ((m : Int) * 2 ^ 8) := rfl
    rw [this, IntWalk.u64_in _ (by omega)]
    omega
  rw [h1, IntWalk.u64_in (b : Int) (by omega), orI_eq]
  have h2 : ((BitVec.ofInt 64 ((m * 256 : Nat) : Int) ||| BitVec.ofInt 64 (b : Int)).toNat) = m * 256 + b := by
    rw [BitVec.toNat_or, BitVec.ofInt_natCast, BitVec.ofInt_natCast, BitVec.toNat_ofNat, BitVec.toNat_ofNat, Nat.mod_eq_of_lt (by omega), Nat.mod_eq_of_lt (by omega)]
    have := Nat.shiftLeft_add_eq_or_of_lt (show b < 2 ^ 8 by omega) m
    rw [Nat.shiftLeft_eq, show (2 : Nat) ^ 8 = 256 from rfl] at this
    omega
  rw [h2, IntWalk.u64_in _ (by omega)]
def natN (l : List Nat) : Nat := l.foldl (fun n b => n * 256 + b) 0
theorem foldN_nat : ∀ (l : List Nat) (n : Nat), (∀ b ∈ l, b < 256) → n < 2 ^ (64 - 8 * l.length) → l.length ≤ 8 → (l.map Int.ofNat).foldl (fun n b => orI (shlI n 8) (IntKind.u64.wrap b)) (n : Int) = ((l.foldl (fun n b => n * 256 + b) n : Nat) : Int)
  | [], n, _, _, _ => rfl
  | b :: r, n, h, hn, hl => by
    simp only [List.length_cons] at hn hl
    have hb : b < 256 := h b (by simp)
    simp only [List.map_cons, List.foldl_cons]
    have e : 64 - 8 * (r.length + 1) + 8 = 64 - 8 * r.length := by omega
    have h56 : n < 2 ^ 56 := Nat.lt_of_lt_of_le hn (Nat.pow_le_pow_right (by omega) (by omega))
    have := orI_nat n b h56 hb
    rw [show (Int.ofNat b) = (b : Int) from rfl, this]
    refine foldN_nat r _ (fun c hc => h c (by simp [hc])) ?_ (by omega)
    rw [← e, Nat.pow_add]
    have : n + 1 ≤ 2 ^ (64 - 8 * (r.length + 1)) := hn
    have := Nat.mul_le_mul_right 256 this
    omega
theorem be8_nat (n : Nat) : be8 (n : Int) = [n / 2 ^ 56 % 256, n / 2 ^ 48 % 256, n / 2 ^ 40 % 256, n / 2 ^ 32 % 256, n / 2 ^ 24 % 256, n / 2 ^ 16 % 256, n / 2 ^ 8 % 256, n / 2 ^ 0 % 256].map Int.ofNat := by
  unfold be8
  have := byteAt_nat n
  simp only [List.map_cons, List.map_nil]
  rw [show (56 : Int) = ((56 : Nat) : Int) from rfl, show (48 : Int) = ((48 : Nat) : Int) from rfl, show (40 : Int) = ((40 : Nat) : Int) from rfl, show (32 : Int) = ((32 : Nat) : Int) from rfl,
    show (24 : Int) = ((24 : Nat) : Int) from rfl, show (16 : Int) = ((16 : Nat) : Int) from rfl, show (8 : Int) = ((8 : Nat) : Int) from rfl, show (0 : Int) = ((0 : Nat) : Int) from rfl]
  rw [this 56 (by omega), this 48 (by omega), this 40 (by omega), this 32 (by omega), this 24 (by omega), this 16 (by omega), this 8 (by omega), this 0 (by omega)]
  rfl
theorem foldN_be8 (s : Int) (h0 : 0 ≤ s) (h1 : s ≤ 18446744073709551615) : foldN (be8 s) = s := by
  obtain ⟨n, rfl⟩ := Int.eq_ofNat_of_zero_le h0
  rw [be8_nat]
  unfold foldN
  have := foldN_nat [n / 2 ^ 56 % 256, n / 2 ^ 48 % 256, n / 2 ^ 40 % 256, n / 2 ^ 32 % 256, n / 2 ^ 24 % 256, n / 2 ^ 16 % 256, n / 2 ^ 8 % 256, n / 2 ^ 0 % 256] 0 (by
    intro b hb
    simp only [List.mem_cons, List.not_mem_nil, or_false] at hb
    omega) (by simp) (by simp)
  rw [show ((0 : Nat) : Int) = 0 from rfl] at this
  rw [this]
  simp only [List.foldl_cons, List.foldl_nil]
  omega
/-- what is left to be shown holds -/
theorem obPut_ok (s t : Int) (r g : Nat → Int) (hs : 0 ≤ s ∧ s ≤ 1048576) (ht : 0 ≤ t ∧ t ≤ 18446744073709551615) : (obPut s t r g).ok := by
  have hc := crcI_range (headInts s t r g)
  unfold obPut
  simp only [Ob.ok_cons, Ob.ok_nil, gtI_eq, bo, FF, and_true]
  refine ⟨?_, ?_, ?_, ?_⟩ <;> (congr 2; simp; omega)
theorem awake_ev : isTrue (evCall E0 ovK 1000000 15 [] st00) = true := by kernel_rfl
theorem closed_calls {f k : Nat} (h : isTrue (evCall E0 ovK k f [] st00) = true) (st : St) : ACalls Try.prog f [] (fun a st' => a = TT ∧ st' = st) st := fun g w us hok hv => by
  obtain rfl : us = [] := List.eq_nil_of_length_eq_zero hv.1
  exact (closed h w).mono fun e w' ⟨he, hb⟩ => ⟨g, st, TT, .bool true, he, step_below hok hb, .val _ rfl, rfl, rfl⟩
theorem ovB_ok : ∀ f args st r, ovB f args st = some r → ACalls Try.prog f args (fun a st' => (a, st') = r) st := by
  intro f args st r h
  unfold ovB at h
  split at h
  · rename_i hf
    subst hf
    split at h
    · cases h
      exact (closed_calls awake_ev st).mono fun a st' ⟨h1, h2⟩ => by rw [h1, h2]
    · cases h
  · exact ovK_ok f args st r h
theorem back_of {args x : List AV} {ob : Ob} (h : backEv args x = some (TT, ob)) (hob : ob.ok) : ACalls Try.prog 4 args (fun a _ => a = TT) st00 := by
  unfold backEv at h
  obtain ⟨⟨a, st, x', ob'⟩, h1, h2⟩ := Option.map_eq_some_iff.1 h
  simp only [Prod.mk.injEq] at h2
  obtain ⟨rfl, rfl⟩ := h2
  exact ((evS_ok E1_ok ovB_ok 100000).call _ _ _ _ _ _ _ _ h1 hob).mono fun a st' ⟨h, _⟩ => h
theorem ob_pair {b : Bool} (h : b = true) : bo b = TT := by rw [h]; rfl
theorem ob_pairF {b : Bool} (h : b = false) : bo b = FF := by rw [h]; rfl
theorem ob1_ok (s t : Int) (r g : Nat → Int) (hs : 0 ≤ s ∧ s ≤ 1048576) (ht : 0 ≤ t ∧ t ≤ 18446744073709551615) : (ob1 s t r g).ok := by
  have hp := obPut_ok s t r g hs ht
  have e1 := foldN_be8 s hs.1 (by omega)
  have e2 := foldN_be8 t ht.1 ht.2
  have e3 : bo (!(true == leI s 1048576)) = FF := ob_pairF (by rw [leI_eq]; simp; omega)
  have e4 : bo (strEqI (formInts s t r g) (formInts s t r g)) = TT := ob_pair (strEqI_self _)
  have e5 : bo (!decide (headL s t r g = headL s t r g)) = FF := ob_pairF (by simp)
  unfold ob1
  rw [e1, e2, e3, e4, e5]
  simp [Ob.ok_append, Ob.ok_cons, Ob.ok_nil, hp]
theorem ob2_ok (s : Int) (hs : 1048576 < s) : (ob2 s).ok := by
  unfold ob2
  simp only [Ob.ok_cons, Ob.ok_nil, and_true]
  refine ⟨ob_pair ?_, ob_pairF ?_⟩
  · rw [gtI_eq]; simp; omega
  · rw [leI_eq]; simp; omega
theorem back_all (s t : Int) (r g : Nat → Int) (hs : 0 ≤ s ∧ s ≤ 18446744073709551615) (ht : 0 ≤ t ∧ t ≤ 18446744073709551615) (v : AV)
    (hv : v = .nils ∨ (∃ n full cells, n ≠ 120 ∧ v = .imm 1 n full cells) ∨ ∃ x full, v = .imm 1 120 full ((bL x).map u8)) : ACalls Try.prog 4 [.agg (headCells s t r g), v] (fun a _ => a = TT) st00 := by
  have key : ∀ (x : List AV) (o : Ob), o.ok → (s ≤ 1048576 → backEv [.agg (headCells s t r g), v] (or1 s t ++ x) = some (TT, ob1 s t r g ++ o)) → (1048576 < s → backEv [.agg (headCells s t r g), v] (or2 ++ x) = some (TT, ob2 s ++ o)) →
      ACalls Try.prog 4 [.agg (headCells s t r g), v] (fun a _ => a = TT) st00 := by
    intro x o ho h1 h2
    rcases Int.lt_or_le 1048576 s with h | h
    · exact back_of (h2 h) (Ob.ok_append.2 ⟨ob2_ok s h, ho⟩)
    · exact back_of (h1 h) (Ob.ok_append.2 ⟨ob1_ok s t r g ⟨hs.1, h⟩ ht, ho⟩)
  rcases hv with rfl | ⟨n, full, cells, hn, rfl⟩ | ⟨x, full, rfl⟩
  · refine key orS (obS 0) ?_ (fun _ => leaf1N s t r g) (fun _ => leaf2N s t r g)
    unfold obS
    simp only [Ob.ok_cons, Ob.ok_nil, and_true]
    exact ⟨ob_pair rfl, ob_pair rfl, ob_pairF rfl⟩
  · rcases Nat.lt_or_ge n 120 with h | h
    · refine key orS (obS n) ?_ (fun _ => leaf1S s t r g n full cells) (fun _ => leaf2S s t r g n full cells)
      unfold obS
      simp only [Ob.ok_cons, Ob.ok_nil, and_true]
      refine ⟨ob_pair ?_, ob_pair ?_, ob_pairF ?_⟩ <;> simp only [ltN_eq, gtN_eq] <;> simp <;> omega
    · refine key orLo (obLo n) ?_ (fun _ => leaf1L s t r g n full cells) (fun _ => leaf2L s t r g n full cells)
      unfold obLo
      simp only [Ob.ok_cons, Ob.ok_nil, and_true]
      refine ⟨ob_pairF ?_, ob_pair ?_, ob_pairF ?_, ob_pair ?_⟩ <;> simp only [ltN_eq, gtN_eq] <;> simp <;> omega
  · have hS := foldN_range (bS x)
    have hT := foldN_range (bT x)
    have hnum : (obNum x (foldN (bS x)) (foldN (bT x))).ok := by
      unfold obNum
      simp only [Ob.ok_cons, Ob.ok_nil, and_true]
    generalize hs' : foldN (bS x) = s' at *
    generalize ht' : foldN (bT x) = t' at *
    rcases Int.lt_or_le 1048576 s' with h | h
    · refine key (orA s' t') (obA x s' t') ?_ (fun _ => leaf1A s t r g x full s' t') (fun _ => leaf2A s t r g x full s' t')
      unfold obA
      simp only [Ob.ok_append, Ob.ok_cons, Ob.ok_nil, and_true]
      refine ⟨hnum, ob_pair ?_⟩
      rw [gtI_eq]; simp; omega
    · have hp := obPut_ok s' t' (bR x) (bG x) ⟨hS.1, h⟩ hT
      cases hq : eqB x s' t' with
      | false =>
        refine key (orB s' t') (obB x s' t') ?_ (fun _ => leaf1B s t r g x full s' t') (fun _ => leaf2B s t r g x full s' t')
        unfold obB
        simp only [Ob.ok_append, Ob.ok_cons, Ob.ok_nil, and_true]
        exact ⟨⟨hnum, hp⟩, ob_pairF hq⟩
      | true =>
        refine key (orC s' t') (obC x s' t') ?_ (fun _ => leaf1C s t r g x full s' t') (fun _ => leaf2C s t r g x full s' t')
        unfold obC
        simp only [Ob.ok_append, Ob.ok_cons, Ob.ok_nil, and_true]
        exact ⟨⟨⟨⟨hnum, hp⟩, ob_pair hq⟩, hp⟩, ob_pair hq⟩
/-- from the machine to the world -/
theorem run_of {f : Nat} {args : List AV} (h : ACalls Try.prog f args (fun a _ => a = TT) st00) {W : World} {us : List Value} (hv : VRs (gW W) args us) :
    Calls Try.prog f us.toArray W fun e w' => e = .returned (.bool true) ∧ RowKit.Below W.heap.size W w' :=
  (h (gW W) W us (okW W) hv).mono fun e w' ⟨g', st', a, v, h1, h2, h3, h4⟩ => by
    subst h4
    rw [h3.val_inv] at h1
    exact ⟨h1, h2.os, h2.tape, h2.output, h2.size, fun b hb => h2.frame b hb fun id o ho => by
      have := (St.wget_get ho).1
      simp [st00, St.get, Tr.get] at this⟩
end Go.Proofs.Ytniaiciabfdbnaa.E
