/- Put and Take of both, over the abstract machine: contracts. No condition beyond those that the lemmas name. -/
import Derived.Test.YtniaiciabfdbnaaCa
namespace Go.Proofs.Ytniaiciabfdbnaa.E
open Go Go.Proofs
section
set_option maxRecDepth 100000
namespace F
def rootL (r : Nat → Int) : List Int := (List.range 32).map r
def sigL (g : Nat → Int) : List Int := (List.range 64).map g
def headCells (s t : Int) (r g : Nat → Int) : List AV := u64 s :: u64 t :: ((rootL r).map u8 ++ (sigL g).map u8)
def byteAt (n c : Int) : Int := IntKind.u8.wrap (shrU n c)
def be8 (n : Int) : List Int := [byteAt n 56, byteAt n 48, byteAt n 40, byteAt n 32, byteAt n 24, byteAt n 16, byteAt n 8, byteAt n 0]
def be4 (n : Int) : List Int := [byteAt n 24, byteAt n 16, byteAt n 8, byteAt n 0]
def headInts (s t : Int) (r g : Nat → Int) : List Int := 101 :: 115 :: 99 :: 114 :: (be8 s ++ be8 t ++ rootL r ++ sigL g)
def crcI (l : List Int) : Int := IntKind.u64.wrap (crcMoreS 0 l)
def formInts (s t : Int) (r g : Nat → Int) : List Int := headInts s t r g ++ be4 (crcI (headInts s t r g))
def gtU (a b : Int) : Bool := boolI (binOp .gtr 22 (.int .u64 a) (.int .u64 b))
def remU (a b : Int) : Int := valI (binOp .rem 22 (.int .u64 a) (.int .u64 b))
def quoU (a b : Int) : Int := valI (binOp .quo 22 (.int .u64 a) (.int .u64 b))
def bytesP (xs : List Int) : Prop := ∀ x ∈ xs, 0 ≤ x ∧ x < 256
def sumP : OvP := fun f args st => if f = 53 then (match args with
  | [.sl id 1 off len _] => match st.get id with
    | some (.row vs ty) => match bytesOf vs with
      | some xs => if ty = 5 ∧ st.lock.contains id = false ∧ off = 0 ∧ xs.length = len ∧ len < 1000000 then some (u32 (crcMoreS 0 xs), st, bytesP xs) else none
      | none => none
    | _ => none
  | _ => none) else none
theorem bytesOf_vals : ∀ {l : List AV} {xs : List Int}, bytesOf l = some xs → ∀ ρ, renL ρ l = l
  | [], _, _, ρ => by simp [renL]
  | a :: r, xs, h, ρ => by
    unfold bytesOf at h
    split at h
    · rename_i heq; cases heq
    · rename_i x r' heq
      cases heq
      obtain ⟨ys, hy, rfl⟩ := Option.map_eq_some_iff.1 h
      simp only [renL, ren, bytesOf_vals hy ρ]
    · cases h
theorem toNats {xs : List Int} (h : bytesP xs) : xs = (xs.map Int.toNat).map Int.ofNat := by
  induction xs with
  | nil => rfl
  | cons a r ih =>
    have ha := h a (List.mem_cons_self ..)
    rw [List.map_cons, List.map_cons, ← ih fun x hx => h x (List.mem_cons_of_mem _ hx)]
    congr 1
    exact (Int.toNat_of_nonneg ha.1).symm
theorem sumP_ok : ∀ f args st r st' p, sumP f args st = some (r, st', p) → p → ACalls Try.prog f args (fun a s => a = r ∧ s = st') st := by
  intro f args st r st' p h hp
  unfold sumP at h
  split at h
  · rename_i hf
    subst hf
    split at h
    · rename_i id off len full
      split at h
      · rename_i vs ty hg
        split at h
        · rename_i xs hb
          split at h
          · rename_i hc
            cases h
            obtain ⟨rfl, h2, rfl, h4, h5⟩ := hc
            obtain ⟨k1, k2⟩ := bytesOf_at hb
            have e : crcMoreS 0 xs = crcMore 0 ((xs.map Int.toNat).map Int.ofNat) := by rw [← toNats hp]; unfold crcMoreS crcMore; rw [strictFold_eq]
            rw [e]
            refine refSum_ok hg (fun ρ => bytesOf_vals hb ρ) (by simpa using h2) h5 (by simpa using h4) (fun i hi => ?_) fun x hx => ?_
            · unfold partA
              rw [ty5]
              have := k2 i (by omega)
              have hxi := hp (xs.getD i 0) (by
                rw [List.getD_eq_getElem?_getD, List.getElem?_eq_getElem (by omega)]
                exact List.getElem_mem _)
              simp only [isAggD, Bool.false_eq_true, if_false]
              rw [show 0 + (i : Int).toNat * 1 = i by simp, this]
              congr 2
              rw [List.getD_eq_getElem?_getD, List.getD_eq_getElem?_getD, List.getElem?_map]
              rw [List.getD_eq_getElem?_getD] at hxi
              cases hx : xs[i]? with
              | none => rfl
              | some z =>
                rw [hx] at hxi
                simp at hxi ⊢
                omega
            · obtain ⟨z, hz, rfl⟩ := List.mem_map.1 hx
              have := hp z hz
              omega
          · cases h
        · cases h
      · cases h
    · cases h
  · cases h
def sitesG : Nat → List Nat
  | 12 => [13]
  | 52 => [25, 28]
  | _ => []
/-- the digits of a number, as the document takes them -/
def orNum (s : Int) : Nat → Nat → List AV
  | 0, _ => []
  | 1, i => [u8 (byteAt s (8 * i : Nat)), u64 0]
  | k + 1, i => u8 (byteAt s (8 * i : Nat)) :: u64 (s / 2 ^ (8 * (i + 1))) :: orNum s k (i + 1)
/-- what they leave to be shown: n is what is left of s -/
def obNum (s : Int) : Nat → Nat → Int → Ob
  | 0, _, _ => []
  | 1, i, n => [u8 (IntKind.u8.wrap (remU n 256)) = u8 (byteAt s (8 * i : Nat)), u64 (quoU n 256) = u64 0]
  | k + 1, i, n => (u8 (IntKind.u8.wrap (remU n 256)) = u8 (byteAt s (8 * i : Nat))) :: (u64 (quoU n 256) = u64 (s / 2 ^ (8 * (i + 1)))) :: obNum s k (i + 1) (s / 2 ^ (8 * (i + 1)))
def contentA (st : St) : AV → List AV
  | .tup (.sl id _ off len _ :: _) => match st.get id with
    | some (.row vs _) => (vs.drop off).take len
    | _ => []
  | _ => []
noncomputable def putR (s t : Int) (r g : Nat → Int) := evCallS E0 sumP sitesG 100000 12 [.agg (headCells s t r g)] st00 (FF :: (orNum s 8 0 ++ orNum t 8 0 ++ orNum (crcI (headInts s t r g)) 4 0))
def obPutR (s t : Int) (r g : Nat → Int) : Ob := (bo (gtU s 1048576) = FF) :: (obNum s 8 0 s ++ obNum t 8 0 t ++ (bytesP (headInts s t r g) :: obNum (crcI (headInts s t r g)) 4 0 (crcI (headInts s t r g))))
theorem put1 (s t : Int) (r g : Nat → Int) : (putR s t r g).map (fun q => (contentA q.2.1 q.1, q.2.2.2)) = some ((formInts s t r g).map u8, obPutR s t r g) := by kernel_rfl
end F
end
section
set_option maxRecDepth 4000
namespace F
theorem remU_eq (a : Int) (h : 0 ≤ a) : remU a 256 = a % 256 := by
  have : remU a 256 = a.tmod 256 := rfl
  rw [this, Int.tmod_eq_emod_of_nonneg h]
theorem quoU_eq (a : Int) (h : 0 ≤ a ∧ a ≤ 18446744073709551615) : quoU a 256 = a / 256 := by
  have : quoU a 256 = IntKind.u64.wrap (a.tdiv 256) := rfl
  rw [this, Int.tdiv_eq_ediv_of_nonneg h.1, IntWalk.u64_in _ (by omega)]
theorem byteAt_div (s : Nat) (c : Nat) (hc : c ≤ 64) : byteAt (s : Int) (c : Int) = ((s / 2 ^ c % 256 : Nat) : Int) := by
  unfold byteAt
  rw [shrU_eq s c hc, Nat.shiftRight_eq_div_pow, IntKind.wrap_u8]
  omega
theorem obNum_ok (s : Nat) (h64 : s < 2 ^ 64) : ∀ k i, 1 ≤ k → i + k ≤ 8 → s < 2 ^ (8 * (i + k)) → (obNum (s : Int) k i ((s / 2 ^ (8 * i) : Nat) : Int)).ok
  | 0, i, h, _, _ => by omega
  | 1, i, _, hik, hs => by
    simp only [obNum, Ob.ok_cons, Ob.ok_nil, and_true]
    have hle : s / 2 ^ (8 * i) ≤ s := Nat.div_le_self _ _
    have hb := byteAt_div s (8 * i) (by omega)
    have hlt : s / 2 ^ (8 * i) < 256 := by
      rw [Nat.div_lt_iff_lt_mul (Nat.pow_pos (by decide))]
      rw [show 8 * (i + 1) = 8 * i + 8 by omega, Nat.pow_add] at hs
      rw [Nat.mul_comm]
      exact hs
    generalize s / 2 ^ (8 * i) = z at *
    refine ⟨congrArg u8 ?_, congrArg u64 ?_⟩
    · rw [remU_eq _ (by omega), hb, IntKind.wrap_u8]; omega
    · rw [quoU_eq _ (by omega)]; omega
  | k + 2, i, _, hik, hs => by
    have hle : s / 2 ^ (8 * i) ≤ s := Nat.div_le_self _ _
    have hb := byteAt_div s (8 * i) (by omega)
    have hd : s / 2 ^ (8 * (i + 1)) = s / 2 ^ (8 * i) / 256 := by
      rw [show 8 * (i + 1) = 8 * i + 8 by omega, Nat.pow_add, Nat.div_div_eq_div_mul]
    have hc : ((s : Int) / 2 ^ (8 * (i + 1))) = ((s / 2 ^ (8 * (i + 1)) : Nat) : Int) := by
      rw [Int.natCast_ediv, Int.natCast_pow]; rfl
    have ih := obNum_ok s h64 (k + 1) (i + 1) (by omega) (by omega) (by rw [show i + 1 + (k + 1) = i + (k + 2) by omega]; exact hs)
    simp only [obNum, Ob.ok_cons]
    rw [hc]
    refine ⟨congrArg u8 ?_, congrArg u64 ?_, ih⟩
    · generalize s / 2 ^ (8 * i) = z at *
      rw [remU_eq _ (by omega), hb, IntKind.wrap_u8]; omega
    · rw [hd]
      generalize s / 2 ^ (8 * i) = z at *
      rw [quoU_eq _ (by omega)]; omega
theorem wrap32_range (k : Int) : 0 ≤ IntKind.u32.wrap k ∧ IntKind.u32.wrap k ≤ 4294967295 := by
  rw [IntKind.wrap_u32]; omega
theorem crcI_range (l : List Int) : 0 ≤ crcI l ∧ crcI l ≤ 4294967295 := by
  have h : ∃ z : Int, crcMoreS 0 l = IntKind.u32.wrap z := ⟨_, rfl⟩
  obtain ⟨z, hz⟩ := h
  have h2 := wrap32_range z
  unfold crcI
  rw [hz, IntWalk.u64_in _ (by omega)]
  exact h2
theorem byteAt_range (n c : Int) : 0 ≤ byteAt n c ∧ byteAt n c < 256 := by
  unfold byteAt; rw [IntKind.wrap_u8]; omega
theorem obPutR_ok (s t : Int) (r g : Nat → Int) (hs : 0 ≤ s ∧ s ≤ 1048576) (ht : 0 ≤ t ∧ t ≤ 18446744073709551615) (hr : ∀ i, i < 32 → 0 ≤ r i ∧ r i < 256) (hg : ∀ i, i < 64 → 0 ≤ g i ∧ g i < 256) : (obPutR s t r g).ok := by
  have hc := crcI_range (headInts s t r g)
  generalize hz : crcI (headInts s t r g) = z at *
  obtain ⟨s', rfl⟩ := Int.eq_ofNat_of_zero_le hs.1
  obtain ⟨t', rfl⟩ := Int.eq_ofNat_of_zero_le ht.1
  obtain ⟨z', rfl⟩ := Int.eq_ofNat_of_zero_le hc.1
  have a1 := obNum_ok s' (by omega) 8 0 (by omega) (by omega) (by omega)
  have a2 := obNum_ok t' (by omega) 8 0 (by omega) (by omega) (by omega)
  have a3 := obNum_ok z' (by omega) 4 0 (by omega) (by omega) (by omega)
  simp only [Nat.mul_zero, Nat.pow_zero, Nat.div_one] at a1 a2 a3
  unfold obPutR
  rw [hz]
  simp only [Ob.ok_cons, Ob.ok_append]
  refine ⟨ob_F ?_, ⟨a1, a2⟩, ?_, a3⟩
  · show decide ((s' : Int) > 1048576) = false
    simp; omega
  · intro x hx
    have hb : ∀ n : Int, ∀ x ∈ be8 n, 0 ≤ x ∧ x < 256 := fun n x hx => by
      simp only [be8, List.mem_cons, List.not_mem_nil, or_false] at hx
      rcases hx with rfl | rfl | rfl | rfl | rfl | rfl | rfl | rfl <;> exact byteAt_range _ _
    simp only [headInts, List.mem_cons, List.mem_append, rootL, sigL, List.mem_map, List.mem_range] at hx
    rcases hx with rfl | rfl | rfl | rfl | ((hx | hx) | ⟨i, hi, rfl⟩) | ⟨i, hi, rfl⟩
    · omega
    · omega
    · omega
    · omega
    · exact hb _ _ hx
    · exact hb _ _ hx
    · exact hr i hi
    · exact hg i hi
end F
end
section
set_option maxRecDepth 100000
namespace F
def intsOf : List IntKind → List Value → Option (List Int)
  | [], [] => some []
  | k :: ks, .int k' n :: r => if k' = k then (intsOf ks r).map (n :: ·) else none
  | _, _ => none
theorem intsOf_at : ∀ {ks : List IntKind} {us : List Value} {xs : List Int}, intsOf ks us = some xs → us.length = ks.length ∧ xs.length = ks.length ∧ ∀ (i : Nat) (k : IntKind), ks[i]? = some k → us[i]? = some (.int k (xs.getD i 0))
  | [], us, xs, h => by
    unfold intsOf at h
    split at h <;> simp_all
  | k :: ks, us, xs, h => by
    unfold intsOf at h
    split at h
    · simp_all
    · rename_i k2 ks2 k' n r heq1
      cases heq1
      split at h
      · rename_i hk
        subst hk
        obtain ⟨ys, hy, rfl⟩ := Option.map_eq_some_iff.1 h
        obtain ⟨h1, h2, h3⟩ := intsOf_at hy
        refine ⟨by simp [h1], by simp [h2], fun i k hk => ?_⟩
        cases i with
        | zero => simp at hk; simp [hk]
        | succ i => simpa using h3 i k (by simpa using hk)
      · cases h
    · cases h
section
variable {P : Program} (w : World)
theorem eqItems_ints {d e : Nat} {k : IntKind} (hu : P.underlying e = some (.int k)) (xs ys : Array Value) (a b : Nat → Int) (o : Nat) : ∀ is : List Nat,
    (∀ i ∈ is, xs[i]? = some (.int k (a (o + i))) ∧ ys[i]? = some (.int k (b (o + i)))) → ∃ r : Bool, (Op.eqItems (d + 1) e 1 xs ys is).run P w = .ok r w ∧ (r = true ↔ ∀ i ∈ is, a (o + i) = b (o + i))
  | [], _ => ⟨true, by simp [Op.eqItems], by simp⟩
  | i :: is, h => by
    obtain ⟨h1, h2⟩ := h i (by simp)
    obtain ⟨r', hr', hi'⟩ := eqItems_ints (d := d) hu xs ys a b o is fun j hj => h j (by simp [hj])
    have hp : P.plainKey e = true := by simp [Program.plainKey, hu]
    simp only [Op.eqItems, Nat.mul_one, Sem.run_bind, run_part_plain w hp h1, run_part_plain w hp h2, run_equalIn_int w d e k k _ _ hu, Result.andThen_ok]
    by_cases hab : a (o + i) = b (o + i)
    · refine ⟨r', by simp [hab, hr'], ?_⟩
      simp [hab, hi']
    · exact ⟨false, by simp [hab], by simp [hab]⟩
theorem eq_array {m d t e n o : Nat} {k : IntKind} {inf : TypeInfo} (ht : P.underlying t = some (.array n e)) (hi : P.info? e = some inf) (hc : P.cellsOf e = 1) (hu : P.underlying e = some (.int k)) (xs ys : Array Value) (a b : Nat → Int) (hm : m = d + 2)
    (h : ∀ i, i < n → xs[i]? = some (.int k (a (o + i))) ∧ ys[i]? = some (.int k (b (o + i)))) :
    ∃ r : Bool, (Op.equalIn m t (.agg xs) (.agg ys)).run P w = .ok r w ∧ (r = true ↔ ∀ i, i < n → a (o + i) = b (o + i)) := by
  subst hm
  obtain ⟨r, h1, h2⟩ := eqItems_ints w (d := d) hu xs ys a b o (List.range n) fun i hi => h i (List.mem_range.1 hi)
  refine ⟨r, by rw [run_equalIn_array w (d + 1) xs ys ht hi, hc]; exact h1, ?_⟩
  rw [h2]
  simp [List.mem_range]
end
theorem eq_int {P : Program} (w : World) {m d t : Nat} {k : IntKind} (hm : m = d + 1) (h : P.underlying t = some (.int k)) (a b : Int) : (Op.equalIn m t (.int k a) (.int k b)).run P w = .ok (a == b) w := by
  subst hm; exact run_equalIn_int w d t k k a b h
theorem eq_struct {P : Program} (w : World) {m d t : Nat} (hm : m = d + 1) {fs : Array Field} (xs ys : Array Value) (ht : P.underlying t = some (.struct fs)) (hp : P.stoodInHeld t = false) :
    (Op.equalIn m t (.agg xs) (.agg ys)).run P w = (Op.eqFields d xs ys fs.toList).run P w := by
  subst hm
  have hf : P.fieldsOf t = fs := by unfold Program.fieldsOf; rw [ht]
  have := run_equalIn_struct w d t xs ys (by rw [hf]; exact ht) hp
  rwa [hf] at this
theorem eqFields_step {P : Program} (w : World) {d : Nat} {nm tg pk : String} {ty off bo : Nat} {em : Bool} {fs : List Field} {xs ys : Array Value} {a b : Value} {r : Bool} (hn : nm ≠ "_")
    (ha : (part ty xs off).run P w = .ok a w) (hb : (part ty ys off).run P w = .ok b w) (hr : (Op.equalIn d ty a b).run P w = .ok r w) :
    (Op.eqFields d xs ys (⟨nm, ty, off, em, tg, pk, bo⟩ :: fs)).run P w = if r = true then (Op.eqFields d xs ys fs).run P w else .ok false w := by
  simp only [Op.eqFields, hn, ne_eq, not_false_eq_true, if_true, Sem.run_bind, ha, hb, hr, Result.andThen_ok]
  cases r <;> simp
theorem eqFields_nil {P : Program} (w : World) {d : Nat} {xs ys : Array Value} : (Op.eqFields d xs ys []).run P w = .ok true w := rfl
def kinds27 : List IntKind := .u64 :: .u64 :: List.replicate 96 .u8
def fields27 : Array Field := #[⟨ "Size", 22, 0, false, "", "", 0⟩, ⟨ "Time", 22, 1, false, "", "", 8⟩, ⟨ "Root", 24, 2, false, "", "", 16⟩, ⟨ "Sig", 25, 34, false, "", "", 48⟩]
theorem fields27_eq : Try.prog.underlying 27 = some (.struct fields27) := by kernel_rfl
theorem u22 : Try.prog.underlying 22 = some (.int .u64) := by kernel_rfl
theorem u5 : Try.prog.underlying 5 = some (.int .u8) := by kernel_rfl
theorem u24 : Try.prog.underlying 24 = some (.array 32 5) := by kernel_rfl
theorem u25 : Try.prog.underlying 25 = some (.array 64 5) := by kernel_rfl
theorem c5 : Try.prog.cellsOf 5 = 1 := by kernel_rfl
theorem c24 : Try.prog.cellsOf 24 = 32 := by kernel_rfl
theorem c25 : Try.prog.cellsOf 25 = 64 := by kernel_rfl
theorem i5 : ∃ i, Try.prog.info? 5 = some i := info_of_underlying u5
theorem i24 : ∃ i, Try.prog.info? 24 = some i := info_of_underlying u24
theorem i25 : ∃ i, Try.prog.info? 25 = some i := info_of_underlying u25
theorem held27 : Try.prog.stoodInHeld 27 = false := by kernel_rfl
theorem guard27 : Try.prog.eqGuardType Try.prog.depth 27 = false := by kernel_rfl
theorem eq27 {us vs : List Value} {xa xb : List Int} (ha : intsOf kinds27 us = some xa) (hb : intsOf kinds27 vs = some xb) (w : World) :
    (Op.equalIn 10000 27 (.agg us.toArray) (.agg vs.toArray)).run Try.prog w = .ok (decide (xa = xb)) w := by
  obtain ⟨a1, a2, a3⟩ := intsOf_at ha
  obtain ⟨b1, b2, b3⟩ := intsOf_at hb
  have hk : ∀ i, 2 ≤ i → i < 98 → kinds27[i]? = some .u8 := fun i h1 h2 => by
    obtain ⟨j, rfl⟩ := Nat.exists_eq_add_of_le' h1
    simp only [kinds27, List.getElem?_cons_succ, List.getElem?_replicate]
    rw [if_pos (by omega)]
  have hl : kinds27.length = 98 := by simp [kinds27]
  have x0 : us.toArray[0]? = some (.int .u64 (xa.getD 0 0)) := by simpa using a3 0 .u64 rfl
  have y0 : vs.toArray[0]? = some (.int .u64 (xb.getD 0 0)) := by simpa using b3 0 .u64 rfl
  have x1 : us.toArray[1]? = some (.int .u64 (xa.getD 1 0)) := by simpa using a3 1 .u64 rfl
  have y1 : vs.toArray[1]? = some (.int .u64 (xb.getD 1 0)) := by simpa using b3 1 .u64 rfl
  have hp : Try.prog.plainKey 22 = true := by simp [Program.plainKey]
  obtain ⟨inf, hinf⟩ := i5
  obtain ⟨i24, h24⟩ := i24
  obtain ⟨i25, h25⟩ := i25
  have xx : ∀ i, 2 ≤ i → i < 98 → us[i]? = some (.int .u8 (xa.getD i 0)) := fun i h1 h2 => a3 i .u8 (hk i h1 h2)
  have yy : ∀ i, 2 ≤ i → i < 98 → vs[i]? = some (.int .u8 (xb.getD i 0)) := fun i h1 h2 => b3 i .u8 (hk i h1 h2)
  obtain ⟨r2, p2, q2⟩ := eq_array (P := Try.prog) w (m := 9999) (d := 9997) (o := 2) u24 hinf c5 u5 (us.toArray.extract 2 (2 + 32)) (vs.toArray.extract 2 (2 + 32)) (fun i => xa.getD i 0) (fun i => xb.getD i 0) (by decide)
    (fun i hi => ⟨by rw [Array.getElem?_extract, if_pos (by simp; omega)]; simpa using xx (2 + i) (by omega) (by omega), by rw [Array.getElem?_extract, if_pos (by simp; omega)]; simpa using yy (2 + i) (by omega) (by omega)⟩)
  obtain ⟨r3, p3, q3⟩ := eq_array (P := Try.prog) w (m := 9999) (d := 9997) (o := 34) u25 hinf c5 u5 (us.toArray.extract 34 (34 + 64)) (vs.toArray.extract 34 (34 + 64)) (fun i => xa.getD i 0) (fun i => xb.getD i 0) (by decide)
    (fun i hi => ⟨by rw [Array.getElem?_extract, if_pos (by simp; omega)]; simpa using xx (34 + i) (by omega) (by omega), by rw [Array.getElem?_extract, if_pos (by simp; omega)]; simpa using yy (34 + i) (by omega) (by omega)⟩)
  have pa : ∀ (xs : Array Value) (t off n : Nat) (i : TypeInfo) (e : Nat) (m : Nat), Try.prog.underlying t = some (.array m e) → Try.prog.info? t = some i → Try.prog.cellsOf t = n → (part t xs off).run Try.prog w = .ok (.agg (xs.extract off (off + n))) w := fun xs t off n i e m hu hi hc => by
    rw [← hc]
    simp [part, isAgg, run_underlying hu, run_sizeOf w hi]
  have key : (xa = xb) ↔ (xa.getD 0 0 = xb.getD 0 0 ∧ xa.getD 1 0 = xb.getD 1 0 ∧ r2 = true ∧ r3 = true) := by
    rw [q2, q3]
    constructor
    · rintro rfl; exact ⟨rfl, rfl, fun _ _ => rfl, fun _ _ => rfl⟩
    · rintro ⟨h0, h1, h2, h3⟩
      apply List.ext_getElem (by omega)
      intro i hi hi'
      have : xa.getD i 0 = xb.getD i 0 := by
        rcases Nat.lt_or_ge i 2 with h | h
        · rcases Nat.lt_or_ge i 1 with h' | h'
          · obtain rfl : i = 0 := by omega
            exact h0
          · obtain rfl : i = 1 := by omega
            exact h1
        · rcases Nat.lt_or_ge i 34 with h' | h'
          · have := h2 (i - 2) (by omega)
            rwa [show 2 + (i - 2) = i by omega] at this
          · have := h3 (i - 34) (by omega)
            rwa [show 34 + (i - 34) = i by omega] at this
      simpa [List.getD_eq_getElem?_getD, List.getElem?_eq_getElem hi, List.getElem?_eq_getElem hi'] using this
  have e2 := p2
  have e3 := p3
  rw [show (decide (xa = xb)) = ((xa.getD 0 0 == xb.getD 0 0) && (xa.getD 1 0 == xb.getD 1 0) && r2 && r3) by
    rw [Bool.eq_iff_iff, decide_eq_true_iff, key]; simp [and_assoc]]
  have n1 : ("Size" : String) ≠ "_" := by decide
  have n2 : ("Time" : String) ≠ "_" := by decide
  have n3 : ("Root" : String) ≠ "_" := by decide
  have n4 : ("Sig" : String) ≠ "_" := by decide
  rw [eq_struct w (m := 10000) (d := 9999) (by decide) _ _ fields27_eq held27]
  show (Op.eqFields 9999 us.toArray vs.toArray [_, _, _, _]).run Try.prog w = _
  have z0 := run_part_plain (P := Try.prog) w hp x0
  have z0' := run_part_plain (P := Try.prog) w hp y0
  have z1 := run_part_plain (P := Try.prog) w hp x1
  have z1' := run_part_plain (P := Try.prog) w hp y1
  have z2 := pa us.toArray 24 2 32 i24 5 32 u24 h24 c24
  have z2' := pa vs.toArray 24 2 32 i24 5 32 u24 h24 c24
  have z3 := pa us.toArray 25 34 64 i25 5 64 u25 h25 c25
  have z3' := pa vs.toArray 25 34 64 i25 5 64 u25 h25 c25
  have k0 := eq_int (P := Try.prog) w (m := 9999) (d := 9998) (by decide) u22 (xa.getD 0 0) (xb.getD 0 0)
  have k1 := eq_int (P := Try.prog) w (m := 9999) (d := 9998) (by decide) u22 (xa.getD 1 0) (xb.getD 1 0)
  generalize us.toArray.extract 2 (2 + 32) = ua at *
  generalize vs.toArray.extract 2 (2 + 32) = va at *
  generalize us.toArray.extract 34 (34 + 64) = ub at *
  generalize vs.toArray.extract 34 (34 + 64) = vb at *
  generalize (9999 : Nat) = dd at *
  rw [eqFields_step w n1 z0 z0' k0, eqFields_step w n2 z1 z1' k1, eqFields_step w n3 z2 z2' e2, eqFields_step w n4 z3 z3' e3, eqFields_nil]
  cases (xa.getD 0 0 == xb.getD 0 0) <;> cases (xa.getD 1 0 == xb.getD 1 0) <;> cases r2 <;> cases r3 <;> rfl
def eqvB (us vs : List Value) : Option Bool := match intsOf kinds27 us, intsOf kinds27 vs with
  | some xa, some xb => some (decide (xa = xb))
  | _, _ => none
noncomputable def eqvA (t : Nat) (us vs : List Value) : Option Bool := if t = 27 then eqvB us vs else Env.eqv E0 t us vs
noncomputable def E1 : Env := { E0 with eqv := eqvA }
theorem E1_ok : EOK' Try.prog E1 := {
  ty := (envOf_ok (P := Try.prog) rfl).ty
  fn := (envOf_ok (P := Try.prog) rfl).fn
  mixed := (envOf_ok (P := Try.prog) rfl).mixed
  body := (envOf_ok (P := Try.prog) rfl).body
  eqv t us vs r h := by
    simp only [E1, eqvA, eqvB] at h
    split at h
    · rename_i ht
      subst ht
      split at h
      · rename_i xa xb ha hb
        simp only [Option.some.injEq] at h
        subst h
        exact ⟨fun w => eq27 ha hb w, guard27⟩
      · cases h
    · exact (envOf_ok (P := Try.prog) rfl).eqv t us vs r h }
end F
end
section
set_option maxRecDepth 100000
namespace F
def bL (x : Nat → Int) : List Int := (List.range 120).map x
def bS (x : Nat → Int) : List Int := [x 4, x 5, x 6, x 7, x 8, x 9, x 10, x 11]
def bT (x : Nat → Int) : List Int := [x 12, x 13, x 14, x 15, x 16, x 17, x 18, x 19]
def bR (x : Nat → Int) (i : Nat) : Int := x (20 + i)
def bG (x : Nat → Int) (i : Nat) : Int := x (52 + i)
def sitesL : Nat → List Nat
  | 3 => [2016, 56]
  | 11 => [8]
  | 12 => [13]
  | 14 => [11, 15, 58]
  | 13 => [15, 20]
  | 16 => [2006, 2008, 9]
  | 50 => [18]
  | 52 => [25, 28]
  | 55 => [41]
  | 57 => [21]
  | _ => []
def ovL : OvP := fun f args st => if f = 15 then (match args with | [] => some (TT, st, True) | _ => none) else if f = 53 then sumP f args st else (ovK f args st).map fun r => (r.1, r.2, True)
noncomputable def formsEv (args : List AV) (x : List AV) := (evCallS E1 ovL sitesL 100000 3 args st00 x).map fun q => (q.1, q.2.2.2)
def orPut : List AV := [FF, FF, FF, FF]
def orPutR (s t : Int) (r g : Nat → Int) : List AV := FF :: (orNum s 8 0 ++ orNum t 8 0 ++ orNum (crcI (headInts s t r g)) 4 0)
end F
end
section
set_option maxRecDepth 100000
namespace F
def gtN (a b : Int) : Bool := boolI (binOp .gtr 3 (.int .i64 a) (.int .i64 b))
def strEqI (a b : List Int) : Bool := boolI (binOp .eql 9 (.string (strOfNums a)) (.string (strOfNums b)))
def obPut (s t : Int) (r g : Nat → Int) : Ob := [bo (gtU s 1048576) = FF, bo (gtU s 18446744073709551615) = FF, bo (gtU t 18446744073709551615) = FF, True, bo (gtU (crcI (headInts s t r g)) 4294967295) = FF]
/-- a slice's cells are bytes -/
def okC (p : Prop) (c : List AV) (n : Nat) : Prop := p ∧ numsA c = some (c.map intOf) ∧ (c.map intOf).length = n
def eqOb (p1 : Prop) (c1 : List AV) (n1 : Nat) (p2 : Prop) (c2 : List AV) (n2 : Nat) : Ob := [okC p1 c1 n1, okC p2 c2 n2, bo (strEqI (c1.map intOf) (c2.map intOf)) = TT]
def shlU (a b : Int) : Int := valI (binOp .shl 22 (.int .u64 a) (.int .u64 b))
def orU (a b : Int) : Int := valI (binOp .or 22 (.int .u64 a) (.int .u64 b))
def foldN (l : List Int) : Int := l.foldl (fun n b => orU (shlU n 8) (IntKind.u64.wrap b)) 0
def numN (l : List Int) : Int := l.foldl (fun n b => addU (mulU 256 n) (IntKind.u64.wrap b)) 0
def strNeI (a b : List Int) : Bool := boolI (binOp .neq 9 (.string (strOfNums a)) (.string (strOfNums b)))
def headL (s t : Int) (r g : Nat → Int) : List Int := s :: t :: (rootL r ++ sigL g)
def bC (x : Nat → Int) : List AV := (bL x).map u8
theorem gtU_eq (a b : Int) : gtU a b = decide (a > b) := rfl
theorem gtN_eq (a b : Int) : gtN a b = decide (a > b) := rfl
theorem strEqI_self (l : List Int) : strEqI l l = true := by
  show ((strOfNums l).toList == (strOfNums l).toList) = true
  simp
theorem strNeI_eq (a b : List Int) : strNeI a b = !strEqI a b := rfl
theorem map_intOf (A : List Int) : (A.map u8).map intOf = A := by
  induction A with
  | nil => rfl
  | cons a r ih => simp only [List.map_cons, ih]; rfl
theorem numsA_u8 (A : List Int) : numsA (A.map u8) = some ((A.map u8).map intOf) := by
  rw [map_intOf]
  induction A with
  | nil => rfl
  | cons a r ih =>
    show (numsA (r.map u8)).map (a :: ·) = some (a :: r)
    rw [ih]; rfl
theorem exP_u8 (A : List Int) (L : Nat) (h : L = A.length) : exP (A.map u8) 0 L 1 := ⟨rfl, by simp [h]⟩
theorem okC_ex (A : List Int) (L : Nat) (h : L = A.length) : okC (exP (A.map u8) 0 L 1) (A.map u8) L :=
  ⟨exP_u8 A L h, numsA_u8 A, by rw [map_intOf, h]⟩
theorem okC_tr (A : List Int) (L : Nat) (h : L = A.length) : okC True (A.map u8) L :=
  ⟨trivial, numsA_u8 A, by rw [map_intOf, h]⟩
theorem growP_u8 (A : List Int) (n len : Nat) (h : n = A.length) (h0 : n ≠ 0) (hb : len + n ≤ 140737488355328) : growP n len 1 1 (A.map u8) false :=
  ⟨⟨by simp [h], fun h => by cases h⟩, h0, by omega, by omega⟩
theorem exP_nil : exP [] 0 0 1 := ⟨rfl, rfl⟩
theorem wrap_range (k : Int) : 0 ≤ IntKind.u64.wrap k ∧ IntKind.u64.wrap k ≤ 18446744073709551615 := by
  rw [IntKind.wrap_u64]; omega
theorem orU_eq (a b : Int) : orU a b = IntKind.u64.wrap ((BitVec.ofInt 64 a ||| BitVec.ofInt 64 b).toNat : Int) := rfl
theorem orU_nat (m b : Nat) (hm : m < 2 ^ 56) (hb : b < 256) : orU (shlU (m : Int) 8) (IntKind.u64.wrap (b : Int)) = ((m * 256 + b : Nat) : Int) := by
  have h1 : shlU (m : Int) 8 = ((m * 256 : Nat) : Int) := by
    have : shlU (m : Int) 8 = IntKind.u64.wrap ((m : Int) * 2 ^ 8) := rfl
    rw [this, IntWalk.u64_in _ (by omega)]
    omega
  rw [h1, IntWalk.u64_in (b : Int) (by omega), orU_eq]
  have h2 : ((BitVec.ofInt 64 ((m * 256 : Nat) : Int) ||| BitVec.ofInt 64 (b : Int)).toNat) = m * 256 + b := by
    rw [BitVec.toNat_or, BitVec.ofInt_natCast, BitVec.ofInt_natCast, BitVec.toNat_ofNat, BitVec.toNat_ofNat, Nat.mod_eq_of_lt (by omega), Nat.mod_eq_of_lt (by omega)]
    have := Nat.shiftLeft_add_eq_or_of_lt (show b < 2 ^ 8 by omega) m
    rw [Nat.shiftLeft_eq, show (2 : Nat) ^ 8 = 256 from rfl] at this
    omega
  rw [h2, IntWalk.u64_in _ (by omega)]
theorem addmul_nat (m b : Nat) (hm : m < 2 ^ 56) (hb : b < 256) : addU (mulU 256 (m : Int)) (IntKind.u64.wrap (b : Int)) = ((m * 256 + b : Nat) : Int) := by
  have h1 : mulU 256 (m : Int) = ((m * 256 : Nat) : Int) := by
    have : mulU 256 (m : Int) = IntKind.u64.wrap (256 * (m : Int)) := rfl
    rw [this, IntWalk.u64_in _ (by omega)]
    omega
  rw [h1, IntWalk.u64_in (b : Int) (by omega)]
  have : addU ((m * 256 : Nat) : Int) (b : Int) = IntKind.u64.wrap (((m * 256 : Nat) : Int) + (b : Int)) := rfl
  rw [this, IntWalk.u64_in _ (by omega)]
  omega
theorem fold_step (m b l : Nat) (hb : b < 256) (hn : m < 2 ^ (64 - 8 * (l + 1))) (hl : l + 1 ≤ 8) : m < 2 ^ 56 ∧ m * 256 + b < 2 ^ (64 - 8 * l) := by
  have h56 : m < 2 ^ 56 := Nat.lt_of_lt_of_le hn (Nat.pow_le_pow_right (by omega) (by omega))
  refine ⟨h56, ?_⟩
  have e : 64 - 8 * (l + 1) + 8 = 64 - 8 * l := by omega
  rw [← e, Nat.pow_add]
  have : m + 1 ≤ 2 ^ (64 - 8 * (l + 1)) := hn
  have := Nat.mul_le_mul_right 256 this
  omega
theorem foldN_nat : ∀ (l : List Nat) (n : Nat), (∀ b ∈ l, b < 256) → n < 2 ^ (64 - 8 * l.length) → l.length ≤ 8 → (l.map Int.ofNat).foldl (fun n b => orU (shlU n 8) (IntKind.u64.wrap b)) (n : Int) = ((l.foldl (fun n b => n * 256 + b) n : Nat) : Int)
  | [], n, _, _, _ => rfl
  | b :: r, n, h, hn, hl => by
    simp only [List.length_cons] at hn hl
    have hb : b < 256 := h b (by simp)
    obtain ⟨h56, hs⟩ := fold_step n b r.length hb hn hl
    simp only [List.map_cons, List.foldl_cons]
    rw [show (Int.ofNat b) = (b : Int) from rfl, orU_nat n b h56 hb]
    exact foldN_nat r _ (fun c hc => h c (by simp [hc])) hs (by omega)
theorem numN_nat : ∀ (l : List Nat) (n : Nat), (∀ b ∈ l, b < 256) → n < 2 ^ (64 - 8 * l.length) → l.length ≤ 8 → (l.map Int.ofNat).foldl (fun n b => addU (mulU 256 n) (IntKind.u64.wrap b)) (n : Int) = ((l.foldl (fun n b => n * 256 + b) n : Nat) : Int)
  | [], n, _, _, _ => rfl
  | b :: r, n, h, hn, hl => by
    simp only [List.length_cons] at hn hl
    have hb : b < 256 := h b (by simp)
    obtain ⟨h56, hs⟩ := fold_step n b r.length hb hn hl
    simp only [List.map_cons, List.foldl_cons]
    rw [show (Int.ofNat b) = (b : Int) from rfl, addmul_nat n b h56 hb]
    exact numN_nat r _ (fun c hc => h c (by simp [hc])) hs (by omega)
theorem num_fold (l : List Int) (hl : l.length = 8) (hb : bytesP l) : numN l = foldN l := by
  have e := toNats hb
  have hb' : ∀ b ∈ l.map Int.toNat, b < 256 := fun b hx => by
    obtain ⟨z, hz, rfl⟩ := List.mem_map.1 hx
    have := hb z hz
    omega
  have h1 := numN_nat (l.map Int.toNat) 0 hb' (by simp [hl]) (by simp [hl])
  have h2 := foldN_nat (l.map Int.toNat) 0 hb' (by simp [hl]) (by simp [hl])
  rw [← e] at h1 h2
  unfold numN foldN
  rw [show (0 : Int) = ((0 : Nat) : Int) from rfl, h1, h2]
theorem foldN_range (l : List Int) : 0 ≤ foldN l ∧ foldN l ≤ 18446744073709551615 := by
  unfold foldN
  have : ∀ (l : List Int) (n : Int), 0 ≤ n ∧ n ≤ 18446744073709551615 → 0 ≤ l.foldl (fun n b => orU (shlU n 8) (IntKind.u64.wrap b)) n ∧ l.foldl (fun n b => orU (shlU n 8) (IntKind.u64.wrap b)) n ≤ 18446744073709551615 := by
    intro l
    induction l with
    | nil => intro n h; exact h
    | cons b r ih => intro n _; exact ih _ (by simp only [orU_eq]; exact wrap_range _)
  exact this l 0 (by omega)
theorem obPut_ok (s t : Int) (r g : Nat → Int) (hs : 0 ≤ s ∧ s ≤ 1048576) (ht : 0 ≤ t ∧ t ≤ 18446744073709551615) : (obPut s t r g).ok := by
  have hc := crcI_range (headInts s t r g)
  unfold obPut
  simp only [Ob.ok_cons, Ob.ok_nil, gtU_eq, and_true, true_and]
  refine ⟨ob_F ?_, ob_F ?_, ob_F ?_, ob_F ?_⟩ <;> simp <;> omega
theorem form_len (s t : Int) (r g : Nat → Int) : (formInts s t r g).length = 120 := by
  simp [formInts, headInts, be8, be4, rootL, sigL]
theorem bL_len (x : Nat → Int) : (bL x).length = 120 := by simp [bL]
theorem awake_ev : isTrue (evCall E0 ovK 1000000 15 [] st00) = true := by kernel_rfl
theorem closed_calls {f k : Nat} (h : isTrue (evCall E0 ovK k f [] st00) = true) (st : St) : ACalls Try.prog f [] (fun a st' => a = TT ∧ st' = st) st := fun g w us hok hv => by
  obtain rfl : us = [] := List.eq_nil_of_length_eq_zero hv.1
  exact (closed h w).mono fun e w' ⟨he, hb⟩ => ⟨g, st, TT, .bool true, he, step_below hok hb, .val _ rfl, rfl, rfl⟩
theorem ovL_ok : ∀ f args st r st' p, ovL f args st = some (r, st', p) → p → ACalls Try.prog f args (fun a s => a = r ∧ s = st') st := by
  intro f args st r st' p h hp
  unfold ovL at h
  split at h
  · rename_i hf
    subst hf
    split at h
    · cases h
      exact closed_calls awake_ev st
    · cases h
  · split at h
    · exact sumP_ok f args st r st' p h hp
    · obtain ⟨q, hq, he⟩ := Option.map_eq_some_iff.1 h
      cases he
      exact (ovK_ok f args st q hq).mono fun a s e => by rw [← e]; exact ⟨rfl, rfl⟩
end F
end
section
set_option maxRecDepth 100000
namespace F
/-! ### Put and Take of both, run at the empty store -/
def slF (st : St) : AV → Option (Nat × Nat × Nat × AV × Option AObj)
  | .tup [.sl id sz off len _, e] => some (sz, off, len, e, st.get id)
  | _ => none
noncomputable def cfEv (f : Nat) (args : List AV) (x : List AV) := (evCallS E0 ovL sitesL 100000 f args st00 x).map fun q => (slF q.2.1 q.1, q.2.1.lock, q.2.1.gl, q.2.2.2)
noncomputable def tkEv (f : Nat) (args : List AV) (x : List AV) := (evCallS E0 ovL sitesL 100000 f args st00 x).map fun q => (q.1, q.2.1.lock, q.2.1.gl, q.2.2.2)
theorem put11 (s t : Int) (r g : Nat → Int) : cfEv 11 [.agg (headCells s t r g)] orPut = some (some (1, 0, 120, i64 0, some (.row ((formInts s t r g).map u8) 5)), [], [], obPut s t r g) := by kernel_rfl
theorem put12 (s t : Int) (r g : Nat → Int) : cfEv 12 [.agg (headCells s t r g)] (orPutR s t r g) = some (some (1, 0, 120, i64 0, some (.row ((formInts s t r g).map u8) 5)), [], [], obPutR s t r g) := by kernel_rfl
theorem put11B (s t : Int) (r g : Nat → Int) : tkEv 11 [.agg (headCells s t r g)] [TT] = some (.tup [.nils, i64 1], [], [], [bo (gtU s 1048576) = TT]) := by kernel_rfl
theorem put12B (s t : Int) (r g : Nat → Int) : tkEv 12 [.agg (headCells s t r g)] [TT] = some (.tup [.nils, i64 1], [], [], [bo (gtU s 1048576) = TT]) := by kernel_rfl
def zeroC : List AV := headCells 0 0 (fun _ => 0) (fun _ => 0)
theorem tk13A (x : Nat → Int) (full : Bool) (s' t' : Int) : tkEv 13 [.imm 1 120 full (bC x)] ([FF, FF, u64 s', u64 t'] ++ [TT]) = some (.tup [.agg zeroC, i64 5], [], [], [FF = FF, FF = FF, u64 (foldN (bS x)) = u64 s', u64 (foldN (bT x)) = u64 t', bo (gtU s' 1048576) = TT]) := by kernel_rfl
theorem tk13B (x : Nat → Int) (full : Bool) (s' t' : Int) : tkEv 13 [.imm 1 120 full (bC x)] ([FF, FF, u64 s', u64 t'] ++ orPut ++ [FF]) = some (.tup [.agg zeroC, i64 5], [], [], [FF = FF, FF = FF, u64 (foldN (bS x)) = u64 s', u64 (foldN (bT x)) = u64 t'] ++ obPut s' t' (bR x) (bG x) ++ [okC (exP ((formInts s' t' (bR x) (bG x)).map u8) 0 120 1) ((formInts s' t' (bR x) (bG x)).map u8) 120, okC True (bC x) 120, bo (strEqI (((formInts s' t' (bR x) (bG x)).map u8).map intOf) ((bC x).map intOf)) = FF]) := by kernel_rfl
theorem tk13C (x : Nat → Int) (full : Bool) (s' t' : Int) : tkEv 13 [.imm 1 120 full (bC x)] ([FF, FF, u64 s', u64 t'] ++ orPut ++ [TT]) = some (.tup [.agg (headCells s' t' (bR x) (bG x)), i64 0], [], [], [FF = FF, FF = FF, u64 (foldN (bS x)) = u64 s', u64 (foldN (bT x)) = u64 t'] ++ obPut s' t' (bR x) (bG x) ++ [okC (exP ((formInts s' t' (bR x) (bG x)).map u8) 0 120 1) ((formInts s' t' (bR x) (bG x)).map u8) 120, okC True (bC x) 120, bo (strEqI (((formInts s' t' (bR x) (bG x)).map u8).map intOf) ((bC x).map intOf)) = TT]) := by kernel_rfl
theorem tk14A (x : Nat → Int) (full : Bool) (s' t' : Int) : tkEv 14 [.imm 1 120 full (bC x)] ([FF, FF, u64 s', u64 t'] ++ [TT]) = some (.tup [.agg zeroC, i64 5], [], [], [FF = FF, FF = FF, u64 (numN (bS x)) = u64 s', u64 (numN (bT x)) = u64 t', bo (gtU s' 1048576) = TT]) := by kernel_rfl
theorem tk14B (x : Nat → Int) (full : Bool) (s' t' : Int) : tkEv 14 [.imm 1 120 full (bC x)] ([FF, FF, u64 s', u64 t'] ++ orPutR s' t' (bR x) (bG x) ++ [TT]) = some (.tup [.agg zeroC, i64 5], [], [], [FF = FF, FF = FF, u64 (numN (bS x)) = u64 s', u64 (numN (bT x)) = u64 t'] ++ obPutR s' t' (bR x) (bG x) ++ [bo (strNeI (formInts s' t' (bR x) (bG x)) (bL x)) = TT]) := by kernel_rfl
theorem tk14C (x : Nat → Int) (full : Bool) (s' t' : Int) : tkEv 14 [.imm 1 120 full (bC x)] ([FF, FF, u64 s', u64 t'] ++ orPutR s' t' (bR x) (bG x) ++ [FF]) = some (.tup [.agg (headCells s' t' (bR x) (bG x)), i64 0], [], [], [FF = FF, FF = FF, u64 (numN (bS x)) = u64 s', u64 (numN (bT x)) = u64 t'] ++ obPutR s' t' (bR x) (bG x) ++ [bo (strNeI (formInts s' t' (bR x) (bG x)) (bL x)) = FF]) := by kernel_rfl
end F
end
section
set_option maxRecDepth 100000
namespace F
theorem tk13S (n : Nat) (full : Bool) (cells : List AV) : tkEv 13 [.imm 1 n full cells] [TT] = some (.tup [.agg zeroC, i64 4], [], [], [bo (ltN n 120) = TT]) := by kernel_rfl
theorem tk13L (n : Nat) (full : Bool) (cells : List AV) : tkEv 13 [.imm 1 n full cells] [FF, TT] = some (.tup [.agg zeroC, i64 3], [], [], [bo (ltN n 120) = FF, bo (gtN n 120) = TT]) := by kernel_rfl
theorem tk13N : tkEv 13 [.nils] [TT] = some (.tup [.agg zeroC, i64 4], [], [], [bo (ltN 0 120) = TT]) := by kernel_rfl
theorem tk14S (n : Nat) (full : Bool) (cells : List AV) : tkEv 14 [.imm 1 n full cells] [TT] = some (.tup [.agg zeroC, i64 4], [], [], [bo (ltN n 120) = TT]) := by kernel_rfl
theorem tk14L (n : Nat) (full : Bool) (cells : List AV) : tkEv 14 [.imm 1 n full cells] [FF, TT] = some (.tup [.agg zeroC, i64 3], [], [], [bo (ltN n 120) = FF, bo (gtN n 120) = TT]) := by kernel_rfl
theorem tk14N : tkEv 14 [.nils] [TT] = some (.tup [.agg zeroC, i64 4], [], [], [bo (ltN 0 120) = TT]) := by kernel_rfl
/-- what a run at the empty store leaves is forgotten; bytes become a value -/
theorem put_small {f : Nat} {args x : List AV} {n : Nat} {e : AV} {cs : List AV} {ob : Ob} (h : cfEv f args x = some (some (1, 0, n, e, some (.row cs 5)), [], [], ob)) (hob : ob.ok) (hn : cs.length = n) (he : ∃ v, e = .val v) :
    ∃ N fl, ACalls Try.prog f args (fun a s => a = .tup [.imm 1 n fl cs, e] ∧ s = ⟨N, .nil, [], []⟩) st00 := by
  unfold cfEv at h
  obtain ⟨⟨a, st1, x', ob'⟩, h1, h2⟩ := Option.map_eq_some_iff.1 h
  simp only [Prod.mk.injEq] at h2
  obtain ⟨e1, e2, e3, rfl⟩ := h2
  have hc := (evS_ok (E.hE) ovL_ok 100000).call _ _ _ _ _ _ _ _ h1 hob
  unfold slF at e1
  split at e1
  · rename_i id sz off len fl e'
    simp only [Option.some.injEq, Prod.mk.injEq] at e1
    obtain ⟨rfl, rfl, rfl, rfl, hg⟩ := e1
    obtain ⟨v, rfl⟩ := he
    refine ⟨st1.next, fl, ?_⟩
    have h3 := hc.freeze (Q' := fun b s' => b = .tup [.imm 1 len fl cs, .val v] ∧ s'.next = st1.next ∧ s'.lock = [] ∧ s'.gl = []) fun b s' ⟨k1, k2⟩ _ _ => by
      subst k1; subst k2
      refine ⟨id, cs, 5, hg, e2, ?_, rfl, e2, e3⟩
      simp only [frz, frzL, if_true]
      rw [if_pos (by omega), List.drop_zero, List.take_of_length_le (by omega)]
    exact h3.forget fun b s' ⟨k1, k2, k3, k4⟩ _ => ⟨⟨st1.next, .nil, [], []⟩, ⟨k1, rfl⟩, fun i o hi => by simp [St.get, Tr.get] at hi, k2.symm, k3.symm, k4.symm⟩
  · cases e1
theorem val_small {f : Nat} {args x : List AV} {r : AV} {ob : Ob} (h : tkEv f args x = some (r, [], [], ob)) (hob : ob.ok) : ∃ N, ACalls Try.prog f args (fun a s => a = r ∧ s = ⟨N, .nil, [], []⟩) st00 := by
  unfold tkEv at h
  obtain ⟨⟨a, st1, x', ob'⟩, h1, h2⟩ := Option.map_eq_some_iff.1 h
  simp only [Prod.mk.injEq] at h2
  obtain ⟨e1, e2, e3, rfl⟩ := h2
  have hc := (evS_ok (E.hE) ovL_ok 100000).call _ _ _ _ _ _ _ _ h1 hob
  exact ⟨st1.next, hc.forget fun b s' ⟨k1, k2⟩ _ => ⟨⟨st1.next, .nil, [], []⟩, ⟨k1.trans e1, rfl⟩, fun i o hi => by simp [St.get, Tr.get] at hi, by rw [k2], by rw [k2, e2], by rw [k2, e3]⟩⟩
end F
/-- what runs at the empty store, with values alone, runs at each -/
theorem small_val {f : Nat} {args : List AV} {r : AV} {N : Nat} (h : ACalls Try.prog f args (fun a s => a = r ∧ s = ⟨N, .nil, [], []⟩) st00) (ha : ∀ ρ, renL ρ args = args) (hr : ∀ ρ, ren ρ r = r) {st : St} (hw : st.wf) : ∃ st', obC f args st r st' ∧ Rest st st' [] := by
  have hE : Emb st00 st (fun i => st.next + i) :=
    ⟨fun i hi => by show st.next + i = st.next + (i - 0); rfl, fun i hi => absurd hi (Nat.not_lt_zero i), fun i j o o' h => by simp [st00, St.get, Tr.get] at h, fun id o h => by simp [st00, St.get, Tr.get] at h, fun id o h => by simp [st00, St.get, Tr.get] at h, fun id o h => by simp [st00, St.get, Tr.get] at h, fun p hp => by cases hp⟩
  have hfr := h.frame hE
  rw [ha] at hfr
  have hnone : ∀ k, (⟨N, .nil, [], []⟩ : St).get k = none := fun k => by simp [St.get, Tr.get]
  refine ⟨mergeSt ⟨N, .nil, [], []⟩ st st00 (fun i => st.next + i), hfr.mono fun a s hq => ?_, ⟨fun i o _ ho => ?_, Nat.le_add_right _ _, rfl, rfl, fun i o hi => ?_⟩⟩
  · obtain ⟨r0, st0', ⟨h1, h2⟩, h3, h4, _, _⟩ := hq
    subst h1; subst h2
    exact ⟨by rw [h3, hr], h4⟩
  · have hlt := hw _ _ ho
    rw [merge_out hE (k := i) fun j _ _ e => by have e : st.next + j = i := e; omega]
    exact ho
  · show i < st.next + (N - 0)
    rcases merge_cases hE hi with ⟨j, o0, _, _, h3, _⟩ | ⟨h1, _⟩
    · rw [hnone] at h3; cases h3
    · have := hw _ _ h1; omega
/-! ### heads -/
structure HR (s t : Int) (r g : Nat → Int) : Prop where
  s : 0 ≤ s ∧ s ≤ 18446744073709551615
  t : 0 ≤ t ∧ t ≤ 18446744073709551615
  r : ∀ i, i < 32 → 0 ≤ r i ∧ r i < 256
  g : ∀ i, i < 64 → 0 ≤ g i ∧ g i < 256
def putE (s : Int) : Int := if 1048576 < s then 1 else 0
def putB (s t : Int) (r g : Nat → Int) : List Int := if 1048576 < s then [] else F.formInts s t r g
theorem ren_head (s t : Int) (r g : Nat → Int) (ρ : Nat → Nat) : renL ρ [.agg (F.headCells s t r g)] = [.agg (F.headCells s t r g)] := by
  have : renL ρ (F.headCells s t r g) = F.headCells s t r g := by
    refine renL_vals ρ _ fun a ha => ?_
    unfold F.headCells at ha
    simp only [List.mem_cons, List.mem_append, List.mem_map] at ha
    rcases ha with rfl | rfl | ⟨x, _, rfl⟩ | ⟨x, _, rfl⟩ <;> exact ⟨_, rfl⟩
  simp only [renL, ren, this]
theorem ren_imm_u8 (n : Nat) (fl : Bool) (bs : List Int) (ρ : Nat → Nat) : ren ρ (.imm 1 n fl (bs.map u8)) = .imm 1 n fl (bs.map u8) := by
  have : renL ρ (bs.map u8) = bs.map u8 := renL_vals ρ _ fun a ha => by obtain ⟨x, _, rfl⟩ := List.mem_map.1 ha; exact ⟨_, rfl⟩
  simp only [ren, this]
theorem F_gtT {s : Int} (h : 1048576 < s) : F.bo (F.gtU s 1048576) = F.TT := by
  rw [F.gtU_eq]; show AV.val (.bool _) = AV.val (.bool true); rw [decide_eq_true h]
theorem hput_ok {f : Nat} (hf : f = 11 ∨ f = 12) {s t : Int} {r g : Nat → Int} (h : HR s t r g) {st : St} (hw : st.wf) :
    ∃ fv st', obC f [.agg (F.headCells s t r g)] st (.tup [fv, i64 (putE s)]) st' ∧ BV fv (putB s t r g) ∧ Rest st st' [] := by
  unfold putE putB
  by_cases hs : 1048576 < s
  · rw [if_pos hs, if_pos hs]
    obtain ⟨N, hN⟩ : ∃ N, ACalls Try.prog f [.agg (F.headCells s t r g)] (fun a s => a = .tup [.nils, i64 1] ∧ s = ⟨N, .nil, [], []⟩) st00 := by
      rcases hf with rfl | rfl
      · exact F.val_small (F.put11B s t r g) (F.Ob.ok_cons.2 ⟨F_gtT hs, F.Ob.ok_nil⟩)
      · exact F.val_small (F.put12B s t r g) (F.Ob.ok_cons.2 ⟨F_gtT hs, F.Ob.ok_nil⟩)
    obtain ⟨st', h1, h2⟩ := small_val hN (ren_head s t r g) (fun ρ => rfl) hw
    exact ⟨.nils, st', h1, .inl ⟨rfl, rfl⟩, h2⟩
  · rw [if_neg hs, if_neg hs]
    have hlen := F.form_len s t r g
    obtain ⟨N, fl, hN⟩ : ∃ N fl, ACalls Try.prog f [.agg (F.headCells s t r g)] (fun a st => a = .tup [.imm 1 120 fl ((F.formInts s t r g).map u8), i64 0] ∧ st = ⟨N, .nil, [], []⟩) st00 := by
      rcases hf with rfl | rfl
      · exact F.put_small (F.put11 s t r g) (F.obPut_ok s t r g ⟨h.s.1, by omega⟩ h.t) (by rw [List.length_map]; exact hlen) ⟨_, rfl⟩
      · exact F.put_small (F.put12 s t r g) (F.obPutR_ok s t r g ⟨h.s.1, by omega⟩ h.t h.r h.g) (by rw [List.length_map]; exact hlen) ⟨_, rfl⟩
    obtain ⟨st', h1, h2⟩ := small_val hN (ren_head s t r g) (fun ρ => by have := ren_imm_u8 120 fl (F.formInts s t r g) ρ; simp only [ren] at this; simp only [ren, renL, this]) hw
    exact ⟨_, st', h1, .inr ⟨fl, by rw [hlen]⟩, h2⟩
end
section
set_option maxRecDepth 4000
theorem F_bT {b : Bool} (h : b = true) : F.bo b = F.TT := by rw [h]; rfl
theorem F_bF {b : Bool} (h : b = false) : F.bo b = F.FF := by rw [h]; rfl
theorem hr_zero : HR 0 0 (fun _ => 0) (fun _ => 0) := ⟨⟨by omega, by omega⟩, ⟨by omega, by omega⟩, fun i _ => ⟨by omega, by omega⟩, fun i _ => ⟨by omega, by omega⟩⟩
theorem bL_getD {bs : List Int} (h : bs.length = 120) : F.bL (fun i => bs.getD i 0) = bs := by
  unfold F.bL
  refine List.ext_getElem? fun i => ?_
  rw [List.getElem?_map]
  by_cases hi : i < 120
  · rw [List.getElem?_range hi, Option.map_some, List.getD_eq_getElem?_getD, List.getElem?_eq_getElem (by omega)]; rfl
  · rw [List.getElem?_eq_none (by simp; omega), List.getElem?_eq_none (by omega)]; rfl
theorem ren_b {b : AV} {bs : List Int} (h : BV b bs) (ρ : Nat → Nat) : renL ρ [b] = [b] := by
  rcases h with ⟨_, rfl⟩ | ⟨fl, rfl⟩
  · rfl
  · simp only [renL, ren_imm_u8]
theorem ren_res (s t : Int) (r g : Nat → Int) (e : Int) (ρ : Nat → Nat) : ren ρ (.tup [.agg (F.headCells s t r g), i64 e]) = .tup [.agg (F.headCells s t r g), i64 e] := by
  have := ren_head s t r g ρ
  simp only [renL, List.cons.injEq, and_true] at this
  simp only [ren, renL]
  simp only [ren] at this
  rw [this]
theorem take_ok {bs : List Int} (hby : F.bytesP bs) : ∃ (er s t : Int) (r g : Nat → Int), HR s t r g ∧ ∀ {f : Nat} {b : AV}, (f = 13 ∨ f = 14) → BV b bs → ∀ {st : St}, st.wf → ∃ st', obC f [b] st (.tup [.agg (F.headCells s t r g), i64 er]) st' ∧ Rest st st' [] := by
  have fin : ∀ {er s t : Int} {r g : Nat → Int}, HR s t r g → (∀ {f : Nat} {b : AV}, (f = 13 ∨ f = 14) → BV b bs → ∃ N, ACalls Try.prog f [b] (fun a s' => a = .tup [.agg (F.headCells s t r g), i64 er] ∧ s' = ⟨N, .nil, [], []⟩) st00) →
      ∃ (er s t : Int) (r g : Nat → Int), HR s t r g ∧ ∀ {f : Nat} {b : AV}, (f = 13 ∨ f = 14) → BV b bs → ∀ {st : St}, st.wf → ∃ st', obC f [b] st (.tup [.agg (F.headCells s t r g), i64 er]) st' ∧ Rest st st' [] := fun h k => ⟨_, _, _, _, _, h, fun hf hb _ hw => by
    obtain ⟨N, hN⟩ := k hf hb
    exact small_val hN (ren_b hb) (ren_res _ _ _ _ _) hw⟩
  by_cases h1 : bs.length < 120
  · refine fin (er := 4) hr_zero fun {f b} hf hb => ?_
    have hl : F.bo (F.ltN (bs.length : Int) 120) = F.TT := F_bT (by show decide _ = true; exact decide_eq_true (by omega))
    have hl0 : F.bo (F.ltN 0 120) = F.TT := F_bT rfl
    rcases hb with ⟨_, rfl⟩ | ⟨fl, rfl⟩ <;> rcases hf with rfl | rfl
    · exact F.val_small F.tk13N (F.Ob.ok_cons.2 ⟨hl0, F.Ob.ok_nil⟩)
    · exact F.val_small F.tk14N (F.Ob.ok_cons.2 ⟨hl0, F.Ob.ok_nil⟩)
    · exact F.val_small (F.tk13S _ _ _) (F.Ob.ok_cons.2 ⟨hl, F.Ob.ok_nil⟩)
    · exact F.val_small (F.tk14S _ _ _) (F.Ob.ok_cons.2 ⟨hl, F.Ob.ok_nil⟩)
  have hl : F.bo (F.ltN (bs.length : Int) 120) = F.FF := F_bF (by show decide _ = false; exact decide_eq_false (by omega))
  by_cases h2 : 120 < bs.length
  · refine fin (er := 3) hr_zero fun {f b} hf hb => ?_
    have hg : F.bo (F.gtN (bs.length : Int) 120) = F.TT := F_bT (by show decide _ = true; exact decide_eq_true (by omega))
    rcases hb with ⟨h, _⟩ | ⟨fl, rfl⟩
    · rw [h] at h2; simp at h2
    rcases hf with rfl | rfl
    · exact F.val_small (F.tk13L _ _ _) (F.Ob.ok_cons.2 ⟨hl, F.Ob.ok_cons.2 ⟨hg, F.Ob.ok_nil⟩⟩)
    · exact F.val_small (F.tk14L _ _ _) (F.Ob.ok_cons.2 ⟨hl, F.Ob.ok_cons.2 ⟨hg, F.Ob.ok_nil⟩⟩)
  have hlen : bs.length = 120 := by omega
  have hx := bL_getD hlen
  generalize hxd : (fun i => bs.getD i 0) = x at hx
  have hxr : ∀ i, i < 120 → 0 ≤ x i ∧ x i < 256 := fun i hi => by
    have : x i ∈ bs := by rw [← hx]; exact List.mem_map.2 ⟨i, List.mem_range.2 hi, rfl⟩
    exact hby _ this
  have hbv : ∀ {b : AV}, BV b bs → ∃ fl, b = .imm 1 120 fl (F.bC x) := fun hb => by
    rcases hb with ⟨h, _⟩ | ⟨fl, rfl⟩
    · rw [h] at hlen; simp at hlen
    · exact ⟨fl, by rw [hlen, F.bC, hx]; rfl⟩
  have hS := F.num_fold (F.bS x) rfl (fun y hy => by
    simp only [F.bS, List.mem_cons, List.not_mem_nil, or_false] at hy
    rcases hy with rfl | rfl | rfl | rfl | rfl | rfl | rfl | rfl <;> exact hxr _ (by omega))
  have hT := F.num_fold (F.bT x) rfl (fun y hy => by
    simp only [F.bT, List.mem_cons, List.not_mem_nil, or_false] at hy
    rcases hy with rfl | rfl | rfl | rfl | rfl | rfl | rfl | rfl <;> exact hxr _ (by omega))
  have rS := F.foldN_range (F.bS x)
  have rT := F.foldN_range (F.bT x)
  have hH : HR (F.foldN (F.bS x)) (F.foldN (F.bT x)) (F.bR x) (F.bG x) := ⟨rS, rT, fun i hi => hxr _ (by omega), fun i hi => hxr _ (by omega)⟩
  generalize hs0 : F.foldN (F.bS x) = s at *
  generalize ht0 : F.foldN (F.bT x) = t at *
  by_cases hm : 1048576 < s
  · refine fin (er := 5) hr_zero fun {f b} hf hb => ?_
    obtain ⟨fl, rfl⟩ := hbv hb
    rcases hf with rfl | rfl
    · exact F.val_small (F.tk13A x fl s t) (by simp only [F.Ob.ok_cons, F.Ob.ok_nil, and_true, true_and]; exact ⟨by rw [hs0], by rw [ht0], F_gtT hm⟩)
    · exact F.val_small (F.tk14A x fl s t) (by simp only [F.Ob.ok_cons, F.Ob.ok_nil, and_true, true_and]; exact ⟨by rw [hS], by rw [hT], F_gtT hm⟩)
  have hP := F.obPut_ok s t (F.bR x) (F.bG x) ⟨rS.1, by omega⟩ rT
  have hPR := F.obPutR_ok s t (F.bR x) (F.bG x) ⟨rS.1, by omega⟩ rT hH.r hH.g
  have o1 := F.okC_ex (F.formInts s t (F.bR x) (F.bG x)) 120 (F.form_len _ _ _ _).symm
  have o2 := F.okC_tr (F.bL x) 120 (F.bL_len x).symm
  have hne := F.strNeI_eq (F.formInts s t (F.bR x) (F.bG x)) (F.bL x)
  have hme : ∀ l : List Int, (l.map F.u8).map F.intOf = l := F.map_intOf
  cases he : F.strEqI (F.formInts s t (F.bR x) (F.bG x)) (F.bL x) with
  | false =>
    rw [he] at hne
    refine fin (er := 5) hr_zero fun {f b} hf hb => ?_
    obtain ⟨fl, rfl⟩ := hbv hb
    rcases hf with rfl | rfl
    · refine F.val_small (F.tk13B x fl s t) ?_
      rw [F.Ob.ok_append, F.Ob.ok_append]
      refine ⟨⟨?_, hP⟩, ?_⟩
      · simp only [F.Ob.ok_cons, F.Ob.ok_nil, and_true, true_and]; exact ⟨by rw [hs0], by rw [ht0]⟩
      · simp only [F.Ob.ok_cons, F.Ob.ok_nil, and_true]
        exact ⟨o1, o2, by rw [F.bC, hme, hme]; exact F_bF he⟩
    · refine F.val_small (F.tk14B x fl s t) ?_
      rw [F.Ob.ok_append, F.Ob.ok_append]
      refine ⟨⟨?_, hPR⟩, ?_⟩
      · simp only [F.Ob.ok_cons, F.Ob.ok_nil, and_true, true_and]; exact ⟨by rw [hS], by rw [hT]⟩
      · simp only [F.Ob.ok_cons, F.Ob.ok_nil, and_true]
        exact F_bT hne
  | true =>
    rw [he] at hne
    refine fin (er := 0) hH fun {f b} hf hb => ?_
    obtain ⟨fl, rfl⟩ := hbv hb
    rcases hf with rfl | rfl
    · refine F.val_small (F.tk13C x fl s t) ?_
      rw [F.Ob.ok_append, F.Ob.ok_append]
      refine ⟨⟨?_, hP⟩, ?_⟩
      · simp only [F.Ob.ok_cons, F.Ob.ok_nil, and_true, true_and]; exact ⟨by rw [hs0], by rw [ht0]⟩
      · simp only [F.Ob.ok_cons, F.Ob.ok_nil, and_true]
        exact ⟨o1, o2, by rw [F.bC, hme, hme]; exact F_bT he⟩
    · refine F.val_small (F.tk14C x fl s t) ?_
      rw [F.Ob.ok_append, F.Ob.ok_append]
      refine ⟨⟨?_, hPR⟩, ?_⟩
      · simp only [F.Ob.ok_cons, F.Ob.ok_nil, and_true, true_and]; exact ⟨by rw [hS], by rw [hT]⟩
      · simp only [F.Ob.ok_cons, F.Ob.ok_nil, and_true]
        exact F_bF hne
end
end Go.Proofs.Ytniaiciabfdbnaa.E
