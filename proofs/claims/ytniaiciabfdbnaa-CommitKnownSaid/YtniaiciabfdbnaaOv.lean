/- What this seat's loops and the map's range come to, over the abstract machine: Disk.Used sums the files' lengths in whatever order; crc.More is a fold. No condition beyond those that the lemmas name. -/
import Derived.Test.YtniaiciabfdbnaaEm
import Derived.Test.YtniaiciabfdbnaaChecked
import Derived.KernelRfl
import Derived.IntWalk
import Derived.Below
namespace Go.Proofs.Ytniaiciabfdbnaa.E
open Go Go.Proofs
set_option maxRecDepth 4000
noncomputable abbrev E0 := envOf Try.prog
theorem ty3 : E0.ty 3 = some ⟨.int .i64, 1, 8, some (.int .i64 0)⟩ := by kernel_rfl
theorem ty4 : E0.ty 4 = some ⟨.bool, 1, 1, some (.bool false)⟩ := by kernel_rfl
theorem ty101 : E0.ty 101 = some ⟨.map 9 105, 1, 8, some (.map none)⟩ := by kernel_rfl
theorem ty28 : E0.ty 28 = some ⟨.slice 5, 1, 24, some (.slice none 0 0)⟩ := by kernel_rfl
theorem ty105 : (E0.ty 105) = some ⟨.struct
      #[{ name := "data", type := 28, offset := 0, embedded := false, tag := "", pkgPath := "escritoire/files",
          byteOffset := 0 },
        { name := "last", type := 3, offset := 1, embedded := false, tag := "", pkgPath := "escritoire/files",
          byteOffset := 24 }], 2, 32, some (.agg #[.slice none 0 0, .int .i64 0])⟩ := by kernel_rfl
theorem ty103 : (E0.ty 103) = some ⟨.struct
      #[{ name := "files", type := 101, offset := 0, embedded := false, tag := "", pkgPath := "escritoire/files",
          byteOffset := 0 },
        { name := "quota", type := 3, offset := 1, embedded := false, tag := "", pkgPath := "escritoire/files",
          byteOffset := 8 },
        { name := "fuse", type := 3, offset := 2, embedded := false, tag := "", pkgPath := "escritoire/files",
          byteOffset := 16 },
        { name := "off", type := 4, offset := 3, embedded := false, tag := "", pkgPath := "escritoire/files",
          byteOffset := 24 }], 4, 32, some (.agg #[.map none, .int .i64 0, .int .i64 0, .bool false])⟩ := by kernel_rfl
theorem ty41 : E0.ty 41 = some ⟨.pointer 103, 1, 8, some (.pointer none)⟩ := by kernel_rfl
theorem zero105 : zeroA E0 105 = some [.nils, .val (.int .i64 0)] := by kernel_rfl
theorem size105 : tySize E0 105 = some 2 := by kernel_rfl
theorem size28 : tySize E0 28 = some 1 := by kernel_rfl
def lenV : AV → Nat | .sl _ _ _ l _ => l | .imm _ l _ _ => l | _ => 0
def isSlice : AV → Bool | .nils | .sl .. | .imm .. => true | _ => false
def okFile : AV → Bool | .agg [a, _] => isSlice a | _ => false
def lenFile : AV → Nat | .agg (a :: _) => lenV a | _ => 0

theorem sum_filter (f : Nat → Nat) (p : Nat → Bool) (i : Nat) : ∀ (l : List Nat), l.Nodup → i ∈ l.filter p → ((l.filter p).map f).sum = f i + ((l.filter fun x => p x && !(x == i)).map f).sum
  | [], _, h => by simp at h
  | a :: r, hn, h => by
    obtain ⟨h1, h2⟩ := List.nodup_cons.1 hn
    by_cases ha : a = i
    · subst ha
      have hp : p a = true := (List.mem_filter.1 h).2
      have hr : (r.filter fun x => p x && !(x == a)) = r.filter p := by
        apply List.filter_congr
        intro x hx
        have : x ≠ a := fun e => h1 (e ▸ hx)
        simp [this]
      simp [List.filter_cons, hp, hr]
    · have hi : i ∈ r.filter p := by
        obtain ⟨m1, m2⟩ := List.mem_filter.1 h
        refine List.mem_filter.2 ⟨?_, m2⟩
        rcases List.mem_cons.1 m1 with e | e
        · exact absurd e.symm ha
        · exact e
      have ih := sum_filter f p i r h2 hi
      by_cases hp : p a = true
      · simp [List.filter_cons, hp, ha, ih]; omega
      · simp [List.filter_cons, hp, ih]

theorem getD_inj {bs : List Nat} (hn : bs.Nodup) {i j : Nat} (hi : i < bs.length) (hj : j < bs.length) (h : bs.getD i 0 = bs.getD j 0) : i = j := by
  simp only [List.getD_eq_getElem?_getD, List.getElem?_eq_getElem hi, List.getElem?_eq_getElem hj, Option.getD_some] at h
  have hp := List.pairwise_iff_getElem.1 hn
  rcases Nat.lt_trichotomy i j with hlt | he | hlt
  · exact absurd h (hp i j hi hj hlt)
  · exact he
  · exact absurd h.symm (hp j i hj hi hlt)

theorem filter_sing {i : Nat} : ∀ (l : List Nat), l.Nodup → i ∈ l → (l.filter fun j => j == i) = [i]
  | [], _, h => by simp at h
  | a :: r, hn, h => by
    obtain ⟨h1, h2⟩ := List.nodup_cons.1 hn
    by_cases ha : a = i
    · subst ha
      have : (r.filter fun j => j == a) = [] := by
        rw [List.filter_eq_nil_iff]
        intro x hx
        have : x ≠ a := fun e => h1 (e ▸ hx)
        simpa using this
      simp [this]
    · rcases List.mem_cons.1 h with e | e
      · exact absurd e.symm ha
      · simp [ha, filter_sing r h2 e]

theorem toCome_snoc {bs seen : List Nat} (hn : bs.Nodup) {i : Nat} (hi : i < bs.length) : toCome bs (seen ++ [bs.getD i 0]) = (List.range bs.length).filter fun x => (!seen.contains (bs.getD x 0)) && !(x == i) := by
  unfold toCome
  apply List.filter_congr
  intro x hx
  have hx' := List.mem_range.1 hx
  have : (bs.getD x 0 == bs.getD i 0) = (x == i) := by
    by_cases e : x = i
    · subst e; simp
    · have : bs.getD x 0 ≠ bs.getD i 0 := fun h => e (getD_inj hn hx' hi h)
      rw [beq_eq_false_iff_ne.2 this, beq_eq_false_iff_ne.2 e]
  rw [List.contains_append]
  simp only [Bool.not_or, List.contains_cons, List.contains_nil, Bool.or_false, this]

theorem toCome_sum {bs seen : List Nat} (hn : bs.Nodup) {i : Nat} (hi : i ∈ toCome bs seen) (f : Nat → Nat) : ((toCome bs seen).map f).sum = f i + ((toCome bs (seen ++ [bs.getD i 0])).map f).sum := by
  have hil : i < bs.length := List.mem_range.1 (List.mem_filter.1 hi).1
  rw [toCome_snoc hn hil]
  exact sum_filter f _ i _ List.nodup_range hi

theorem filter_one {bs : List Nat} (hn : bs.Nodup) {i : Nat} (hi : i < bs.length) : ((List.range bs.length).filter fun j => some (bs.getD j 0) == some (bs.getD i 0)) = [i] := by
  have h1 : ((List.range bs.length).filter fun j => some (bs.getD j 0) == some (bs.getD i 0)) = (List.range bs.length).filter fun j => j == i := by
    apply List.filter_congr
    intro x hx
    have hx' := List.mem_range.1 hx
    by_cases e : x = i
    · subst e; simp
    · have : bs.getD x 0 ≠ bs.getD i 0 := fun h => e (getD_inj hn hx' hi h)
      rw [beq_eq_false_iff_ne.2 e, beq_eq_false_iff_ne]
      intro h; exact this (by injection h)
  rw [h1]
  have := List.nodup_range (n := bs.length)
  have hm : i ∈ List.range bs.length := List.mem_range.2 hi
  exact filter_sing _ this hm
def valI (s : Sem Value) : Int := match s with | .pure (.int _ n) => n | _ => 0
def crcBit (n : Int) : Int := valI (Op.intBits .xor .u32 (valI (Op.shift .shr .u32 n .u64 1)) (valI (Op.intBits .and .u32 3988292384 (valI (Op.intArith .sub .u32 0 (valI (Op.intBits .and .u32 n 1)))))))
def iter8 (f : Int → Int) : Nat → Int → Int
  | 0, n => n
  | k + 1, n => iter8 f k (f n)
def crcByte (n x : Int) : Int := iter8 crcBit 8 (valI (Op.intBits .xor .u32 n (IntKind.u32.wrap x)))
def crcMore (c : Int) (xs : List Int) : Int := valI (Op.intBits .xor .u32 IntKind.u32.max (xs.foldl crcByte (valI (Op.intBits .xor .u32 IntKind.u32.max c))))
theorem ty88 : E0.ty 88 = some ⟨.int .u32, 1, 4, some (.int .u32 0)⟩ := by kernel_rfl
theorem ty5 : E0.ty 5 = some ⟨.int .u8, 1, 1, some (.int .u8 0)⟩ := by kernel_rfl
theorem b_xor (a b : Int) : binA E0 .xor 88 (.val (.int .u32 a)) (.val (.int .u32 b)) = some (.val (.int .u32 (valI (Op.intBits .xor .u32 a b)))) := rfl
theorem b_and (a b : Int) : binA E0 .and 88 (.val (.int .u32 a)) (.val (.int .u32 b)) = some (.val (.int .u32 (valI (Op.intBits .and .u32 a b)))) := rfl
theorem b_shr (a : Int) : binA E0 .shr 88 (.val (.int .u32 a)) (.val (.int .u64 1)) = some (.val (.int .u32 (valI (Op.shift .shr .u32 a .u64 1)))) := rfl
theorem u_neg (a : Int) : pureVal (Op.unary .neg (.int .u32 a)) = some (.val (.int .u32 (valI (Op.intArith .sub .u32 0 a)))) := rfl
theorem u_xor (a : Int) : pureVal (Op.unary .xor (.int .u32 a)) = some (.val (.int .u32 (valI (Op.intBits .xor .u32 IntKind.u32.max a)))) := rfl
theorem b_lss (a b : Int) : binA E0 .lss 3 (.val (.int .i64 a)) (.val (.int .i64 b)) = some (.val (.bool (decide (a < b)))) := rfl
theorem b_add (a b : Nat) (h : a + b < 9223372036854775807) : binA E0 .add 3 (.val (.int .i64 a)) (.val (.int .i64 b)) = some (.val (.int .i64 ((a + b : Nat) : Int))) := by
  have : binA E0 .add 3 (.val (.int .i64 a)) (.val (.int .i64 b)) = some (.val (.int .i64 (IntKind.i64.wrap ((a : Int) + (b : Int))))) := rfl
  rw [this, IntWalk.i64_in _ (by omega)]
  simp
theorem used (d m : Nat) (st : St) (ty : TypeId) (rest : List AV) (es : List (AV × AV)) (bs : List Nat) (clock : Nat) (hd : st.get d = some (.row (.mp m :: rest) ty)) (hm : st.get m = some (.map es bs clock))
   (f : Nat → Nat) (tot : Nat) (hf : ∀ i, f i = lenFile (es.getD i default).2) (hT : ((List.range bs.length).map f).sum = tot)
   (hn : bs.Nodup) (hb : (bs.all fun b => decide (b < clock)) = true) (hlen : es.length = bs.length) (hok : ∀ i, i < bs.length → okFile (es.getD i default).2 = true) (hl : ∀ i ∈ st.lock, i < st.next)
   (htot : tot < 1000000000) :
   ACalls Try.prog 26 [.ptr d 0] (fun r st' => (r, st') = (.val (.int .i64 (tot : Nat)), { st with next := st.next + 1 + bs.length })) st := by
  refine ACalls.wf fun hwf => ?_
  have hE := envOf_ok (P := Try.prog) rfl
  refine ACalls.forget (Q := fun r st' => r = .val (.int .i64 (tot : Nat)) ∧ (∀ id o, st.get id = some o → st'.get id = some o) ∧ st'.next = st.next + 1 + bs.length ∧ st'.lock = st.lock) ?_ ?_
  · refine ACalls.body (E := E0) hE Try.func26 rfl ?_
    have step : ∀ {id : Nat} {ops : Array Oper} {y : Code} {Q : Exit → Tm → St → Prop} {T : Tm} {st : St}, AOps Try.prog E0 ops (thenA (AW Try.prog y Q) Q) ops.toList T st → AW Try.prog (.seq (.region id ops false) y) Q T st := fun h => .seq (.region hE h)
    have f26 : Try.f26.ntmps = 23 := rfl
    refine step ?_
    simp [AOps, wantedA, evOp, pureA, Tm.eval, cv, cv0, thenA, enterT, zipT, Tm.fits, f26]
    refine step ?_
    simp [AOps, wantedA, evOp, pureA, Tm.eval, cv, cv0, thenA, Tm.fits, Tm.put]
    refine .seq (.seq (.region hE ?_))
    simp [AOps, wantedA, evOp, pureA, Tm.eval, cv, cv0, thenA, Tm.fits, Tm.put, Tm.get, E.look, binA, ty41, nilOf]
    refine .cond (b := true) rfl ?_
    simp only [if_true]
    refine step ?_
    simp [AOps, wantedA, evOp, pureA, Tm.eval, cv, cv0, thenA, Tm.fits, Tm.put, Tm.get, E.look, fieldAddrA, ty103, tySize, ty101, loadA, hd, partA, isAggD, rangeA, hm]
    refine .block (.loop (fun n T' st' => ∃ seen : List Nat, n = (toCome bs seen).length ∧ T'.n = 23 ∧ T'.get 12 = .ptr st.next 0 ∧
        (∃ x : Nat, T'.get 3 = .val (.int .i64 x) ∧ x + ((toCome bs seen).map f).sum = tot) ∧
        st'.get st.next = some (.iter m clock seen clock) ∧ (∀ id o, st.get id = some o → st'.get id = some o) ∧ st'.next + (toCome bs seen).length = st.next + 1 + bs.length ∧ st'.lock = st.lock) bs.length ?_ ?_)
    · have htc : toCome bs [] = List.range bs.length := by simp [toCome]
      refine ⟨[], by rw [htc]; simp, rfl, rfl, ⟨0, rfl, by rw [htc, hT]; simp⟩, ?_, fun id o ho => ?_, by rw [htc]; simp, rfl⟩
      · rw [St.get_push, if_pos rfl]
      · rw [St.get_push, if_neg]
        · exact ho
        · have := hwf id o ho; omega
    · rintro n T' st' ⟨seen, rfl, hTn, hT12, ⟨x, hT3, hx⟩, hit, hkeep, hnx, hlk⟩
      have hw : st'.wget st.next = some (.iter m clock seen clock) := St.wget_of hit (by rw [hlk]; intro h; exact Nat.lt_irrefl _ (hl _ h))
      have hm' := hkeep _ _ hm
      have hmne : m ≠ st.next := by have := hwf m _ hm; omega
      refine step ?_
      simp only [AOps, wantedA, evOp, pureA, Tm.eval, hT12, nextA, hw, hm', hb, hlen, Nat.le_refl, and_self, if_true]
      cases htc : toCome bs seen with
      | nil =>
        simp [AOps, wantedA, evOp, pureA, Tm.eval, Tm.fits, thenA, hTn]
        refine .seq (.cond (b := false) rfl ?_)
        simp only [Bool.false_eq_true, if_false]
        refine .exit ?_
        simp only [thenA, blockA, if_true]
        refine step ?_
        rw [htc] at hx hnx
        simp only [List.map_nil, List.sum_nil, Nat.add_zero, List.length_nil] at hx hnx
        simp [AOps, wantedA, evOp, pureA, Tm.eval, Tm.fits, thenA, hTn, hT3]
        refine .ret ?_
        refine ⟨[.val (.int .i64 x)], rfl, ?_, hkeep, hnx, hlk⟩
        subst hx
        rfl
      | cons i0 r0 =>
        simp only []
        refine ⟨by simp [Tm.fits, hTn], fun q hq => ?_⟩
        rw [← htc] at hq ⊢
        obtain ⟨i, hi, rfl⟩ := List.mem_map.1 hq
        have hil : i < bs.length := List.mem_range.1 (List.mem_filter.1 hi).1
        have hsum := toCome_sum hn hi f
        have hcnt := toCome_sum hn hi (fun _ => 1)
        simp only [List.map_const', List.sum_replicate_nat, Nat.mul_one] at hcnt
        have hfi := hf i
        have hoki := hok i hil
        generalize hbi : bs.getD i 0 = b at *
        generalize hei : es.getD i default = e at *
        obtain ⟨ek, ev⟩ := e
        simp only at hfi hoki
        match ev, hoki with
        | .agg [a, c], hoki =>
        simp [AOps, wantedA, evOp, pureA, Tm.eval, Tm.fits, thenA, hTn]
        refine .seq (.cond (b := true) rfl ?_)
        simp only [if_true]
        refine .skip ?_
        simp only [thenA]
        have hlast : (List.filter (fun i => bs.getD i 0 == b) (List.range bs.length)) = [i] := by
          rw [← hbi]
          have := filter_one hn hil
          simpa [-List.getD_eq_getElem?_getD] using this
        refine .block (step ?_)
        have hlt : st.next < st'.next := by have := List.length_filter_le (fun i => !seen.contains (bs.getD i 0)) (List.range bs.length); simp only [List.length_range] at this; unfold toCome at hnx; omega
        have hnl : st'.next ∉ st.lock := fun h => by have := hl _ h; omega
        have hwn : ∀ o, ((st'.set st.next (.iter m clock (seen ++ [b]) clock)).push o).wget st'.next = some o := fun o => by
          apply St.wget_of
          · rw [St.get_push, St.next_set, if_pos rfl]
          · rw [St.lock_push, St.lock_set, hlk]; exact hnl
        simp [-List.getD_eq_getElem?_getD, AOps, wantedA, evOp, pureA, Tm.eval, Tm.fits, thenA, hTn, hT12, entryA, St.get_set, hmne, hm', hlen, hlast, hei, allocA, zero105, storeA, avCells, hwn, size105]
        refine .region hE ?_
        have hla : lenA E0 28 a = some (.val (.int .i64 (lenV a : Nat))) := by
          simp only [okFile] at hoki
          unfold lenA
          rw [ty28]
          cases a <;> first | rfl | cases hoki
        have hbin : binA E0 .add 3 (.val (.int .i64 x)) (.val (.int .i64 (lenV a : Nat))) = some (.val (.int .i64 ((x + lenV a : Nat) : Int))) := by
          have hxx : x + lenV a ≤ tot := by
            have : f i = lenV a := hfi
            omega
          have : binA E0 .add 3 (.val (.int .i64 x)) (.val (.int .i64 (lenV a : Nat))) = some (.val (.int .i64 (IntKind.i64.wrap ((x : Int) + (lenV a : Nat))))) := rfl
          rw [this, IntWalk.i64_in _ (by omega)]
          simp
        simp [-List.getD_eq_getElem?_getD, AOps, wantedA, evOp, pureA, Tm.eval, Tm.fits, thenA, hTn, hT12, hT3, fieldAddrA, ty105, size28, loadA, St.get_set, partA, ty28, isAggD, hla, hbin]
        simp only [blockA, thenA]
        refine ⟨(toCome bs (seen ++ [b])).length, by omega, seen ++ [b], rfl, by simp [hTn], by simp [hT12], ⟨x + lenV a, by simp, ?_⟩, ?_, fun id o ho => ?_, ?_, by simp [hlk]⟩
        · have : f i = lenV a := hfi
          omega
        · rw [St.get_set, if_neg (by omega), St.get_push, St.next_set, if_neg (by omega), St.get_set, if_pos rfl]
        · have h1 := hwf id o ho
          rw [St.get_set, if_neg (by omega), St.get_push, St.next_set, if_neg (by omega), St.get_set, if_neg (by omega)]
          exact hkeep id o ho
        · simp only [St.next_set, St.next_push]
          omega
  · rintro r st' ⟨rfl, h1, h2, h3⟩
    exact ⟨_, rfl, h1, h2.symm, h3.symm⟩
theorem crcMore_ok (c : Int) (id sz off len : Nat) (full : Bool) (st : St) (vs : List AV) (ty : TypeId) (xs : List Int) (hsz : sz = 1) (hg : st.get id = some (.row vs ty)) (hlen : len = xs.length) (hl0 : len < 1000000000)
    (hxs : ∀ i, i < len → vs[off + i]? = some (.val (.int .u8 (xs.getD i 0)))) :
    ACalls Try.prog 81 [.val (.int .u32 c), .sl id sz off len full] (fun r st' => (r, st') = (.val (.int .u32 (crcMore c xs)), st)) st := by
  subst hsz
  have hE := envOf_ok (P := Try.prog) rfl
  refine ACalls.body (E := E0) hE Try.func81 rfl ?_
  have step : ∀ {id : Nat} {ops : Array Oper} {y : Code} {Q : Exit → Tm → St → Prop} {T : Tm} {st : St}, AOps Try.prog E0 ops (thenA (AW Try.prog y Q) Q) ops.toList T st → AW Try.prog (.seq (.region id ops false) y) Q T st := fun h => .seq (.region hE h)
  have f81 : Try.f81.ntmps = 33 := rfl
  have hla : lenA E0 28 (.sl id 1 off len full) = some (.val (.int .i64 (len : Nat))) := by
    unfold lenA; rw [ty28]
  refine step ?_
  simp [AOps, wantedA, evOp, pureA, Tm.eval, cv, cv0, thenA, enterT, zipT, Tm.fits, f81]
  refine step ?_
  simp [AOps, wantedA, evOp, pureA, Tm.eval, cv, cv0, thenA, Tm.fits, Tm.put, Tm.get, E.look, u_xor]
  refine .seq (step ?_)
  simp [AOps, wantedA, evOp, pureA, Tm.eval, cv, cv0, thenA, Tm.fits, Tm.put, Tm.get, E.look, hla]
  refine .block (.loop (fun n T' st' => st' = st ∧ T'.n = 33 ∧ T'.get 10 = .sl id 1 off len full ∧ T'.get 11 = .val (.int .i64 (len : Nat)) ∧
      ∃ k : Nat, k ≤ len ∧ n = len - k ∧ T'.get 12 = .val (.int .i64 (k : Nat)) ∧ T'.get 5 = .val (.int .u32 ((xs.take k).foldl crcByte (valI (Op.intBits .xor .u32 IntKind.u32.max c))))) len ?_ ?_)
  · exact ⟨rfl, rfl, rfl, rfl, 0, Nat.zero_le _, rfl, rfl, rfl⟩
  · rintro n T' st' ⟨rfl, hTn, hT10, hT11, k, hk, rfl, hT12, hT5⟩
    refine step ?_
    simp [AOps, wantedA, evOp, pureA, Tm.eval, hT12, hT11, b_lss, Tm.fits, hTn, thenA]
    by_cases hlt : k < len
    · refine .seq (.cond (b := true) (by simp [Tm.eval, hlt]) ?_)
      simp only [if_true]
      refine .skip ?_
      simp only [thenA]
      have hx := hxs k hlt
      refine .seq (.block (step ?_))
      have hload : loadA E0 st' 5 (.ptr id (off + k)) = some (.val (.int .u8 (xs.getD k 0))) := by
        simp only [loadA, hg, partA, ty5, isAggD]
        exact hx
      simp [-List.getD_eq_getElem?_getD, AOps, wantedA, evOp, pureA, Tm.eval, hT12, hT10, Tm.fits, hTn, thenA, indexAddrA, ty28, tySize, ty5, hlt, hload]
      refine step ?_
      simp [-List.getD_eq_getElem?_getD, AOps, wantedA, evOp, pureA, Tm.eval, hT5, Tm.fits, hTn, thenA, ty5, ty88, b_xor]
      refine step ?_
      simp [-List.getD_eq_getElem?_getD, AOps, wantedA, evOp, pureA, Tm.eval, cv, cv0, Tm.fits, hTn, thenA]
      generalize hnk : (List.foldl crcByte (valI (Op.intBits BinOp.xor IntKind.u32 IntKind.u32.max c)) (List.take k xs)) = nk
      refine .block (.loop (fun m T2 st2 => st2 = st' ∧ T2.n = 33 ∧ T2.get 10 = .sl id 1 off len full ∧ T2.get 11 = .val (.int .i64 (len : Nat)) ∧ T2.get 12 = .val (.int .i64 (k : Nat)) ∧
        ∃ (v : Int) (j : Nat), j ≤ 8 ∧ m = 8 - j ∧ T2.get 20 = .val (.int .i64 (j : Nat)) ∧ T2.get 5 = .val (.int .u32 v) ∧ iter8 crcBit (8 - j) v = crcByte nk (xs.getD k 0)) 8 ?_ ?_)
      · exact ⟨rfl, hTn, hT10, hT11, hT12, _, 0, by omega, rfl, rfl, rfl, rfl⟩
      · rintro m T2 st2 ⟨rfl, hn2, h10, h11, h12, v, j, hj, rfl, h20, h5, hit⟩
        refine step ?_
        simp [-List.getD_eq_getElem?_getD, AOps, wantedA, evOp, pureA, Tm.eval, cv, cv0, h20, b_lss, Tm.fits, hn2, thenA]
        by_cases hj8 : j < 8
        · refine .seq (.cond (b := true) (by simp [Tm.eval]; omega) ?_)
          simp only [if_true]
          refine .skip ?_
          simp only [thenA]
          refine .seq (.block (.region hE ?_))
          simp [-List.getD_eq_getElem?_getD, AOps, wantedA, evOp, pureA, Tm.eval, cv, cv0, h5, b_xor, b_and, b_shr, u_neg, Tm.fits, hn2, thenA, blockA]
          refine .region hE ?_
          have hadd : binA E0 .add 3 (.val (.int .i64 (j : Nat))) (.val (.int .i64 1)) = some (.val (.int .i64 ((j + 1 : Nat) : Int))) := b_add j 1 (by omega)
          simp [-List.getD_eq_getElem?_getD, -Int.natCast_add, AOps, wantedA, evOp, pureA, Tm.eval, cv, cv0, h20, hadd, Tm.fits, hn2, thenA, blockA]
          refine ⟨8 - (j + 1), by omega, h10, h11, h12, _, j + 1, by omega, rfl, by simp, rfl, ?_⟩
          rw [← hit, show 8 - j = (8 - (j + 1)) + 1 by omega]
          rfl
        · refine .seq (.cond (b := false) (by simp [Tm.eval]; omega) ?_)
          simp only [Bool.false_eq_true, if_false]
          refine .exit ?_
          obtain rfl : j = 8 := by omega
          simp only [Nat.sub_self, iter8] at hit
          simp only [thenA, blockA, if_true]
          refine .region hE ?_
          have hadd : binA E0 .add 3 (.val (.int .i64 (k : Nat))) (.val (.int .i64 1)) = some (.val (.int .i64 ((k + 1 : Nat) : Int))) := b_add k 1 (by omega)
          simp [-List.getD_eq_getElem?_getD, -Int.natCast_add, AOps, wantedA, evOp, pureA, Tm.eval, cv, cv0, h12, hadd, Tm.fits, hn2, thenA, blockA]
          refine ⟨len - (k + 1), by omega, h10, h11, k + 1, by omega, rfl, by simp, ?_⟩
          rw [h5, hit, List.take_add_one, List.foldl_append, hnk]
          rw [List.getD_eq_getElem?_getD]
          have : k < xs.length := by omega
          rw [List.getElem?_eq_getElem this]
          rfl
    · refine .seq (.cond (b := false) (by simp [Tm.eval, hlt]) ?_)
      simp only [Bool.false_eq_true, if_false]
      refine .exit ?_
      simp only [thenA, blockA, if_true]
      obtain rfl : k = len := by omega
      refine step ?_
      simp [AOps, wantedA, evOp, pureA, Tm.eval, Tm.fits, thenA, hTn, hT5, u_xor]
      refine .ret ?_
      refine ⟨[_], rfl, ?_⟩
      simp only [oneOrTup]
      have : xs.take k = xs := by rw [hlen]; exact List.take_length
      rw [this]
      exact ⟨rfl, trivial⟩

def usedOv (args : List AV) (st : St) : Option (AV × St) :=
  match args with
  | [.ptr d 0] => match st.get d with
    | some (.row (.mp m :: _) _) => match st.get m with
      | some (.map es bs clock) =>
        if bs.Nodup ∧ (bs.all fun b => decide (b < clock)) = true ∧ es.length = bs.length ∧ ((List.range bs.length).all fun i => okFile (es.getD i default).2) = true ∧ (st.lock.all fun i => decide (i < st.next)) = true ∧
          ((List.range bs.length).map fun i => lenFile (es.getD i default).2).sum < 1000000000 then
          some (.val (.int .i64 (((List.range bs.length).map fun i => lenFile (es.getD i default).2).sum : Nat)), { st with next := st.next + 1 + bs.length }) else none
      | _ => none
    | _ => none
  | _ => none
theorem usedOv_ok {args : List AV} {st : St} {r : AV × St} (h : usedOv args st = some r) : ACalls Try.prog 26 args (fun a st' => (a, st') = r) st := by
  unfold usedOv at h
  split at h
  · rename_i d
    split at h
    · rename_i m rest ty hd
      split at h
      · rename_i es bs clock hm
        split at h
        · rename_i hc
          cases h
          obtain ⟨h1, h2, h3, h4, h5, h6⟩ := hc
          exact used d m st ty rest es bs clock hd hm (fun i => lenFile (es.getD i default).2) _ (fun _ => rfl) rfl h1 h2 h3 (fun i hi => by simpa [-List.getD_eq_getElem?_getD] using List.all_eq_true.1 h4 i (List.mem_range.2 hi))
            (fun i hi => by simpa using List.all_eq_true.1 h5 i hi) h6
        · cases h
      · cases h
    · cases h
  · cases h

/-- bytes, as numbers -/
def bytesOf : List AV → Option (List Int)
  | [] => some []
  | .val (.int .u8 x) :: r => (bytesOf r).map (x :: ·)
  | _ => none
theorem bytesOf_at : ∀ {l : List AV} {xs : List Int}, bytesOf l = some xs → l.length = xs.length ∧ ∀ i, i < l.length → l[i]? = some (.val (.int .u8 (xs.getD i 0)))
  | [], xs, h => by simp only [bytesOf, Option.some.injEq] at h; subst h; exact ⟨rfl, fun i hi => by simp at hi⟩
  | a :: r, xs, h => by
    unfold bytesOf at h
    split at h
    · simp at *
    · rename_i x r' heq
      cases heq
      obtain ⟨ys, hy, rfl⟩ := Option.map_eq_some_iff.1 h
      obtain ⟨h1, h2⟩ := bytesOf_at hy
      refine ⟨by simp [h1], fun i hi => ?_⟩
      cases i with
      | zero => simp
      | succ i =>
        have := h2 i (by simpa using hi)
        simpa using this
    · cases h
def strictFold : List Int → Int → Int
  | [], n => n
  | x :: r, n => if crcByte n x = 0 then strictFold r 0 else strictFold r (crcByte n x)
theorem strictFold_eq : ∀ (xs : List Int) (n : Int), strictFold xs n = xs.foldl crcByte n
  | [], _ => rfl
  | x :: r, n => by
    simp only [strictFold, List.foldl_cons]
    split
    · rename_i h; rw [strictFold_eq r, h]
    · exact strictFold_eq r _
def crcMoreS (c : Int) (xs : List Int) : Int := valI (Op.intBits .xor .u32 IntKind.u32.max (strictFold xs (valI (Op.intBits .xor .u32 IntKind.u32.max c))))
def crcOv (args : List AV) (st : St) : Option (AV × St) :=
  match args with
  | [.val (.int .u32 c), .sl id sz off len _] => match st.get id with
    | some (.row vs _) => match bytesOf ((vs.drop off).take len) with
      | some xs => if sz = 1 ∧ xs.length = len ∧ len < 1000000000 then some (.val (.int .u32 (crcMoreS c xs)), st) else none
      | none => none
    | _ => none
  | _ => none
theorem crcOv_ok {args : List AV} {st : St} {r : AV × St} (h : crcOv args st = some r) : ACalls Try.prog 81 args (fun a st' => (a, st') = r) st := by
  unfold crcOv at h
  split at h
  · rename_i c id sz off len full
    split at h
    · rename_i vs ty hg
      split at h
      · rename_i xs hb
        split at h
        · rename_i hc
          cases h
          obtain ⟨h1, h2, h3⟩ := hc
          obtain ⟨k1, k2⟩ := bytesOf_at hb
          have e : crcMoreS c xs = crcMore c xs := by unfold crcMoreS crcMore; rw [strictFold_eq]
          rw [e]
          refine crcMore_ok c id sz off len full st vs ty xs h1 hg h2.symm h3 fun i hi => ?_
          have := k2 i (by omega)
          rw [List.getElem?_take, if_pos hi, List.getElem?_drop] at this
          exact this
        · cases h
      · cases h
    · cases h
  · cases h

def ovK : Ov := fun f args st => if f = 26 then usedOv args st else if f = 81 then crcOv args st else none
theorem ovK_ok : ∀ f args st r, ovK f args st = some r → ACalls Try.prog f args (fun a st' => (a, st') = r) st := by
  intro f args st r h
  unfold ovK at h
  split at h
  · rename_i hf; subst hf; exact usedOv_ok h
  · split at h
    · rename_i hf; subst hf; exact crcOv_ok h
    · cases h

def isTrue : Option (AV × St) → Bool | some (.val (.bool true), _) => true | _ => false
def g00 : G := { n := 0, blk := fun _ => 0, base := fun _ => 0, siz := fun _ => 0, M := fun _ => [] }
def st00 : St := ⟨0, .nil, []⟩
theorem ok00 (w : World) : OK g00 st00 w :=
  ⟨fun b h => absurd rfl h, fun id o h => by simp [st00, St.get, Tr.get] at h, fun id o _ _ h => by simp [st00, St.get, Tr.get] at h, fun id o h => by simp [st00, St.get, Tr.get] at h, rfl⟩
theorem closed {f k : Nat} (h : isTrue (evCall E0 ovK k f [] st00) = true) (W : World) : Calls Try.prog f #[] W fun e w' => e = .returned (.bool true) ∧ RowKit.Below W.heap.size W w' := by
  cases hr : evCall E0 ovK k f [] st00 with
  | none => rw [hr] at h; cases h
  | some r =>
    have hc := (ev_ok (envOf_ok (P := Try.prog) rfl) ovK_ok k).call f [] st00 r hr g00 W [] (ok00 W) (.nil _)
    refine hc.mono fun e w' ⟨g', st', a, v, h1, h2, h3, h4⟩ => ?_
    subst h4
    rw [hr] at h
    unfold isTrue at h
    split at h
    · rename_i heq
      cases heq
      rw [h3.val_inv] at h1
      exact ⟨h1, h2.os, h2.tape, h2.output, h2.size, fun b hb => h2.frame b hb fun id o ho => by
        have := (St.wget_get ho).1
        simp [st00, St.get, Tr.get] at this⟩
    · cases h
end Go.Proofs.Ytniaiciabfdbnaa.E
