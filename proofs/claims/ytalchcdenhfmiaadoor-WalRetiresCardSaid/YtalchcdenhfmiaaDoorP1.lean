/- Part 1 of the proof, over the abstract machine: contracts of the functions that the statement reaches, joined out of several texts. Condition: none beyond those that the lemmas name. -/
import Derived.Test.YtalchcdenhfmiaaDoorP0
import Derived.Test.YtalchcdenhfmiaaDoorChecked
import Derived.KernelRfl
import Derived.IntWalk
import Derived.Below
import Derived.Sort.KeysCollected
import Derived.Shelf.SlIter.Nil
import Derived.Shelf.SortM.Plain
import Derived.Shelf.SortM.SortNone
import Derived.Ground.GgzProg
import Derived.Ground.SlgmProg
import Derived.Test.YtalchcdenhfmiaaDoorRows
import Derived.Lib.LaidTab
import Derived.Ground.SlmcProg
import Derived.WalkKit
import Derived.Shelf.Lay
import Derived.Shelf.SlMaps.Clone
namespace Go.Proofs.YtalchcdenhfmiaaDoor.E
open Go Go.Proofs
section
set_option maxRecDepth 4000
noncomputable abbrev E0 := envOf Tryd.prog
theorem ty3 : E0.ty 3 = some ⟨.int .i64, 1, 8, some (.int .i64 0)⟩ := by kernel_rfl
theorem ty4 : E0.ty 4 = some ⟨.bool, 1, 1, some (.bool false)⟩ := by kernel_rfl
theorem ty101 : E0.ty 66 = some ⟨.map 9 72, 1, 8, some (.map none)⟩ := by kernel_rfl
theorem ty28 : E0.ty 33 = some ⟨.slice 5, 1, 24, some (.slice none 0 0)⟩ := by kernel_rfl
theorem ty105 : (E0.ty 72) = some ⟨.struct
      #[{ name := "data", type := 33, offset := 0, embedded := false, tag := "", pkgPath := "escritoire/files",
          byteOffset := 0 },
        { name := "last", type := 3, offset := 1, embedded := false, tag := "", pkgPath := "escritoire/files",
          byteOffset := 24 }], 2, 32, some (.agg #[.slice none 0 0, .int .i64 0])⟩ := by kernel_rfl
theorem ty103 : (E0.ty 68) = some ⟨.struct
      #[{ name := "files", type := 66, offset := 0, embedded := false, tag := "", pkgPath := "escritoire/files",
          byteOffset := 0 },
        { name := "quota", type := 3, offset := 1, embedded := false, tag := "", pkgPath := "escritoire/files",
          byteOffset := 8 },
        { name := "fuse", type := 3, offset := 2, embedded := false, tag := "", pkgPath := "escritoire/files",
          byteOffset := 16 },
        { name := "off", type := 4, offset := 3, embedded := false, tag := "", pkgPath := "escritoire/files",
          byteOffset := 24 }], 4, 32, some (.agg #[.map none, .int .i64 0, .int .i64 0, .bool false])⟩ := by kernel_rfl
theorem ty41 : E0.ty 23 = some ⟨.pointer 68, 1, 8, some (.pointer none)⟩ := by kernel_rfl
theorem zero105 : zeroA E0 72 = some [.nils, .val (.int .i64 0)] := by kernel_rfl
theorem size105 : tySize E0 72 = some 2 := by kernel_rfl
theorem size28 : tySize E0 33 = some 1 := by kernel_rfl
end
section
set_option maxRecDepth 4000
def lenV : AV → Nat | .sl _ _ _ l _ => l | .imm _ l _ _ => l | _ => 0
def isSlice : AV → Bool | .nils | .sl .. | .imm .. => true | _ => false
def okFile : AV → Bool | .agg [a, _] => isSlice a | _ => false
def lenFile : AV → Nat | .agg (a :: _) => lenV a | _ => 0

theorem sum_filter (f : Nat → Nat) (p : Nat → Bool) (i : Nat) : ∀ (l : List Nat), l.Nodup → i ∈ l.filter p → ((l.filter p).map f).sum = f i + ((l.filter fun x => p x && !(x == i)).map f).sum
  | [], _, h => by simp at h
  | a :: r, hn, h => by
    obtain ⟨h1, h2⟩ := List.nodup_cons.1 hn
    by_cases ha : a = i
    · subst ha
      have hp : p a = true := (List.mem_filter.1 h).2
      have hr : (r.filter fun x => p x && !(x == a)) = r.filter p := by
        apply List.filter_congr
        intro x hx
        have : x ≠ a := fun e => h1 (e ▸ hx)
        simp [this]
      simp [hp, hr]
    · have hi : i ∈ r.filter p := by
        obtain ⟨m1, m2⟩ := List.mem_filter.1 h
        refine List.mem_filter.2 ⟨?_, m2⟩
        rcases List.mem_cons.1 m1 with e | e
        · exact absurd e.symm ha
        · exact e
      have ih := sum_filter f p i r h2 hi
      by_cases hp : p a = true
      · simp [hp, ha, ih]; omega
      · simp [hp, ih]

theorem getD_inj {bs : List Nat} (hn : bs.Nodup) {i j : Nat} (hi : i < bs.length) (hj : j < bs.length) (h : bs.getD i 0 = bs.getD j 0) : i = j := by
  simp only [List.getD_eq_getElem?_getD, List.getElem?_eq_getElem hi, List.getElem?_eq_getElem hj, Option.getD_some] at h
  have hp := List.pairwise_iff_getElem.1 hn
  rcases Nat.lt_trichotomy i j with hlt | he | hlt
  · exact absurd h (hp i j hi hj hlt)
  · exact he
  · exact absurd h.symm (hp j i hj hi hlt)

theorem filter_sing {i : Nat} : ∀ (l : List Nat), l.Nodup → i ∈ l → (l.filter fun j => j == i) = [i]
  | [], _, h => by simp at h
  | a :: r, hn, h => by
    obtain ⟨h1, h2⟩ := List.nodup_cons.1 hn
    by_cases ha : a = i
    · subst ha
      have : (r.filter fun j => j == a) = [] := by
        rw [List.filter_eq_nil_iff]
        intro x hx
        have : x ≠ a := fun e => h1 (e ▸ hx)
        simpa using this
      simp [this]
    · rcases List.mem_cons.1 h with e | e
      · exact absurd e.symm ha
      · simp [ha, filter_sing r h2 e]

theorem toCome_snoc {bs seen : List Nat} (hn : bs.Nodup) {i : Nat} (hi : i < bs.length) : toCome bs (seen ++ [bs.getD i 0]) = (List.range bs.length).filter fun x => (!seen.contains (bs.getD x 0)) && !(x == i) := by
  unfold toCome
  apply List.filter_congr
  intro x hx
  have hx' := List.mem_range.1 hx
  have : (bs.getD x 0 == bs.getD i 0) = (x == i) := by
    by_cases e : x = i
    · subst e; simp
    · have : bs.getD x 0 ≠ bs.getD i 0 := fun h => e (getD_inj hn hx' hi h)
      rw [beq_eq_false_iff_ne.2 this, beq_eq_false_iff_ne.2 e]
  rw [List.contains_append]
  simp only [Bool.not_or, List.contains_cons, List.contains_nil, Bool.or_false, this]

theorem toCome_sum {bs seen : List Nat} (hn : bs.Nodup) {i : Nat} (hi : i ∈ toCome bs seen) (f : Nat → Nat) : ((toCome bs seen).map f).sum = f i + ((toCome bs (seen ++ [bs.getD i 0])).map f).sum := by
  have hil : i < bs.length := List.mem_range.1 (List.mem_filter.1 hi).1
  rw [toCome_snoc hn hil]
  exact sum_filter f _ i _ List.nodup_range hi

theorem filter_one {bs : List Nat} (hn : bs.Nodup) {i : Nat} (hi : i < bs.length) : ((List.range bs.length).filter fun j => some (bs.getD j 0) == some (bs.getD i 0)) = [i] := by
  have h1 : ((List.range bs.length).filter fun j => some (bs.getD j 0) == some (bs.getD i 0)) = (List.range bs.length).filter fun j => j == i := by
    apply List.filter_congr
    intro x hx
    have hx' := List.mem_range.1 hx
    by_cases e : x = i
    · subst e; simp
    · have : bs.getD x 0 ≠ bs.getD i 0 := fun h => e (getD_inj hn hx' hi h)
      rw [beq_eq_false_iff_ne.2 e, beq_eq_false_iff_ne]
      intro h; exact this (by injection h)
  rw [h1]
  have := List.nodup_range (n := bs.length)
  have hm : i ∈ List.range bs.length := List.mem_range.2 hi
  exact filter_sing _ this hm
end
section
set_option maxRecDepth 4000
def valI (s : Sem Value) : Int := match s with | .pure (.int _ n) => n | _ => 0
def crcBit (n : Int) : Int := valI (Op.intBits .xor .u32 (valI (Op.shift .shr .u32 n .u64 1)) (valI (Op.intBits .and .u32 3988292384 (valI (Op.intArith .sub .u32 0 (valI (Op.intBits .and .u32 n 1)))))))
def iter8 (f : Int → Int) : Nat → Int → Int
  | 0, n => n
  | k + 1, n => iter8 f k (f n)
def crcByte (n x : Int) : Int := iter8 crcBit 8 (valI (Op.intBits .xor .u32 n (IntKind.u32.wrap x)))
def crcMore (c : Int) (xs : List Int) : Int := valI (Op.intBits .xor .u32 IntKind.u32.max (xs.foldl crcByte (valI (Op.intBits .xor .u32 IntKind.u32.max c))))
theorem ty88 : E0.ty 88 = some ⟨.int .u32, 1, 4, some (.int .u32 0)⟩ := by kernel_rfl
theorem ty5 : E0.ty 5 = some ⟨.int .u8, 1, 1, some (.int .u8 0)⟩ := by kernel_rfl
theorem b_xor (a b : Int) : binA E0 .xor 88 (.val (.int .u32 a)) (.val (.int .u32 b)) = some (.val (.int .u32 (valI (Op.intBits .xor .u32 a b)))) := rfl
theorem b_and (a b : Int) : binA E0 .and 88 (.val (.int .u32 a)) (.val (.int .u32 b)) = some (.val (.int .u32 (valI (Op.intBits .and .u32 a b)))) := rfl
theorem b_shr (a : Int) : binA E0 .shr 88 (.val (.int .u32 a)) (.val (.int .u64 1)) = some (.val (.int .u32 (valI (Op.shift .shr .u32 a .u64 1)))) := rfl
theorem u_neg (a : Int) : pureVal (Op.unary .neg (.int .u32 a)) = some (.val (.int .u32 (valI (Op.intArith .sub .u32 0 a)))) := rfl
theorem u_xor (a : Int) : pureVal (Op.unary .xor (.int .u32 a)) = some (.val (.int .u32 (valI (Op.intBits .xor .u32 IntKind.u32.max a)))) := rfl
theorem b_lss (a b : Int) : binA E0 .lss 3 (.val (.int .i64 a)) (.val (.int .i64 b)) = some (.val (.bool (decide (a < b)))) := rfl
theorem b_add (a b : Nat) (h : a + b < 9223372036854775807) : binA E0 .add 3 (.val (.int .i64 a)) (.val (.int .i64 b)) = some (.val (.int .i64 ((a + b : Nat) : Int))) := by
  have : binA E0 .add 3 (.val (.int .i64 a)) (.val (.int .i64 b)) = some (.val (.int .i64 (IntKind.i64.wrap ((a : Int) + (b : Int))))) := rfl
  rw [this, IntWalk.i64_in _ (by omega)]
  simp
end
section
set_option maxRecDepth 4000
theorem used (d m : Nat) (st : St) (ty : TypeId) (rest : List AV) (es : List (AV × AV)) (bs : List Nat) (clock : Nat) (hd : st.get d = some (.row (.mp m :: rest) ty)) (hm : st.get m = some (.map es bs clock))
   (f : Nat → Nat) (tot : Nat) (hf : ∀ i, f i = lenFile (es.getD i default).2) (hT : ((List.range bs.length).map f).sum = tot)
   (hn : bs.Nodup) (hb : (bs.all fun b => decide (b < clock)) = true) (hlen : es.length = bs.length) (hok : ∀ i, i < bs.length → okFile (es.getD i default).2 = true) (hl : ∀ i ∈ st.lock, i < st.next)
   (htot : tot < 1000000000) :
   ACalls Tryd.prog 39 [.ptr d 0] (fun r st' => (r, st') = (.val (.int .i64 (tot : Nat)), { st with next := st.next + 1 + bs.length })) st := by
  refine ACalls.wf fun hwf => ?_
  have hE := envOf_ok (P := Tryd.prog) rfl
  refine ACalls.forget (Q := fun r st' => r = .val (.int .i64 (tot : Nat)) ∧ (∀ id o, st.get id = some o → st'.get id = some o) ∧ st'.next = st.next + 1 + bs.length ∧ st'.lock = st.lock) ?_ ?_
  · refine ACalls.body (E := E0) hE Tryd.func39 rfl ?_
    have step : ∀ {id : Nat} {ops : Array Oper} {y : Code} {Q : Exit → Tm → St → Prop} {T : Tm} {st : St}, AOps Tryd.prog E0 ops (thenA (AW Tryd.prog y Q) Q) ops.toList T st → AW Tryd.prog (.seq (.region id ops false) y) Q T st := fun h => .seq (.region hE h)
    have f26 : Tryd.f39.ntmps = 23 := rfl
    refine step ?_
    simp [AOps, wantedA, evOp, pureA, Tm.eval, cv, cv0, thenA, enterT, zipT, Tm.fits]
    refine step ?_
    simp [AOps, wantedA, evOp, pureA, Tm.eval, cv, cv0, thenA, Tm.fits, Tm.put]
    refine .seq (.seq (.region hE ?_))
    simp [AOps, wantedA, evOp, pureA, Tm.eval, cv, cv0, thenA, Tm.fits, Tm.put, Tm.get, E.look, binA, ty41, nilOf]
    refine .cond (b := true) rfl ?_
    simp only [if_true]
    refine step ?_
    simp [AOps, wantedA, evOp, pureA, Tm.eval, thenA, Tm.fits, Tm.put, Tm.get, E.look, fieldAddrA, ty103, tySize, ty101, loadA, hd, partA, isAggD, rangeA, hm]
    refine .block (.loop (fun n T' st' => ∃ seen : List Nat, n = (toCome bs seen).length ∧ T'.n = 23 ∧ T'.get 12 = .ptr st.next 0 ∧
        (∃ x : Nat, T'.get 3 = .val (.int .i64 x) ∧ x + ((toCome bs seen).map f).sum = tot) ∧
        st'.get st.next = some (.iter m clock seen clock) ∧ (∀ id o, st.get id = some o → st'.get id = some o) ∧ st'.next + (toCome bs seen).length = st.next + 1 + bs.length ∧ st'.lock = st.lock) bs.length ?_ ?_)
    · have htc : toCome bs [] = List.range bs.length := by simp [toCome]
      refine ⟨[], by rw [htc]; simp, rfl, rfl, ⟨0, rfl, by rw [htc, hT]; simp⟩, ?_, fun id o ho => ?_, by rw [htc]; simp, rfl⟩
      · rw [St.get_push, if_pos rfl]
      · rw [St.get_push, if_neg]
        · exact ho
        · have := hwf id o ho; omega
    · rintro n T' st' ⟨seen, rfl, hTn, hT12, ⟨x, hT3, hx⟩, hit, hkeep, hnx, hlk⟩
      have hw : st'.wget st.next = some (.iter m clock seen clock) := St.wget_of hit (by rw [hlk]; intro h; exact Nat.lt_irrefl _ (hl _ h))
      have hm' := hkeep _ _ hm
      have hmne : m ≠ st.next := by have := hwf m _ hm; omega
      refine step ?_
      simp only [AOps, wantedA, evOp, pureA, Tm.eval, hT12, nextA, hw, hm', hb, hlen, Nat.le_refl, and_self, if_true]
      cases htc : toCome bs seen with
      | nil =>
        simp [Tm.fits, thenA, hTn]
        refine .seq (.cond (b := false) rfl ?_)
        simp only [Bool.false_eq_true, if_false]
        refine .exit ?_
        simp only [thenA, blockA, if_true]
        refine step ?_
        rw [htc] at hx hnx
        simp only [List.map_nil, List.sum_nil, Nat.add_zero, List.length_nil] at hx hnx
        simp [AOps, wantedA, evOp, pureA, Tm.eval, Tm.fits, thenA, hTn, hT3]
        refine .ret ?_
        refine ⟨[.val (.int .i64 x)], rfl, ?_, hkeep, hnx, hlk⟩
        subst hx
        rfl
      | cons i0 r0 =>
        simp only []
        refine ⟨by simp [Tm.fits, hTn], fun q hq => ?_⟩
        rw [← htc] at hq ⊢
        obtain ⟨i, hi, rfl⟩ := List.mem_map.1 hq
        have hil : i < bs.length := List.mem_range.1 (List.mem_filter.1 hi).1
        have hsum := toCome_sum hn hi f
        have hcnt := toCome_sum hn hi (fun _ => 1)
        simp only [List.map_const', List.sum_replicate_nat, Nat.mul_one] at hcnt
        have hfi := hf i
        have hoki := hok i hil
        generalize hbi : bs.getD i 0 = b at *
        generalize hei : es.getD i default = e at *
        obtain ⟨ek, ev⟩ := e
        simp only at hfi hoki
        match ev, hoki with
        | .agg [a, c], hoki =>
        simp [Tm.fits, thenA, hTn]
        refine .seq (.cond (b := true) rfl ?_)
        simp only [if_true]
        refine .skip ?_
        simp only [thenA]
        have hlast : (List.filter (fun i => bs.getD i 0 == b) (List.range bs.length)) = [i] := by
          rw [← hbi]
          have := filter_one hn hil
          simpa [-List.getD_eq_getElem?_getD] using this
        refine .block (step ?_)
        have hlt : st.next < st'.next := by have := List.length_filter_le (fun i => !seen.contains (bs.getD i 0)) (List.range bs.length); simp only [List.length_range] at this; unfold toCome at hnx; omega
        have hnl : st'.next ∉ st.lock := fun h => by have := hl _ h; omega
        have hwn : ∀ o, ((st'.set st.next (.iter m clock (seen ++ [b]) clock)).push o).wget st'.next = some o := fun o => by
          apply St.wget_of
          · rw [St.get_push, St.next_set, if_pos rfl]
          · rw [St.lock_push, St.lock_set, hlk]; exact hnl
        simp [-List.getD_eq_getElem?_getD, AOps, wantedA, evOp, pureA, Tm.eval, Tm.fits, thenA, hTn, hT12, entryA, St.get_set, hmne, hm', hlen, hlast, hei, allocA, zero105, storeA, avCells, hwn, size105]
        refine .region hE ?_
        have hla : lenA E0 33 a = some (.val (.int .i64 (lenV a : Nat))) := by
          simp only [okFile] at hoki
          unfold lenA
          rw [ty28]
          cases a <;> first | rfl | cases hoki
        have hbin : binA E0 .add 3 (.val (.int .i64 x)) (.val (.int .i64 (lenV a : Nat))) = some (.val (.int .i64 ((x + lenV a : Nat) : Int))) := by
          have hxx : x + lenV a ≤ tot := by
            have : f i = lenV a := hfi
            omega
          have : binA E0 .add 3 (.val (.int .i64 x)) (.val (.int .i64 (lenV a : Nat))) = some (.val (.int .i64 (IntKind.i64.wrap ((x : Int) + (lenV a : Nat))))) := rfl
          rw [this, IntWalk.i64_in _ (by omega)]
          simp
        simp [-List.getD_eq_getElem?_getD, AOps, wantedA, evOp, pureA, Tm.eval, Tm.fits, hTn, hT3, fieldAddrA, ty105, size28, loadA, St.get_set, partA, ty28, isAggD, hla, hbin]
        simp only [blockA, thenA]
        refine ⟨(toCome bs (seen ++ [b])).length, by omega, seen ++ [b], rfl, by simp [hTn], by simp [hT12], ⟨x + lenV a, by simp, ?_⟩, ?_, fun id o ho => ?_, ?_, by simp [hlk]⟩
        · have : f i = lenV a := hfi
          omega
        · rw [St.get_set, if_neg (by omega), St.get_push, St.next_set, if_neg (by omega), St.get_set, if_pos rfl]
        · have h1 := hwf id o ho
          rw [St.get_set, if_neg (by omega), St.get_push, St.next_set, if_neg (by omega), St.get_set, if_neg (by omega)]
          exact hkeep id o ho
        · simp only [St.next_set, St.next_push]
          omega
  · rintro r st' ⟨rfl, h1, h2, h3⟩ hgl
    exact ⟨_, rfl, h1, h2.symm, h3.symm, hgl.symm⟩
theorem crcMore_ok (c : Int) (id sz off len : Nat) (full : Bool) (st : St) (vs : List AV) (ty : TypeId) (xs : List Int) (hsz : sz = 1) (hg : st.get id = some (.row vs ty)) (hlen : len = xs.length) (hl0 : len < 1000000000)
    (hxs : ∀ i, i < len → vs[off + i]? = some (.val (.int .u8 (xs.getD i 0)))) :
    ACalls Tryd.prog 55 [.val (.int .u32 c), .sl id sz off len full] (fun r st' => (r, st') = (.val (.int .u32 (crcMore c xs)), st)) st := by
  subst hsz
  have hE := envOf_ok (P := Tryd.prog) rfl
  refine ACalls.body (E := E0) hE Tryd.func55 rfl ?_
  have step : ∀ {id : Nat} {ops : Array Oper} {y : Code} {Q : Exit → Tm → St → Prop} {T : Tm} {st : St}, AOps Tryd.prog E0 ops (thenA (AW Tryd.prog y Q) Q) ops.toList T st → AW Tryd.prog (.seq (.region id ops false) y) Q T st := fun h => .seq (.region hE h)
  have f81 : Tryd.f55.ntmps = 33 := rfl
  have hla : lenA E0 33 (.sl id 1 off len full) = some (.val (.int .i64 (len : Nat))) := by
    unfold lenA; rw [ty28]
  refine step ?_
  simp [AOps, wantedA, evOp, pureA, Tm.eval, cv, cv0, thenA, enterT, zipT, Tm.fits]
  refine step ?_
  simp [AOps, wantedA, evOp, pureA, Tm.eval, thenA, Tm.fits, Tm.put, Tm.get, E.look, u_xor]
  refine .seq (step ?_)
  simp [AOps, wantedA, evOp, pureA, Tm.eval, cv, cv0, thenA, Tm.fits, Tm.put, Tm.get, E.look, hla]
  refine .block (.loop (fun n T' st' => st' = st ∧ T'.n = 33 ∧ T'.get 10 = .sl id 1 off len full ∧ T'.get 11 = .val (.int .i64 (len : Nat)) ∧
      ∃ k : Nat, k ≤ len ∧ n = len - k ∧ T'.get 12 = .val (.int .i64 (k : Nat)) ∧ T'.get 5 = .val (.int .u32 ((xs.take k).foldl crcByte (valI (Op.intBits .xor .u32 IntKind.u32.max c))))) len ?_ ?_)
  · exact ⟨rfl, rfl, rfl, rfl, 0, Nat.zero_le _, rfl, rfl, rfl⟩
  · rintro n T' st' ⟨rfl, hTn, hT10, hT11, k, hk, rfl, hT12, hT5⟩
    refine step ?_
    simp [AOps, wantedA, evOp, pureA, Tm.eval, hT12, hT11, b_lss, Tm.fits, hTn, thenA]
    by_cases hlt : k < len
    · refine .seq (.cond (b := true) (by simp [Tm.eval, hlt]) ?_)
      simp only [if_true]
      refine .skip ?_
      simp only [thenA]
      have hx := hxs k hlt
      refine .seq (.block (step ?_))
      have hload : loadA E0 st' 5 (.ptr id (off + k)) = some (.val (.int .u8 (xs.getD k 0))) := by
        simp only [loadA, hg, partA, ty5, isAggD]
        exact hx
      simp [-List.getD_eq_getElem?_getD, AOps, wantedA, evOp, pureA, Tm.eval, hT12, hT10, Tm.fits, hTn, thenA, indexAddrA, ty28, tySize, ty5, hlt, hload]
      refine step ?_
      simp [-List.getD_eq_getElem?_getD, AOps, wantedA, evOp, pureA, Tm.eval, hT5, Tm.fits, hTn, thenA, ty5, ty88, b_xor]
      refine step ?_
      simp [-List.getD_eq_getElem?_getD, AOps, wantedA, evOp, pureA, Tm.eval, cv, cv0, Tm.fits, hTn, thenA]
      generalize hnk : (List.foldl crcByte (valI (Op.intBits BinOp.xor IntKind.u32 IntKind.u32.max c)) (List.take k xs)) = nk
      refine .block (.loop (fun m T2 st2 => st2 = st' ∧ T2.n = 33 ∧ T2.get 10 = .sl id 1 off len full ∧ T2.get 11 = .val (.int .i64 (len : Nat)) ∧ T2.get 12 = .val (.int .i64 (k : Nat)) ∧
        ∃ (v : Int) (j : Nat), j ≤ 8 ∧ m = 8 - j ∧ T2.get 20 = .val (.int .i64 (j : Nat)) ∧ T2.get 5 = .val (.int .u32 v) ∧ iter8 crcBit (8 - j) v = crcByte nk (xs.getD k 0)) 8 ?_ ?_)
      · exact ⟨rfl, hTn, hT10, hT11, hT12, _, 0, by omega, rfl, rfl, rfl, rfl⟩
      · rintro m T2 st2 ⟨rfl, hn2, h10, h11, h12, v, j, hj, rfl, h20, h5, hit⟩
        refine step ?_
        simp [-List.getD_eq_getElem?_getD, AOps, wantedA, evOp, pureA, Tm.eval, cv, cv0, h20, b_lss, Tm.fits, hn2, thenA]
        by_cases hj8 : j < 8
        · refine .seq (.cond (b := true) (by simp [Tm.eval]; omega) ?_)
          simp only [if_true]
          refine .skip ?_
          simp only [thenA]
          refine .seq (.block (.region hE ?_))
          simp [-List.getD_eq_getElem?_getD, AOps, wantedA, evOp, pureA, Tm.eval, cv, cv0, h5, b_xor, b_and, b_shr, u_neg, Tm.fits, hn2, thenA, blockA]
          refine .region hE ?_
          have hadd : binA E0 .add 3 (.val (.int .i64 (j : Nat))) (.val (.int .i64 1)) = some (.val (.int .i64 ((j + 1 : Nat) : Int))) := b_add j 1 (by omega)
          simp [-List.getD_eq_getElem?_getD, -Int.natCast_add, AOps, wantedA, evOp, pureA, Tm.eval, cv, cv0, h20, hadd, Tm.fits, hn2, thenA]
          refine ⟨8 - (j + 1), by omega, h10, h11, h12, _, j + 1, by omega, rfl, by simp, rfl, ?_⟩
          rw [← hit, show 8 - j = (8 - (j + 1)) + 1 by omega]
          rfl
        · refine .seq (.cond (b := false) (by simp [Tm.eval]; omega) ?_)
          simp only [Bool.false_eq_true, if_false]
          refine .exit ?_
          obtain rfl : j = 8 := by omega
          simp only [Nat.sub_self, iter8] at hit
          simp only [thenA, blockA, if_true]
          refine .region hE ?_
          have hadd : binA E0 .add 3 (.val (.int .i64 (k : Nat))) (.val (.int .i64 1)) = some (.val (.int .i64 ((k + 1 : Nat) : Int))) := b_add k 1 (by omega)
          simp [-List.getD_eq_getElem?_getD, -Int.natCast_add, AOps, wantedA, evOp, pureA, Tm.eval, cv, cv0, h12, hadd, Tm.fits, hn2, thenA]
          refine ⟨len - (k + 1), by omega, h10, h11, k + 1, by omega, rfl, by simp, ?_⟩
          rw [h5, hit, List.take_add_one, List.foldl_append, hnk]
          rw [List.getD_eq_getElem?_getD]
          have : k < xs.length := by omega
          rw [List.getElem?_eq_getElem this]
          rfl
    · refine .seq (.cond (b := false) (by simp [Tm.eval, hlt]) ?_)
      simp only [Bool.false_eq_true, if_false]
      refine .exit ?_
      simp only [thenA, blockA, if_true]
      obtain rfl : k = len := by omega
      refine step ?_
      simp [AOps, wantedA, evOp, pureA, Tm.eval, Tm.fits, thenA, hTn, hT5, u_xor]
      refine .ret ?_
      refine ⟨[_], rfl, ?_⟩
      simp only [oneOrTup]
      have : xs.take k = xs := by rw [hlen]; exact List.take_length
      rw [this]
      exact ⟨rfl, trivial⟩

def usedOv (args : List AV) (st : St) : Option (AV × St) :=
  match args with
  | [.ptr d 0] => match st.get d with
    | some (.row (.mp m :: _) _) => match st.get m with
      | some (.map es bs clock) =>
        if bs.Nodup ∧ (bs.all fun b => decide (b < clock)) = true ∧ es.length = bs.length ∧ ((List.range bs.length).all fun i => okFile (es.getD i default).2) = true ∧ (st.lock.all fun i => decide (i < st.next)) = true ∧
          ((List.range bs.length).map fun i => lenFile (es.getD i default).2).sum < 1000000000 then
          some (.val (.int .i64 (((List.range bs.length).map fun i => lenFile (es.getD i default).2).sum : Nat)), { st with next := st.next + 1 + bs.length }) else none
      | _ => none
    | _ => none
  | _ => none
theorem usedOv_ok {args : List AV} {st : St} {r : AV × St} (h : usedOv args st = some r) : ACalls Tryd.prog 39 args (fun a st' => (a, st') = r) st := by
  unfold usedOv at h
  split at h
  · rename_i d
    split at h
    · rename_i m rest ty hd
      split at h
      · rename_i es bs clock hm
        split at h
        · rename_i hc
          cases h
          obtain ⟨h1, h2, h3, h4, h5, h6⟩ := hc
          exact used d m st ty rest es bs clock hd hm (fun i => lenFile (es.getD i default).2) _ (fun _ => rfl) rfl h1 h2 h3 (fun i hi => by simpa [-List.getD_eq_getElem?_getD] using List.all_eq_true.1 h4 i (List.mem_range.2 hi))
            (fun i hi => by simpa using List.all_eq_true.1 h5 i hi) h6
        · cases h
      · cases h
    · cases h
  · cases h

/-- bytes, as numbers -/
def bytesOf : List AV → Option (List Int)
  | [] => some []
  | .val (.int .u8 x) :: r => (bytesOf r).map (x :: ·)
  | _ => none
theorem bytesOf_at : ∀ {l : List AV} {xs : List Int}, bytesOf l = some xs → l.length = xs.length ∧ ∀ i, i < l.length → l[i]? = some (.val (.int .u8 (xs.getD i 0)))
  | [], xs, h => by simp only [bytesOf, Option.some.injEq] at h; subst h; exact ⟨rfl, fun i hi => by simp at hi⟩
  | a :: r, xs, h => by
    unfold bytesOf at h
    split at h
    · simp at *
    · rename_i x r' heq
      cases heq
      obtain ⟨ys, hy, rfl⟩ := Option.map_eq_some_iff.1 h
      obtain ⟨h1, h2⟩ := bytesOf_at hy
      refine ⟨by simp [h1], fun i hi => ?_⟩
      cases i with
      | zero => simp
      | succ i =>
        have := h2 i (by simpa using hi)
        simpa using this
    · cases h
def strictFold : List Int → Int → Int
  | [], n => n
  | x :: r, n => if crcByte n x = 0 then strictFold r 0 else strictFold r (crcByte n x)
theorem strictFold_eq : ∀ (xs : List Int) (n : Int), strictFold xs n = xs.foldl crcByte n
  | [], _ => rfl
  | x :: r, n => by
    simp only [strictFold, List.foldl_cons]
    split
    · rename_i h; rw [strictFold_eq r, h]
    · exact strictFold_eq r _
def crcMoreS (c : Int) (xs : List Int) : Int := valI (Op.intBits .xor .u32 IntKind.u32.max (strictFold xs (valI (Op.intBits .xor .u32 IntKind.u32.max c))))
def crcOv (args : List AV) (st : St) : Option (AV × St) :=
  match args with
  | [.val (.int .u32 c), .sl id sz off len _] => match st.get id with
    | some (.row vs _) => match bytesOf ((vs.drop off).take len) with
      | some xs => if sz = 1 ∧ xs.length = len ∧ len < 1000000000 then some (.val (.int .u32 (crcMoreS c xs)), st) else none
      | none => none
    | _ => none
  | _ => none
theorem crcOv_ok {args : List AV} {st : St} {r : AV × St} (h : crcOv args st = some r) : ACalls Tryd.prog 55 args (fun a st' => (a, st') = r) st := by
  unfold crcOv at h
  split at h
  · rename_i c id sz off len full
    split at h
    · rename_i vs ty hg
      split at h
      · rename_i xs hb
        split at h
        · rename_i hc
          cases h
          obtain ⟨h1, h2, h3⟩ := hc
          obtain ⟨k1, k2⟩ := bytesOf_at hb
          have e : crcMoreS c xs = crcMore c xs := by unfold crcMoreS crcMore; rw [strictFold_eq]
          rw [e]
          refine crcMore_ok c id sz off len full st vs ty xs h1 hg h2.symm h3 fun i hi => ?_
          have := k2 i (by omega)
          rw [List.getElem?_take, if_pos hi, List.getElem?_drop] at this
          exact this
        · cases h
      · cases h
    · cases h
  · cases h

def ovK : Ov := fun f args st => if f = 39 then usedOv args st else if f = 55 then crcOv args st else none
theorem ovK_ok : ∀ f args st r, ovK f args st = some r → ACalls Tryd.prog f args (fun a st' => (a, st') = r) st := by
  intro f args st r h
  unfold ovK at h
  split at h
  · rename_i hf; subst hf; exact usedOv_ok h
  · split at h
    · rename_i hf; subst hf; exact crcOv_ok h
    · cases h

def isTrue : Option (AV × St) → Bool | some (.val (.bool true), _) => true | _ => false
def g00 : G := { n := 0, blk := fun _ => 0, base := fun _ => 0, siz := fun _ => 0, M := fun _ => [] }
def st00 : St := ⟨0, .nil, [], []⟩
theorem ok00 (w : World) : OK g00 st00 w :=
  ⟨fun b h => absurd rfl h, fun id o h => by simp [st00, St.get, Tr.get] at h, fun id o _ _ h => by simp [st00, St.get, Tr.get] at h, fun id o h => by simp [st00, St.get, Tr.get] at h, rfl, fun p hp => by cases hp⟩
theorem closed {f k : Nat} (h : isTrue (evCall E0 ovK k f [] st00) = true) (W : World) : Calls Tryd.prog f #[] W fun e w' => e = .returned (.bool true) ∧ RowKit.Below W.heap.size W w' := by
  cases hr : evCall E0 ovK k f [] st00 with
  | none => rw [hr] at h; cases h
  | some r =>
    have hc := (ev_ok (envOf_ok (P := Tryd.prog) rfl) ovK_ok k).call f [] st00 r hr g00 W [] (ok00 W) (.nil _)
    refine hc.mono fun e w' ⟨g', st', a, v, h1, h2, h3, h4⟩ => ?_
    subst h4
    rw [hr] at h
    unfold isTrue at h
    split at h
    · rename_i heq
      cases heq
      rw [h3.val_inv] at h1
      exact ⟨h1, h2.os, h2.tape, h2.output, h2.size, fun b hb => h2.frame b hb fun id o ho => by
        have := (St.wget_get ho).1
        simp [st00, St.get, Tr.get] at this⟩
    · cases h
end
section
set_option maxRecDepth 4000
open Go
/-- A new row that a call of another making has left. -/
theorem step_below_row {g : G} {st : St} {w w' : World} (h : OK g st w) (hb : RowKit.Below w.heap.size w w') {B : Nat} (hB : w.heap.size ≤ B) {cur : Array Value} {ty : TypeId} (hc : w'.heap[B]? = some (.cells cur ty (0, 0))) {vs : List AV} {us : List Value}
    (hv : VRs g vs us) (h1 : ∀ u ∈ us, u.oneCell' = true) (hp : us <+: cur.toList) : Step g st w (g.add B 0 cur.size) (st.push (.row vs ty)) w' := by
  have hle := g.le_add B 0 cur.size
  refine ⟨hle, ⟨fun b hb' => ?_, fun id o' hg => ?_, fun id o1 id' o2 h1 h2 he => ?_, fun id o' hg => ?_, by simp [h.n], fun p hp => (h.glob p hp).mono hle⟩, hb.os, hb.tape, hb.output, hb.size, fun b hb' _ => hb.block b hb', fun id o' hg hlt => ?_, fun _ _ _ => rfl, rfl, rfl⟩
  · obtain ⟨cs, T, fr, k1, k2⟩ := h.imm b hb'
    exact ⟨cs, T, fr, by rw [hb.block b (h.immlt hb')]; exact k1, k2⟩
  · rw [St.get_push] at hg
    split at hg
    · rename_i e
      cases hg
      subst e
      refine ⟨Nat.lt_succ_self _, ?_⟩
      rw [← h.n]
      exact ⟨cur, (0, 0), us, by rw [G.add_blk]; exact hc, by simp, hv.mono hle, h1, by simpa using hp, .inl rfl⟩
    · obtain ⟨h1, h2⟩ := h.obj id o' hg
      exact ⟨Nat.lt_succ_of_lt h1, h2.keep hle (h.lt hg).1 (hb.block _ (h.lt hg).2)⟩
  · rw [St.get_push] at h1 h2
    rw [← h.n] at h1 h2
    split at h1 <;> split at h2
    · rename_i a b; exact a.trans b.symm
    · rename_i a b
      subst a
      rw [G.add_blk, hle.blk id' (h.lt h2).1] at he
      have := (h.lt h2).2
      omega
    · rename_i a b
      subst b
      rw [G.add_blk, hle.blk id (h.lt h1).1] at he
      have := (h.lt h1).2
      omega
    · rw [hle.blk id (h.lt h1).1, hle.blk id' (h.lt h2).1] at he
      exact h.inj id o1 id' o2 h1 h2 he
  · rw [St.get_push, ← h.n] at hg
    split at hg
    · rename_i e
      subst e
      rw [G.add_blk, G.add_M]
      by_cases hM : g.M B = []
      · exact hM
      · exact absurd (h.immlt hM) (by omega)
    · rw [hle.blk id (h.lt hg).1]
      exact h.sep id o' hg
  · rw [St.get_push, ← h.n] at hg
    split at hg
    · rename_i e
      subst e
      rw [G.add_blk] at hlt
      omega
    · exact ⟨id, o', hg, (hle.blk id (h.lt hg).1).symm, fun _ => ⟨rfl, rfl⟩⟩
theorem step_below {g : G} {st : St} {w w' : World} (h : OK g st w) (hb : RowKit.Below w.heap.size w w') : Step g st w g st w' :=
  ⟨.refl g, ⟨fun b hb' => by
      obtain ⟨cs, T, fr, k1, k2⟩ := h.imm b hb'
      exact ⟨cs, T, fr, by rw [hb.block b (h.immlt hb')]; exact k1, k2⟩, fun id o hg => ⟨(h.obj id o hg).1, (h.obj id o hg).2.keep (.refl g) (h.lt hg).1 (hb.block _ (h.lt hg).2)⟩, h.inj, h.sep, h.n, h.glob⟩,
    hb.os, hb.tape, hb.output, hb.size, fun b hb' _ => hb.block b hb', fun id o hg _ => ⟨id, o, hg, rfl, fun _ => ⟨rfl, rfl⟩⟩, fun _ _ _ => rfl, rfl, rfl⟩
end
section
set_option maxRecDepth 4000
open Go.Maps Go.Sort
def keysB : List (AV × AV) → Option (List (List UInt8))
  | [] => some []
  | (.val (.string s), _) :: r => (keysB r).map (s.data.toList :: ·)
  | _ => none
def insB (a : List UInt8) : List (List UInt8) → List (List UInt8)
  | [] => [a]
  | b :: r => if leB a b then a :: b :: r else b :: insB a r
def sortB : List (List UInt8) → List (List UInt8)
  | [] => []
  | a :: r => insB a (sortB r)
def pairB : List (List UInt8) → Bool
  | [] => true
  | a :: r => r.all (leB a) && pairB r
theorem pairB_ok : ∀ (l : List (List UInt8)), pairB l = true → l.Pairwise (fun a b => leB a b = true)
  | [], _ => .nil
  | a :: r, h => by
    simp only [pairB, Bool.and_eq_true, List.all_eq_true] at h
    exact .cons h.1 (pairB_ok r h.2)
theorem insB_perm (a : List UInt8) : ∀ l, (insB a l).Perm (a :: l)
  | [] => .refl _
  | b :: r => by
    unfold insB
    split
    · exact .refl _
    · exact ((insB_perm a r).cons b).trans (.swap a b r)
theorem sortB_perm : ∀ l, (sortB l).Perm l
  | [] => .refl _
  | a :: r => (insB_perm a _).trans ((sortB_perm r).cons a)
theorem keysB_at : ∀ {es : List (AV × AV)} {ks : List (List UInt8)}, keysB es = some ks → es.map (·.1) = ks.map fun l => AV.val (.string ⟨l.toArray⟩)
  | [], ks, h => by simp only [keysB, Option.some.injEq] at h; subst h; rfl
  | (a, b) :: r, ks, h => by
    unfold keysB at h
    split at h
    · cases ‹_ :: _ = []›
    · rename_i s y r' heq
      cases heq
      obtain ⟨k', hk, rfl⟩ := Option.map_eq_some_iff.1 h
      simp [keysB_at hk]
    · cases h
def namesOv (args : List AV) (st : St) : Option (AV × St) :=
  match args with
  | [.ptr d 0] => match st.get d with
    | some (.row (.mp m :: _) _) => match st.get m with
      | some (.map es _bs _clock) => match keysB es with
        | some ks =>
          if pairB (sortB ks) = true ∧ ks.Nodup ∧ (ks.all fun l => decide (l.length ≤ 1000000)) = true ∧ ks.length ≤ 1000000 then
            (match sortB ks with
             | [] => some (.nils, st)
             | _ => some (.sl st.next 1 0 ks.length false, st.push (.row ((sortB ks).map fun l => .val (.string ⟨l.toArray⟩)) 9))) else none
        | none => none
      | _ => none
    | _ => none
  | _ => none
def NamesC : Prop := ∀ (B O b nn : Nat) (D0 : DataW Unit) (R : Value → Option (DataW Unit × List MemPlace)) (w : World), w.cell? ⟨B, O, none⟩ = some (.map (some b)) → w.ownsMap Tryd.prog 9 R b nn D0 → Maps.size D0 ≤ maxLen → Maps.size D0 * 16 ≤ 140737488355328 →
  Calls Tryd.prog 27 #[.pointer (some ⟨B, O, none⟩)] w fun e w' => ∃ (v : Value) (ss : List (List UInt8)), e = .returned v ∧ ss.Perm (strKeys D0) ∧ w'.ownsRow w.heap.size 9 1 v ss.length ((ss.mergeSort leB).map encStr) ∧ (v = .slice none 0 0 ↔ ss = []) ∧ RowKit.Below w.heap.size w w'

theorem namesOv_ok (hN : NamesC) {args : List AV} {st : St} {r : AV × St} (h : namesOv args st = some r) : ACalls Tryd.prog 27 args (fun a st' => (a, st') = r) st := by
  unfold namesOv at h
  split at h
  · rename_i d
    split at h
    · rename_i m rest ty hd
      split at h
      · rename_i es bs clock hm
        split at h
        · rename_i ks hk
          split at h
          · rename_i hc
            obtain ⟨hc1, hc2, hc3, hc4⟩ := hc
            intro g w us hok hv
            obtain ⟨us0, k1, k2, k3⟩ := hok.row_cells hd
            obtain ⟨es', m1, m2, m3, m4, m5⟩ := hok.map_at hm
            have hkm := keysB_at hk
            obtain ⟨u0, hu0, hvu0⟩ := k1.get (i := 0) (c := .mp m) rfl
            have hvm := hvu0
            cases hvm with
            | mp _ hmid =>
            have hcell := k3 0 _ hu0
            have hkeys : es'.toList.map (·.key) = ks.map encStr := by
              have h1 := m2.1
              rw [hkm] at h1
              apply List.ext_getElem?
              intro i
              have hl := h1.1
              by_cases hi : i < ks.length
              · obtain ⟨u, hu1, hu2⟩ := h1.get (i := i) (c := .val (.string ⟨(ks[i]).toArray⟩)) (by rw [List.getElem?_map, List.getElem?_eq_getElem hi]; rfl)
                rw [hu1, List.getElem?_map, List.getElem?_eq_getElem hi, hu2.val_inv]
                rfl
              · rw [List.getElem?_eq_none (by rw [hl, List.length_map]; omega), List.getElem?_eq_none (by rw [List.length_map]; omega)]
            have hsz : es'.size = ks.length := by have := congrArg List.length hkeys; simpa using this
            have hku : Tryd.prog.underlying 9 = some .string := Tryd.underlying9
            have hkey : ∀ x ∈ es'.toList, ∃ l ∈ ks, x.key = encStr l := fun x hx => by
              have : x.key ∈ ks.map encStr := by rw [← hkeys]; exact List.mem_map_of_mem hx
              obtain ⟨l, hl, he⟩ := List.mem_map.1 this
              exact ⟨l, hl, he.symm⟩
            let R : Value → Option (DataW Unit × List MemPlace) := fun _ => some (.nil, [])
            have hrd : ∀ x ∈ es'.toList, ∀ l, x.key = encStr l → l ∈ ks → WideElems.rd Tryd.prog 9 R x = some (.string l, .nil) := fun x hx l hl hlm => by
              have hlen := List.all_eq_true.1 hc3 l hlm
              simp only [decide_eq_true_eq] at hlen
              unfold WideElems.rd
              rw [hl]
              simp only [keyOf, hku, mapKey, R]
              rw [if_pos (by simp only [maxLen, ByteArray.size, List.size_toArray]; omega)]
              simp
            have F : WideElems.Fit Tryd.prog 9 R es' clock := ⟨by simp only [maxLen]; omega, ⟨fun x hx => m5 _ (by rw [← m3]; exact List.mem_map_of_mem hx), by rw [m3]; exact m4, by
                rw [hkeys]
                exact List.Pairwise.map encStr (fun a b hab he => hab (encStr_inj he)) hc2⟩,
              fun x hx => by obtain ⟨l, hl, he⟩ := hkey x hx; exact ⟨_, hrd x hx l he hl⟩⟩
            have hown : w.ownsMap Tryd.prog 9 R (g.blk m) es'.size (.map ((es'.toList.map (WideElems.rg Tryd.prog 9 R)).foldr DataW.insert [])) := ⟨es', clock, m1, F, Nat.le_refl _, rfl⟩
            have hDs : Maps.size (DataW.map ((es'.toList.map (WideElems.rg Tryd.prog 9 R)).foldr DataW.insert [])) = ks.length := by
              simp only [Maps.size]
              rw [length_sorted]
              simp [hsz]
            have hperm : (strKeys (DataW.map ((es'.toList.map (WideElems.rg Tryd.prog 9 R)).foldr DataW.insert []))).Perm ks := by
              simp only [strKeys]
              refine ((WideShapes.sorted_perm _).map _).trans ?_
              rw [List.map_map]
              have : es'.toList.map ((fun p => strOf p.1) ∘ WideElems.rg Tryd.prog 9 R) = ks := by
                have e1 : ∀ x ∈ es'.toList, encStr (((fun p => strOf p.1) ∘ WideElems.rg Tryd.prog 9 R) x) = x.key := fun x hx => by
                  obtain ⟨l, hl, he⟩ := hkey x hx
                  simp only [Function.comp, WideElems.rg_of (hrd x hx l he hl), strOf, he]
                have e2 : (es'.toList.map ((fun p => strOf p.1) ∘ WideElems.rg Tryd.prog 9 R)).map encStr = ks.map encStr := by
                  rw [← hkeys, List.map_map]
                  exact List.map_congr_left e1
                exact (List.map_inj_right (fun a b hab => encStr_inj hab)).1 e2
              rw [this]
            have hgo := hN (g.blk d) (g.base d + 0) (g.blk m) es'.size _ R w hcell hown (by rw [hDs]; simp only [maxLen]; omega) (by rw [hDs]; omega)
            have hus : us.toArray = #[.pointer (some ⟨g.blk d, g.base d + 0, none⟩)] := by
              have hl := hv.1
              match us, hv, hl with
              | [u], hv, _ => rw [hv.head.ptr_inv.2]
            rw [hus]
            refine hgo.mono fun e w' ⟨v, ss, he, hp, hrow, hnil, hb⟩ => ?_
            have hss : ss.Perm ks := hp.trans hperm
            have hms : ss.mergeSort leB = sortB ks := by
              rw [mergeSort_of_perm (hss.trans (sortB_perm ks).symm)]
              exact List.mergeSort_of_pairwise (pairB_ok _ hc1)
            have hsl : ss.length = ks.length := hss.length_eq
            rw [hms] at hrow
            rcases hrow.2 with ⟨rfl, hz⟩ | ⟨gb, cap, cur, rfl, hge, hcur, q1, q2, q3, q4⟩
            · have : ks = [] := List.eq_nil_of_length_eq_zero (by omega)
              subst this
              simp only [sortB, Option.some.injEq] at h
              subst h
              exact ⟨g, st, _, _, he, step_below hok hb, .nils, rfl⟩
            · have hne : ks ≠ [] := by
                intro e
                subst e
                have : ss = [] := List.eq_nil_of_length_eq_zero hsl
                have := hnil.2 this
                cases this
              have hr : r = (.sl st.next 1 0 ks.length false, st.push (.row ((sortB ks).map fun l => .val (.string ⟨l.toArray⟩)) 9)) := by
                split at h
                · rename_i hs
                  have := (sortB_perm ks).length_eq
                  rw [hs] at this
                  exact absurd (List.eq_nil_of_length_eq_zero this.symm) hne
                · simpa using h.symm
              have hsb : (sortB ks).length = ks.length := (sortB_perm ks).length_eq
              have hvs : VRs g ((sortB ks).map fun l => AV.val (.string ⟨l.toArray⟩)) ((sortB ks).map encStr) := .of_get (by simp) fun i c u hc' hu => by
                rw [List.getElem?_map] at hc' hu
                obtain ⟨l, hl, rfl⟩ := Option.map_eq_some_iff.1 hc'
                rw [hl] at hu
                cases hu
                exact .val _ rfl
              have hpre : (sortB ks).map encStr <+: cur.toList := by
                rw [← q4]
                exact List.take_prefix _ _
              refine ⟨_, _, _, _, he, step_below_row hok hb hge hcur hvs (fun u hu => ?_) hpre, ?_, hr.symm⟩
              · obtain ⟨l, _, rfl⟩ := List.mem_map.1 hu
                rfl
              · have := VR.sl (g := g.add gb 0 cur.size) g.n 1 0 ks.length cap false (Nat.lt_succ_self _) (by rw [G.add_siz, q3]; omega) (by omega) (fun h => by cases h) q2
                rw [← hok.n, hsl]
                simpa using this
          · cases h
        · cases h
      · cases h
    · cases h
  · cases h
end
section
set_option maxRecDepth 4000
open Go.RowKit Go.Maps Go.Sort Go.Shelf

def Tryd.keys67_ren : Go.Shelf.Ren := ⟨fun | 7 => 42 | 10 => 59 | n => n, fun | 23 => 66 | 26 => 9 | 3 => 72 | 28 => 93 | 0 => 0 | 27 => 92 | 33 => 109 | 4 => 4 | n => n, fun | n => n⟩
theorem Tryd.keys67 : Go.Proofs.SlLaysZ.n7 Tryd.prog Tryd.keys67_ren := {
  mixed := by kernel_rfl
  f7 := ⟨Tryd.f42.name, by decide, Tryd.func42.trans (congrArg some (by kernel_rfl))⟩
  f10 := ⟨Tryd.f59.name, by decide, Tryd.func59.trans (congrArg some (by kernel_rfl))⟩
  t0 := Tryd.underlying0
  a0 := Tryd.isAgg0
  z0 := Tryd.sizeOf0
  v0 := Tryd.zeroValue0
  t4 := Tryd.underlying4
  a4 := Tryd.isAgg4
  z4 := Tryd.sizeOf4
  v4 := Tryd.zeroValue4
  t23 := Tryd.underlying66
  a23 := Tryd.isAgg66
  z23 := Tryd.sizeOf66
  v23 := Tryd.zeroValue66
  t26 := Tryd.underlying9
  a26 := Tryd.isAgg9
  z26 := Tryd.sizeOf9
  v26 := Tryd.zeroValue9
  t27 := Tryd.underlying92
  a27 := Tryd.isAgg92
  z27 := Tryd.sizeOf92
  v27 := Tryd.zeroValue92
  t28 := Tryd.underlying93
  a28 := Tryd.isAgg93
  z28 := Tryd.sizeOf93
  v28 := Tryd.zeroValue93
  t33 := Tryd.underlying109
  a33 := Tryd.isAgg109
  z33 := Tryd.sizeOf109
  v33 := Tryd.zeroValue109 }
def Tryd.sorted66_ren : Go.Shelf.Ren := ⟨fun | 6 => 41 | 8 => 57 | 9 => 58 | 11 => 67 | 13 => 69 | 12 => 68 | 23 => 85 | 24 => 86 | 14 => 76 | 15 => 77 | 16 => 78 | 17 => 79 | 18 => 80 | 19 => 81 | 20 => 82 | 21 => 83 | 22 => 84 | 25 => 91 | 26 => 92 | 27 => 93 | 28 => 94 | 29 => 95 | 30 => 96 | 31 => 99 | n => n, fun | 26 => 9 | 28 => 93 | 24 => 69 | 0 => 0 | 3 => 3 | 37 => 97 | 48 => 88 | 50 => 84 | 4 => 4 | 40 => 136 | 39 => 135 | 45 => 140 | 5 => 5 | 9 => 9 | 51 => 147 | 55 => 151 | 57 => 153 | 58 => 154 | 33 => 109 | n => n, fun | n => n⟩
theorem Tryd.sorted66 : Go.Proofs.SlLaysZ.n6 Tryd.prog Tryd.sorted66_ren := {
  mixed := by kernel_rfl
  f6 := ⟨Tryd.f41.name, by decide, Tryd.func41.trans (congrArg some (by kernel_rfl))⟩
  f8 := ⟨Tryd.f57.name, by decide, Tryd.func57.trans (congrArg some (by kernel_rfl))⟩
  f11 := ⟨Tryd.f67.name, by decide, Tryd.func67.trans (congrArg some (by kernel_rfl))⟩
  t0 := Tryd.underlying0
  a0 := Tryd.isAgg0
  z0 := Tryd.sizeOf0
  v0 := Tryd.zeroValue0
  t24 := Tryd.underlying69
  a24 := Tryd.isAgg69
  z24 := Tryd.sizeOf69
  v24 := Tryd.zeroValue69
  t26 := Tryd.underlying9
  a26 := Tryd.isAgg9
  z26 := Tryd.sizeOf9
  v26 := Tryd.zeroValue9
  t28 := Tryd.underlying93
  a28 := Tryd.isAgg93
  z28 := Tryd.sizeOf93
  v28 := Tryd.zeroValue93
  i26 := by kernel_rfl }
def Tryd.sort87_ren : Go.Shelf.Ren := ⟨fun | 6 => 58 | 8 => 69 | 9 => 68 | 19 => 85 | 20 => 86 | 21 => 76 | 22 => 77 | 23 => 78 | 24 => 79 | 25 => 80 | 26 => 81 | 27 => 82 | 28 => 83 | 29 => 84 | 36 => 91 | 31 => 92 | 32 => 93 | 37 => 94 | 38 => 95 | 39 => 96 | 41 => 99 | n => n, fun | 27 => 69 | 29 => 9 | 3 => 3 | 32 => 97 | 26 => 69 | 0 => 0 | 44 => 88 | 46 => 84 | 4 => 4 | 36 => 136 | 35 => 135 | 41 => 140 | 5 => 5 | 9 => 9 | 53 => 147 | 57 => 151 | 63 => 153 | 64 => 154 | n => n, fun | n => n⟩
theorem Tryd.sort87 : Go.Proofs.SlLaysM.n6 Tryd.prog Tryd.sort87_ren := {
  mixed := by kernel_rfl
  f6 := ⟨Tryd.f58.name, by decide, Tryd.func58.trans (congrArg some (by kernel_rfl))⟩
  f8 := Tryd.func69.trans (congrArg some (by kernel_rfl))
  f9 := ⟨Tryd.f68.name, by decide, Tryd.func68.trans (congrArg some (by kernel_rfl))⟩
  f19 := Tryd.func85.trans (congrArg some (by kernel_rfl))
  f20 := Tryd.func86.trans (congrArg some (by kernel_rfl))
  f21 := ⟨Tryd.f76.name, by decide, Tryd.func76.trans (congrArg some (by kernel_rfl))⟩
  f22 := ⟨Tryd.f77.name, by decide, Tryd.func77.trans (congrArg some (by kernel_rfl))⟩
  f23 := ⟨Tryd.f78.name, by decide, Tryd.func78.trans (congrArg some (by kernel_rfl))⟩
  f24 := ⟨Tryd.f79.name, by decide, Tryd.func79.trans (congrArg some (by kernel_rfl))⟩
  f25 := ⟨Tryd.f80.name, by decide, Tryd.func80.trans (congrArg some (by kernel_rfl))⟩
  f26 := ⟨Tryd.f81.name, by decide, Tryd.func81.trans (congrArg some (by kernel_rfl))⟩
  f27 := ⟨Tryd.f82.name, by decide, Tryd.func82.trans (congrArg some (by kernel_rfl))⟩
  f28 := ⟨Tryd.f83.name, by decide, Tryd.func83.trans (congrArg some (by kernel_rfl))⟩
  f29 := ⟨Tryd.f84.name, by decide, Tryd.func84.trans (congrArg some (by kernel_rfl))⟩
  f31 := Tryd.func92.trans (congrArg some (by kernel_rfl))
  f32 := Tryd.func93.trans (congrArg some (by kernel_rfl))
  f36 := ⟨Tryd.f91.name, by decide, Tryd.func91.trans (congrArg some (by kernel_rfl))⟩
  f37 := ⟨Tryd.f94.name, by decide, Tryd.func94.trans (congrArg some (by kernel_rfl))⟩
  f38 := ⟨Tryd.f95.name, by decide, Tryd.func95.trans (congrArg some (by kernel_rfl))⟩
  f39 := ⟨Tryd.f96.name, by decide, Tryd.func96.trans (congrArg some (by kernel_rfl))⟩
  f41 := ⟨Tryd.f99.name, by decide, Tryd.func99.trans (congrArg some (by kernel_rfl))⟩
  t0 := Tryd.underlying0
  a0 := Tryd.isAgg0
  z0 := Tryd.sizeOf0
  v0 := Tryd.zeroValue0
  t3 := Tryd.underlying3
  a3 := Tryd.isAgg3
  z3 := Tryd.sizeOf3
  v3 := Tryd.zeroValue3
  t4 := Tryd.underlying4
  a4 := Tryd.isAgg4
  z4 := Tryd.sizeOf4
  v4 := Tryd.zeroValue4
  t5 := Tryd.underlying5
  a5 := Tryd.isAgg5
  z5 := Tryd.sizeOf5
  v5 := Tryd.zeroValue5
  t9 := Tryd.underlying9
  a9 := Tryd.isAgg9
  z9 := Tryd.sizeOf9
  v9 := Tryd.zeroValue9
  t26 := Tryd.underlying69
  a26 := Tryd.isAgg69
  z26 := Tryd.sizeOf69
  v26 := Tryd.zeroValue69
  t27 := Tryd.underlying69
  a27 := Tryd.isAgg69
  z27 := Tryd.sizeOf69
  v27 := Tryd.zeroValue69
  t29 := Tryd.underlying9
  a29 := Tryd.isAgg9
  z29 := Tryd.sizeOf9
  v29 := Tryd.zeroValue9
  t32 := Tryd.underlying97
  a32 := Tryd.isAgg97
  z32 := Tryd.sizeOf97
  v32 := Tryd.zeroValue97
  t35 := Tryd.underlying135
  a35 := Tryd.isAgg135
  z35 := Tryd.sizeOf135
  v35 := Tryd.zeroValue135
  t36 := Tryd.underlying136
  a36 := Tryd.isAgg136
  z36 := Tryd.sizeOf136
  v36 := Tryd.zeroValue136
  t41 := Tryd.underlying140
  a41 := Tryd.isAgg140
  z41 := Tryd.sizeOf140
  v41 := Tryd.zeroValue140
  t44 := Tryd.underlying88
  a44 := Tryd.isAgg88
  z44 := Tryd.sizeOf88
  v44 := Tryd.zeroValue88
  t46 := Tryd.underlying84
  a46 := Tryd.isAgg84
  z46 := Tryd.sizeOf84
  v46 := Tryd.zeroValue84
  t53 := Tryd.underlying147
  a53 := Tryd.isAgg147
  z53 := Tryd.sizeOf147
  v53 := Tryd.zeroValue147
  t57 := Tryd.underlying151
  a57 := Tryd.isAgg151
  z57 := Tryd.sizeOf151
  v57 := Tryd.zeroValue151
  t63 := Tryd.underlying153
  a63 := Tryd.isAgg153
  z63 := Tryd.sizeOf153
  v63 := Tryd.zeroValue153
  t64 := Tryd.underlying154
  a64 := Tryd.isAgg154
  z64 := Tryd.sizeOf154
  v64 := Tryd.zeroValue154 }

theorem sorts66 (m : Nat) : AnyZ.SortsIn Tryd.prog Tryd.sorted66_ren Fence.wide m :=
  ⟨fun blk off cap ss W hH hblk hsz => callsIn_wide.2 (AnyM.slices_Sort_string Tryd.sort87 blk off cap ss W hH hblk hsz),
   fun p cap W => callsIn_wide.2 (AnyM.slices_Sort_string_none Tryd.sort87 p cap W)⟩
theorem keys67C (mb : Option Nat) (W : World) : CallsIn Fence.wide 5 Tryd.prog 42 #[.map mb] W fun e w' => e = .returned (.func (.func 59) #[] #[.pointer (some ⟨W.heap.size, 0, none⟩)]) ∧ w' = W.alloc (.cells #[.map mb] 66) :=
  AnyZ.keys_in Tryd.keys67 Fence.wide 5 trivial rfl mb W

set_option maxHeartbeats 1000000 in
theorem sorted66C {H : Type} (b nn : Nat) (D0 : DataW H) (R : Value → Option (DataW H × List MemPlace)) (w : World) (hown : w.ownsMap Tryd.prog 9 R b nn D0) (hmax : Maps.size D0 ≤ maxLen) (hbytes : Maps.size D0 * 16 ≤ 140737488355328) :
    CallsIn Fence.wide 5 Tryd.prog 41 #[.func (.func 59) #[] #[.pointer (some ⟨w.heap.size, 0, none⟩)]] (w.alloc (.cells #[.map (some b)] 66)) fun e w' => ∃ (v : Value) (ss : List (List UInt8)), e = .returned v ∧ ss.Perm (strKeys D0) ∧
      w'.ownsRow (w.alloc (.cells #[.map (some b)] 66)).heap.size 9 1 v ss.length ((ss.mergeSort (fun x y => decide (x ≤ y))).map encStr) ∧ (v = .slice none 0 0 ↔ ss = []) ∧ Below (w.alloc (.cells #[.map (some b)] 66)).heap.size (w.alloc (.cells #[.map (some b)] 66)) w' := by
  have hbl := hown.lt
  have hseq : SeqGives Fence.wide 2 Tryd.prog 59 #[.pointer (some ⟨w.heap.size, 0, none⟩)] encStr (fun ss => ss.Perm (strKeys D0)) (Maps.size D0) (w.alloc (.cells #[.map (some b)] 66)) :=
    AnyZ.keys_gives (ρ := Tryd.keys67_ren) { Tryd.keys67 with } Fence.wide _ trivial rfl (by omega) w.heap.size b nn D0 _ (by simp) (by simp) (by
      obtain ⟨es, clock, hb, Ft, hs, hD⟩ := hown
      exact ⟨es, clock, (Below.heap_alloc _ _ b hbl).trans hb, Ft, hs, hD⟩)
  exact AnyZ.sorted_in Tryd.sorted66 Fence.wide 5 trivial trivial trivial trivial rfl (by omega) (sorts66 _) (enters_of Tryd.func58 (by kernel_rfl) rfl) 59 #[.pointer (some ⟨w.heap.size, 0, none⟩)] trivial (enters_of Tryd.func59 (by kernel_rfl) rfl) _ _ hmax hbytes _ hseq

set_option maxHeartbeats 1000000 in
theorem namesC : NamesC := by
  intro B O b nn D0 R w hcell hown hmax hbytes
  refine (callsIn_wide (n := 6)).1 ?_
  have hfK : Fence.wide.fn 42 := trivial
  have hfS : Fence.wide.fn 41 := trivial
  refine callsIn_of_wp Tryd.func27 rfl trivial ?_ rfl
  simp only [Tryd.ntmps27, List.size_toArray, List.length_cons, List.length_nil, Nat.reduceAdd, Nat.reduceSub, Array.replicate_succ, Array.replicate_zero, List.push_toArray, List.append_toArray, List.nil_append, List.cons_append]
  gi_wp2_with (first
    | (gi_at_call 42; refine (keys67C _ _).mono ?_; rintro e w' ⟨rfl, rfl⟩)
    | (gi_at_call 41; refine (sorted66C b nn D0 R w hown hmax hbytes).mono ?_; rintro e w' ⟨v, ss, rfl, hS, hrow, hnil, hb⟩))
  go_ret
  exact ⟨v, ss, rfl, hS, ownsRow_base_a hrow (by simp), hnil, ((Below.refl _ w).alloc (Nat.le_refl _) _).trans (hb.mono (by simp))⟩
end
section
set_option maxRecDepth 4000
def ovF : Ov := fun f args st => if f = 27 then namesOv args st else ovK f args st
theorem ovF_ok : ∀ f args st r, ovF f args st = some r → ACalls Tryd.prog f args (fun a st' => (a, st') = r) st := by
  intro f args st r h
  unfold ovF at h
  split at h
  · rename_i hf; subst hf; exact namesOv_ok namesC h
  · exact ovK_ok f args st r h
theorem closedF {f k : Nat} (h : isTrue (evCall E0 ovF k f [] st00) = true) (W : World) : Calls Tryd.prog f #[] W fun e w' => e = .returned (.bool true) ∧ RowKit.Below W.heap.size W w' := by
  cases hr : evCall E0 ovF k f [] st00 with
  | none => rw [hr] at h; cases h
  | some r =>
    have hc := (ev_ok (envOf_ok (P := Tryd.prog) rfl) ovF_ok k).call f [] st00 r hr g00 W [] (ok00 W) (.nil _)
    refine hc.mono fun e w' ⟨g', st', a, v, h1, h2, h3, h4⟩ => ?_
    subst h4
    rw [hr] at h
    unfold isTrue at h
    split at h
    · rename_i heq
      cases heq
      rw [h3.val_inv] at h1
      exact ⟨h1, h2.os, h2.tape, h2.output, h2.size, fun b hb => h2.frame b hb fun id o ho => by
        have := (St.wget_get ho).1
        simp [st00, St.get, Tr.get] at this⟩
    · cases h
end
section
set_option maxRecDepth 4000
theorem laid_head {P : Program} {W : World} {name : String} {k : IntKind} {zs : List Int} {rest : List (String × DataW Unit)} {g : Nat} {t e : TypeId} {n : Nat} {ps : List MemPlace}
    (hg : P.globalNamed name = some g) (hty : (P.globals[g]?).map (·.type) = some t) (ht : P.underlying t = some (.array n e)) (he : P.underlying e = some (.int k)) (hce : P.cellsOf e = 1) (hct : P.cellsOf t = n)
    (h : DataW.LaidVars P W ((name, Lib.tabData k zs) :: rest) ps) : Lib.TabIs P W name k zs ∧ ∃ q, DataW.LaidVars P W rest q := by
  obtain ⟨g', t', cs, fuel, p, q, hg', ht', hvar, hd, hq, _⟩ := h
  obtain rfl := Option.some.inj (hg.symm.trans hg')
  obtain rfl := Option.some.inj (hty.symm.trans ht')
  refine ⟨?_, q, hq⟩
  unfold Lib.TabIs
  rw [hvar, ← Lib.cells_of_tab ht he hce hct hd]
def zs32 : List Int := [0, 1, 28, 2, 29, 14, 24, 3, 30, 22, 20, 15, 25, 17, 4, 8, 31, 27, 13, 23, 21, 19, 16, 7, 26, 12, 18, 6, 11, 5, 10, 9]
def zs64 : List Int := [0, 1, 56, 2, 57, 49, 28, 3, 61, 58, 42, 50, 38, 29, 17, 4, 62, 47, 59, 36, 45, 43, 51, 22, 53, 39, 33, 30, 24, 18, 12, 5, 63, 55, 48, 27, 60, 41, 37, 16, 46, 35, 44, 21, 52, 32, 23, 11, 54, 26, 40, 15, 34, 20, 31, 10, 25, 14, 19, 9, 13, 8, 7, 6]
def zs10 : List Int := [1, 10, 100, 1000, 10000, 100000, 1000000, 10000000, 100000000, 1000000000, 10000000000, 100000000000, 1000000000000, 10000000000000, 100000000000000, 1000000000000000, 10000000000000000, 100000000000000000, 1000000000000000000, 10000000000000000000]
def intsAV (k : IntKind) (zs : List Int) : List AV := zs.map fun z => .val (.int k z)
/-- a table in the world: its variable's block holds it -/
theorem TabIs.heap {P : Program} {W : World} {name : String} {k : IntKind} {zs : List Int} (h : Lib.TabIs P W name k zs) {g : Nat} (hg : P.globalNamed name = some g) : ∃ T fr, W.heap[g]? = some (.cells (zs.map fun z => Value.int k z).toArray T fr) := by
  unfold Lib.TabIs World.var? at h
  rw [hg] at h
  simp only [Option.bind_some] at h
  split at h
  · rename_i cs T fr hh
    simp only [Option.some.injEq] at h
    subst h
    exact ⟨T, fr, hh⟩
  · cases h
def tabM (tabs : List (Nat × IntKind × List Int)) (b : Nat) : List Value :=
  match tabs with
  | [] => []
  | (i, k, zs) :: r => if i = b then zs.map fun z => Value.int k z else tabM r b
def gTab (tabs : List (Nat × IntKind × List Int)) : G := { n := 0, blk := fun _ => 0, base := fun _ => 0, siz := fun _ => 0, M := tabM tabs }
def stTab (tabs : List (Nat × IntKind × List Int)) : St := ⟨0, .nil, [], tabs.map fun t => (t.1, intsAV t.2.1 t.2.2)⟩
def TabsIn (W : World) (tabs : List (Nat × IntKind × List Int)) : Prop := ∀ t ∈ tabs, ∃ T fr, W.heap[t.1]? = some (.cells (t.2.2.map fun z => Value.int t.2.1 z).toArray T fr)
theorem tabM_mem : ∀ {tabs : List (Nat × IntKind × List Int)} {b : Nat}, tabM tabs b ≠ [] → ∃ t ∈ tabs, t.1 = b ∧ tabM tabs b = t.2.2.map fun z => Value.int t.2.1 z
  | [], b, h => absurd rfl h
  | (i, k, zs) :: r, b, h => by
    unfold tabM at h ⊢
    split
    · rename_i e; exact ⟨_, List.mem_cons_self .., e, rfl⟩
    · rename_i e
      rw [if_neg e] at h
      obtain ⟨t, ht, h1, h2⟩ := tabM_mem h
      exact ⟨t, List.mem_cons_of_mem _ ht, h1, h2⟩
theorem tabM_at : ∀ {tabs : List (Nat × IntKind × List Int)}, (tabs.map (·.1)).Nodup → ∀ t ∈ tabs, tabM tabs t.1 = t.2.2.map fun z => Value.int t.2.1 z
  | [], _, t, h => by cases h
  | (i, k, zs) :: r, hn, t, h => by
    obtain ⟨h1, h2⟩ := List.nodup_cons.1 hn
    unfold tabM
    rcases List.mem_cons.1 h with rfl | h
    · simp
    · rw [if_neg, tabM_at h2 t h]
      intro e
      exact h1 (by rw [e]; exact List.mem_map.2 ⟨t, h, rfl⟩)
theorem okTab {tabs : List (Nat × IntKind × List Int)} (hn : (tabs.map (·.1)).Nodup) {W : World} (h : TabsIn W tabs) : OK (gTab tabs) (stTab tabs) W :=
  ⟨fun b hb => by
    obtain ⟨t, ht, rfl, he⟩ := tabM_mem hb
    obtain ⟨T, fr, hh⟩ := h t ht
    refine ⟨_, T, fr, hh, ?_⟩
    show tabM tabs t.1 <+: _
    rw [he]
    exact List.prefix_refl _, fun id o h => by simp [stTab, St.get, Tr.get] at h, fun id o _ _ h => by simp [stTab, St.get, Tr.get] at h, fun id o h => by simp [stTab, St.get, Tr.get] at h, rfl, fun p hp => by
    obtain ⟨t, ht, rfl⟩ := List.mem_map.1 hp
    have hv : VRs (gTab tabs) (intsAV t.2.1 t.2.2) (t.2.2.map fun z => Value.int t.2.1 z) := .of_get (by simp [intsAV]) fun i c u hc hu => by
      unfold intsAV at hc
      rw [List.getElem?_map] at hc hu
      obtain ⟨z, hz, rfl⟩ := Option.map_eq_some_iff.1 hc
      rw [hz] at hu
      cases hu
      exact .val _ rfl
    refine .iptr _ _ _ hv.1 hv.2 (fun u hu => ?_) ⟨rfl, ?_⟩
    · obtain ⟨z, _, rfl⟩ := List.mem_map.1 hu
      rfl
    · show _ <+: (tabM tabs t.1).drop 0
      rw [tabM_at hn t ht]
      exact List.prefix_refl _⟩
theorem closedT {f k : Nat} {tabs : List (Nat × IntKind × List Int)} (hn : (tabs.map (·.1)).Nodup) (h : isTrue (evCall E0 ovF k f [] (stTab tabs)) = true) {W : World} (hW : TabsIn W tabs) : Calls Tryd.prog f #[] W fun e w' => e = .returned (.bool true) ∧ RowKit.Below W.heap.size W w' := by
  cases hr : evCall E0 ovF k f [] (stTab tabs) with
  | none => rw [hr] at h; cases h
  | some r =>
    have hc := (ev_ok (envOf_ok (P := Tryd.prog) rfl) ovF_ok k).call f [] (stTab tabs) r hr (gTab tabs) W [] (okTab hn hW) (.nil _)
    refine hc.mono fun e w' ⟨g', st', a, v, h1, h2, h3, h4⟩ => ?_
    subst h4
    rw [hr] at h
    unfold isTrue at h
    split at h
    · rename_i heq
      cases heq
      rw [h3.val_inv] at h1
      exact ⟨h1, h2.os, h2.tape, h2.output, h2.size, fun b hb => h2.frame b hb fun id o ho => by
        have := (St.wget_get ho).1
        simp [stTab, St.get, Tr.get] at this⟩
    · cases h
def tabsD : List (Nat × IntKind × List Int) := [(2, .u8, zs32), (3, .u8, zs64), (0, .u64, zs10)]
end
section
set_option maxRecDepth 100000
abbrev u8 (n : Int) : AV := .val (.int .u8 n)
abbrev u16 (n : Int) : AV := .val (.int .u16 n)
abbrev i64 (n : Int) : AV := .val (.int .i64 n)
abbrev str (s : ByteArray) : AV := .val (.string s)
abbrev TT : AV := .val (.bool true)
abbrev FF : AV := .val (.bool false)
def bo (b : Bool) : AV := .val (.bool b)
theorem hE : EOK' Tryd.prog E0 := envOf_ok (P := Tryd.prog) rfl
def obC (f : Nat) (args : List AV) (st : St) (a : AV) (st' : St) : Prop := ACalls Tryd.prog f args (fun r s => r = a ∧ s = st') st
def obL (st : St) (t : Nat) (p a : AV) : Prop := loadA E0 st t p = some a ∧ st = st
/-- a file of the disk -/
structure PF where
  name : ByteArray
  dv : AV
  bytes : List Int
  last : Nat
def ent (f : PF) : AV × AV := (str f.name, .agg [f.dv, i64 f.last])
theorem sameStr (a b : ByteArray) : Instr.sameNow .string (.string a) (.string b) = some (a == b) := by
  unfold Instr.sameNow
  rfl
def find : ByteArray → List PF → Option Nat
  | _, [] => none
  | n, f :: r => if n == f.name then some 0 else (find n r).map (· + 1)
theorem findA_ent (n : ByteArray) : ∀ (L : List PF) (i : Nat), findA .string (.string n) (L.map ent) i = some ((find n L).map fun k => (i + k, (ent (L.getD k ⟨n, .nils, [], 0⟩)).2))
  | [], i => rfl
  | f :: r, i => by
    simp only [List.map_cons, findA, ent, str, sameStr, find]
    by_cases h : (n == f.name) = true
    · simp [h]
    · simp only [h, Bool.false_eq_true, if_false]
      rw [findA_ent n r (i + 1)]
      cases find n r with
      | none => rfl
      | some k => simp [Nat.add_assoc, Nat.add_comm 1 k, ent]
theorem ty101' : E0.ty 66 = some ⟨.map 9 72, 1, 8, some (.map none)⟩ := by kernel_rfl
theorem key9 : plainKey E0 9 = some .string := by kernel_rfl
theorem z105 : ∃ i z, E0.ty 72 = some i ∧ i.zero = some z ∧ cv z = .agg [.nils, i64 0] := ⟨_, _, rfl, rfl, by kernel_rfl⟩
section
variable {st : St} {m : Nat} {bs : List Nat} {clock : Nat} {L : List PF} {n : ByteArray}
theorem lookup_hit (hm : st.get m = some (.map (L.map ent) bs clock)) {k : Nat} {f : PF} (hk : find n L = some k) (hf : L[k]? = some f) (ok : Bool) : lookupA E0 st 66 (.mp m) (str n) ok = some (if ok then .tup [(ent f).2, TT] else (ent f).2) := by
  obtain ⟨i, z, h1, h2, h3⟩ := z105
  simp only [lookupA, ty101', key9, h1, h2, hm, findA_ent, hk, Option.map_some, List.getD_eq_getElem?_getD, hf, Option.getD_some]
theorem lookup_miss (hm : st.get m = some (.map (L.map ent) bs clock)) (hk : find n L = none) (ok : Bool) : lookupA E0 st 66 (.mp m) (str n) ok = some (if ok then .tup [.agg [.nils, i64 0], FF] else .agg [.nils, i64 0]) := by
  obtain ⟨i, z, h1, h2, h3⟩ := z105
  simp only [lookupA, ty101', key9, h1, h2, hm, findA_ent, hk, Option.map_none, h3]
theorem update_hit (hm : st.get m = some (.map (L.map ent) bs clock)) (hl : m ∉ st.lock) {k : Nat} (hk : find n L = some k) (f : PF) (hn : f.name = n) : mapUpdateA E0 st 66 (.mp m) (str n) (ent f).2 = some (st.set m (.map ((L.set k f).map ent) bs clock)) := by
  simp only [mapUpdateA, ty101', key9, St.wget_of hm hl, findA_ent, hk, Option.map_some, Nat.zero_add, List.map_set]
  rw [← hn]; rfl
theorem update_miss (hm : st.get m = some (.map (L.map ent) bs clock)) (hl : m ∉ st.lock) (hk : find n L = none) (f : PF) (hn : f.name = n) : mapUpdateA E0 st 66 (.mp m) (str n) (ent f).2 = some (st.set m (.map ((L ++ [f]).map ent) (bs ++ [clock]) (clock + 1))) := by
  simp only [mapUpdateA, ty101', key9, St.wget_of hm hl, findA_ent, hk, Option.map_none, List.map_append, List.map_cons, List.map_nil]
  rw [← hn]; rfl
theorem delete_hit (hm : st.get m = some (.map (L.map ent) bs clock)) (hl : m ∉ st.lock) {k : Nat} (hk : find n L = some k) : mapDeleteA E0 st 66 (.mp m) (str n) = some (st.set m (.map ((L.eraseIdx k).map ent) (bs.eraseIdx k) clock)) := by
  simp only [mapDeleteA, ty101', key9, St.wget_of hm hl, findA_ent, hk, Option.map_some, Nat.zero_add, map_eraseIdx]
end
theorem ba_eq {a b : ByteArray} (h : (a == b) = true) : a = b := by
  cases a with
  | mk x => cases b with
    | mk y =>
      have h' : (x == y) = true := h
      rw [eq_of_beq h']
theorem ba_refl (a : ByteArray) : (a == a) = true := by
  cases a with
  | mk x => exact beq_self_eq_true x
theorem find_some : ∀ {n : ByteArray} {L : List PF} {k : Nat}, find n L = some k → ∃ f, L[k]? = some f ∧ f.name = n
  | n, [], k, h => by cases h
  | n, f :: r, k, h => by
    unfold find at h
    split at h
    · rename_i e
      cases h
      exact ⟨f, rfl, (ba_eq e).symm⟩
    · obtain ⟨j, hj, rfl⟩ := Option.map_eq_some_iff.1 h
      obtain ⟨g, h1, h2⟩ := find_some hj
      exact ⟨g, by simpa using h1, h2⟩
end
section
set_option maxRecDepth 100000
def boolI (s : Sem Value) : Bool := match s with | .pure (.bool b) => b | _ => false
def ltN (a b : Int) : Bool := boolI (binOp .lss 3 (.int .i64 a) (.int .i64 b))
def gtN (a b : Int) : Bool := boolI (binOp .gtr 3 (.int .i64 a) (.int .i64 b))
def geB (a b : Int) : Bool := boolI (binOp .geq 5 (.int .u8 a) (.int .u8 b))
def leB (a b : Int) : Bool := boolI (binOp .leq 5 (.int .u8 a) (.int .u8 b))
def eqB (a b : Int) : Bool := boolI (binOp .eql 5 (.int .u8 a) (.int .u8 b))
def neB (a b : Int) : Bool := boolI (binOp .neq 5 (.int .u8 a) (.int .u8 b))
def addN (a b : Int) : Int := valI (binOp .add 3 (.int .i64 a) (.int .i64 b))
def noOv : OvP := fun _ _ _ => none
def noS : Nat → List Nat := fun _ => []
noncomputable def mayP (i : Nat) : Code := match Tryd.f51.body with
  | some (.seq r0 (.seq (.seq r1 c1) (.seq (.seq r3 (.block 0 (.loop b))) (.seq r10 _)))) => [.seq r0 (.seq r1 c1), r3, b, r10, r0, .seq r1 c1].getD i .skip
  | _ => .skip
theorem body85 : Tryd.f51.body = some (.seq (mayP 4) (.seq (mayP 5) (.seq (.seq (mayP 1) (.block 0 (.loop (mayP 2)))) (.seq (mayP 3) .ret)))) := by kernel_rfl
noncomputable def mayEv (i : Nat) (l : List (Nat × AV)) (st : St) (x : List Or) := (evS Tryd.prog E0 noOv noS 100000 [7, 11, 16, 2020, 22, 25, 29, 32, 37, 41, 44] (mayP i) ⟨45, l, []⟩ st x).map fun q => (q.1, q.2.1.n, [q.2.1.get 0, q.2.1.get 2, q.2.1.get 14, q.2.1.get 15], q.2.2.1, q.2.2.2.2)
section
variable (s : ByteArray) (n k c j : Int) (st : St) (q : AV)
theorem may_a : mayEv 2 [(0, str s), (14, i64 n), (15, i64 k)] st [TT, .eff (u8 c) id, TT, TT, i64 j] = some (.normal, 45, [str s, .undef, i64 n, i64 j], st, [bo (ltN k n) = TT, indexA E0 9 (str s) (i64 k) = some (u8 c) ∧ st = st, bo (geB c 97) = TT, bo (leB c 122) = TT, i64 (addN k 1) = i64 j]) := by kernel_rfl
theorem may_d : mayEv 2 [(0, str s), (14, i64 n), (15, i64 k)] st [TT, .eff (u8 c) id, FF, TT, TT, i64 j] = some (.normal, 45, [str s, .undef, i64 n, i64 j], st, [bo (ltN k n) = TT, indexA E0 9 (str s) (i64 k) = some (u8 c) ∧ st = st, bo (geB c 97) = FF, bo (geB c 48) = TT, bo (leB c 57) = TT, i64 (addN k 1) = i64 j]) := by kernel_rfl
theorem may_m : mayEv 2 [(0, str s), (14, i64 n), (15, i64 k)] st [TT, .eff (u8 c) id, FF, FF, TT, i64 j] = some (.normal, 45, [str s, .undef, i64 n, i64 j], st, [bo (ltN k n) = TT, indexA E0 9 (str s) (i64 k) = some (u8 c) ∧ st = st, bo (geB c 97) = FF, bo (geB c 48) = FF, bo (eqB c 45) = TT, i64 (addN k 1) = i64 j]) := by kernel_rfl
theorem may_p : mayEv 2 [(0, str s), (14, i64 n), (15, i64 k)] st [TT, .eff (u8 c) id, FF, FF, FF, TT, i64 j] = some (.normal, 45, [str s, .undef, i64 n, i64 j], st, [bo (ltN k n) = TT, indexA E0 9 (str s) (i64 k) = some (u8 c) ∧ st = st, bo (geB c 97) = FF, bo (geB c 48) = FF, bo (eqB c 45) = FF, bo (eqB c 46) = TT, i64 (addN k 1) = i64 j]) := by kernel_rfl
theorem may_x : mayEv 2 [(0, str s), (14, i64 n), (15, i64 k)] st [TT, .eff (u8 c) id, TT, FF, TT, FF, FF, FF] = some (.ret, 45, [str s, FF, i64 n, i64 k], st, [bo (ltN k n) = TT, indexA E0 9 (str s) (i64 k) = some (u8 c) ∧ st = st, bo (geB c 97) = TT, bo (leB c 122) = FF, bo (geB c 48) = TT, bo (leB c 57) = FF, bo (eqB c 45) = FF, bo (eqB c 46) = FF]) := by kernel_rfl
theorem may_y : mayEv 2 [(0, str s), (14, i64 n), (15, i64 k)] st [TT, .eff (u8 c) id, FF, TT, FF, FF, FF] = some (.ret, 45, [str s, FF, i64 n, i64 k], st, [bo (ltN k n) = TT, indexA E0 9 (str s) (i64 k) = some (u8 c) ∧ st = st, bo (geB c 97) = FF, bo (geB c 48) = TT, bo (leB c 57) = FF, bo (eqB c 45) = FF, bo (eqB c 46) = FF]) := by kernel_rfl
theorem may_z : mayEv 2 [(0, str s), (14, i64 n), (15, i64 k)] st [TT, .eff (u8 c) id, FF, FF, FF, FF] = some (.ret, 45, [str s, FF, i64 n, i64 k], st, [bo (ltN k n) = TT, indexA E0 9 (str s) (i64 k) = some (u8 c) ∧ st = st, bo (geB c 97) = FF, bo (geB c 48) = FF, bo (eqB c 45) = FF, bo (eqB c 46) = FF]) := by kernel_rfl
theorem may_end : mayEv 2 [(0, str s), (14, i64 n), (15, i64 k)] st [FF] = some (.exit 0, 45, [str s, .undef, i64 n, i64 k], st, [bo (ltN k n) = FF]) := by kernel_rfl
theorem may_0 : mayEv 5 [(0, str s), (2, FF)] st [TT] = some (.ret, 45, [str s, FF, .undef, .undef], st, [bo (ltN s.size 1) = TT]) := by kernel_rfl
theorem may_1 : mayEv 5 [(0, str s), (2, FF)] st [FF, TT] = some (.ret, 45, [str s, FF, .undef, .undef], st, [bo (ltN s.size 1) = FF, bo (gtN s.size 32) = TT]) := by kernel_rfl
theorem may_2 : mayEv 5 [(0, str s), (2, FF)] st [FF, FF] = some (.normal, 45, [str s, FF, .undef, .undef], st, [bo (ltN s.size 1) = FF, bo (gtN s.size 32) = FF]) := by kernel_rfl
theorem may_5 : mayEv 4 [(0, str s)] st [] = some (.normal, 45, [str s, FF, .undef, .undef], st, []) := by kernel_rfl
theorem may_3 : mayEv 1 [(0, str s)] st [] = some (.normal, 45, [str s, .undef, i64 s.size, i64 0], st, []) := by kernel_rfl
theorem may_4 : mayEv 3 [] st [] = some (.normal, 45, [.undef, TT, .undef, .undef], st, []) := by kernel_rfl
end
end
section
set_option maxRecDepth 4000
theorem ob_T {b : Bool} (h : b = true) : bo b = TT := by rw [h]; rfl
theorem ob_F {b : Bool} (h : b = false) : bo b = FF := by rw [h]; rfl
theorem ltN_eq (a b : Int) : ltN a b = decide (a < b) := rfl
theorem gtN_eq (a b : Int) : gtN a b = decide (a > b) := rfl
theorem geB_eq (a b : Int) : geB a b = decide (a ≥ b) := rfl
theorem leB_eq (a b : Int) : leB a b = decide (a ≤ b) := rfl
theorem eqB_eq (a b : Int) : eqB a b = (a == b) := rfl
theorem neB_eq (a b : Int) : neB a b = (a != b) := rfl
theorem lt_F {a b : Int} (h : b ≤ a) : bo (ltN a b) = FF := ob_F (by rw [ltN_eq]; simp; omega)
theorem lt_T {a b : Int} (h : a < b) : bo (ltN a b) = TT := ob_T (by rw [ltN_eq]; simp; omega)
theorem gt_F {a b : Int} (h : a ≤ b) : bo (gtN a b) = FF := ob_F (by rw [gtN_eq]; simp; omega)
theorem gt_T {a b : Int} (h : b < a) : bo (gtN a b) = TT := ob_T (by rw [gtN_eq]; simp; omega)
theorem ge_F {a b : Int} (h : a < b) : bo (geB a b) = FF := ob_F (by rw [geB_eq]; simp; omega)
theorem ge_T {a b : Int} (h : b ≤ a) : bo (geB a b) = TT := ob_T (by rw [geB_eq]; simp; omega)
theorem le_F {a b : Int} (h : b < a) : bo (leB a b) = FF := ob_F (by rw [leB_eq]; simp; omega)
theorem le_T {a b : Int} (h : a ≤ b) : bo (leB a b) = TT := ob_T (by rw [leB_eq]; simp; omega)
theorem eq_T {a b : Int} (h : a = b) : bo (eqB a b) = TT := ob_T (by rw [eqB_eq, h]; simp)
theorem eq_F {a b : Int} (h : a ≠ b) : bo (eqB a b) = FF := ob_F (by rw [eqB_eq, beq_eq_false_iff_ne]; exact h)
theorem ne_F {a b : Int} (h : a = b) : bo (neB a b) = FF := ob_F (by rw [neB_eq, h]; simp)
theorem ne_T {a b : Int} (h : a ≠ b) : bo (neB a b) = TT := ob_T (by rw [neB_eq]; simpa using h)
theorem addN_eq (a b : Int) (h : 0 ≤ a + b ∧ a + b ≤ 9223372036854775807) : addN a b = a + b := by
  have : addN a b = IntKind.i64.wrap (a + b) := rfl
  rw [this, IntWalk.i64_in _ (by omega)]
/-- a sign that names may have -/
def mayC (c : Int) : Prop := (97 ≤ c ∧ c ≤ 122) ∨ (48 ≤ c ∧ c ≤ 57) ∨ c = 45 ∨ c = 46
instance (c : Int) : Decidable (mayC c) := by unfold mayC; infer_instance
def sg (s : ByteArray) (k : Nat) : Int := (((s[k]?).getD 0).toNat : Int)
theorem ty9' : ∃ i, E0.ty 9 = some i ∧ i.desc = .string := ⟨_, rfl, by kernel_rfl⟩
def mayS (s : ByteArray) : Prop := 1 ≤ s.size ∧ s.size ≤ 32 ∧ ∀ k, k < s.size → mayC (sg s k)
theorem index_ok (s : ByteArray) (k : Nat) (hk : k < s.size) : indexA E0 9 (str s) (i64 k) = some (u8 (sg s k)) := by
  obtain ⟨i, h1, h2⟩ := ty9'
  have hs : s[k]? = some s[k] := getElem?_pos s k hk
  simp only [indexA, h1, h2]
  rw [if_pos (by omega)]
  have e : ((k : Int)).toNat = k := rfl
  rw [e, sg, hs]; rfl
theorem any_run {c : Code} {ss : List Nat} {sites : Nat → List Nat} {n0 : Nat} {l : List (Nat × AV)} {st st1 : St} {x : List Or} {e : Exit} {n : Nat} {F : List AV} {ob : Ob} {G : Tm → List AV} (h : ((evS Tryd.prog E0 noOv sites 100000 ss c ⟨n0, l, []⟩ st x).map fun q => (q.1, q.2.1.n, G q.2.1, q.2.2.1, q.2.2.2.2)) = some (e, n, F, st1, ob)) (hob : ob.ok) {T : Tm} (hn : T.n = n0) (hT : ∀ p ∈ l, T.get p.1 = p.2) :
    AW Tryd.prog c (fun e' T' st' => e' = e ∧ T'.n = n ∧ G T' = F ∧ st' = st1) T st := by
  obtain ⟨⟨e1, T1, s1, x1, o1⟩, h1, h2⟩ := Option.map_eq_some_iff.1 h
  simp only [Prod.mk.injEq] at h2
  obtain ⟨rfl, h3, h4, rfl, rfl⟩ := h2
  refine (AW.run hE (ov := noOv) noOv_ok h1 hob hn hT).mono fun e' T' st' hp => ?_
  obtain ⟨rfl, rfl, rfl⟩ := hp
  exact ⟨rfl, h3, h4, rfl⟩
theorem one {P : Nat × AV → Prop} {p : Nat × AV} (h : P p) : ∀ q ∈ [p], P q := fun q hq => by obtain rfl := List.mem_singleton.1 hq; exact h
theorem conz {P : Nat × AV → Prop} {p : Nat × AV} {r : List (Nat × AV)} (h : P p) (h' : ∀ q ∈ r, P q) : ∀ q ∈ p :: r, P q := fun q hq => by
  rcases List.mem_cons.1 hq with rfl | hq
  · exact h
  · exact h' q hq
def GM (T : Tm) : List AV := [T.get 0, T.get 2, T.get 14, T.get 15]
theorem may_turn {s : ByteArray} {k : Nat} {T : Tm} {st : St} (hk : k < s.size) (hs : s.size ≤ 32) (hn : T.n = 45) (h0 : T.get 0 = str s) (h14 : T.get 14 = i64 s.size) (h15 : T.get 15 = i64 k) :
    AW Tryd.prog (mayP 2) (fun e T' st' => T'.n = 45 ∧ st' = st ∧ ((mayC (sg s k) ∧ e = .normal ∧ T'.get 0 = str s ∧ T'.get 14 = i64 s.size ∧ T'.get 15 = i64 ((k + 1 : Nat) : Int)) ∨ (¬ mayC (sg s k) ∧ e = .ret ∧ T'.get 2 = FF))) T st := by
  have hT : ∀ p ∈ [(0, str s), (14, i64 s.size), (15, i64 k)], T.get p.1 = p.2 := conz h0 (conz h14 (one h15))
  have hx := index_ok s k hk
  have hlt : bo (ltN k s.size) = TT := lt_T (by omega)
  have hadd : i64 (addN k 1) = i64 ((k + 1 : Nat) : Int) := by rw [addN_eq _ _ (by omega)]; rfl
  generalize sg s k = c at *
  have good : ∀ {x : List Or} {ob : Ob}, mayEv 2 [(0, str s), (14, i64 s.size), (15, i64 k)] st x = some (.normal, 45, [str s, .undef, i64 s.size, i64 ((k + 1 : Nat) : Int)], st, ob) → ob.ok → mayC c → AW Tryd.prog (mayP 2) (fun e T' st' => T'.n = 45 ∧ st' = st ∧ ((mayC c ∧ e = .normal ∧ T'.get 0 = str s ∧ T'.get 14 = i64 s.size ∧ T'.get 15 = i64 ((k + 1 : Nat) : Int)) ∨ (¬ mayC c ∧ e = .ret ∧ T'.get 2 = FF))) T st := fun h hob hc => by
    refine (any_run (G := GM) h hob hn hT).mono fun e T' st' ⟨he, hn', hF, hst⟩ => ?_
    simp only [GM, List.cons.injEq, and_true] at hF
    exact ⟨hn', hst, .inl ⟨hc, he, hF.1, hF.2.2.1, hF.2.2.2⟩⟩
  have bad : ∀ {x : List Or} {ob : Ob}, mayEv 2 [(0, str s), (14, i64 s.size), (15, i64 k)] st x = some (.ret, 45, [str s, FF, i64 s.size, i64 k], st, ob) → ob.ok → ¬ mayC c → AW Tryd.prog (mayP 2) (fun e T' st' => T'.n = 45 ∧ st' = st ∧ ((mayC c ∧ e = .normal ∧ T'.get 0 = str s ∧ T'.get 14 = i64 s.size ∧ T'.get 15 = i64 ((k + 1 : Nat) : Int)) ∨ (¬ mayC c ∧ e = .ret ∧ T'.get 2 = FF))) T st := fun h hob hc => by
    refine (any_run (G := GM) h hob hn hT).mono fun e T' st' ⟨he, hn', hF, hst⟩ => ?_
    simp only [GM, List.cons.injEq, and_true] at hF
    exact ⟨hn', hst, .inr ⟨hc, he, hF.2.1⟩⟩
  rcases Int.lt_or_le c 97 with h1 | h1
  · rcases Int.lt_or_le c 48 with h2 | h2
    · by_cases h3 : c = 45
      · exact good (may_m s s.size k c _ st) (by simp only [Ob.ok_cons, Ob.ok_nil, and_true]; exact ⟨hlt, hx, ge_F h1, ge_F h2, eq_T h3, hadd⟩) (.inr (.inr (.inl h3)))
      · by_cases h4 : c = 46
        · exact good (may_p s s.size k c _ st) (by simp only [Ob.ok_cons, Ob.ok_nil, and_true]; exact ⟨hlt, hx, ge_F h1, ge_F h2, eq_F h3, eq_T h4, hadd⟩) (.inr (.inr (.inr h4)))
        · exact bad (may_z s s.size k c st) (by simp only [Ob.ok_cons, Ob.ok_nil, and_true]; exact ⟨hlt, hx, ge_F h1, ge_F h2, eq_F h3, eq_F h4⟩) (by unfold mayC; omega)
    · rcases Int.lt_or_le 57 c with h3 | h3
      · exact bad (may_y s s.size k c st) (by simp only [Ob.ok_cons, Ob.ok_nil, and_true]; exact ⟨hlt, hx, ge_F h1, ge_T h2, le_F h3, eq_F (by omega), eq_F (by omega)⟩) (by unfold mayC; omega)
      · exact good (may_d s s.size k c _ st) (by simp only [Ob.ok_cons, Ob.ok_nil, and_true]; exact ⟨hlt, hx, ge_F h1, ge_T h2, le_T h3, hadd⟩) (.inr (.inl ⟨h2, h3⟩))
  · rcases Int.lt_or_le 122 c with h2 | h2
    · exact bad (may_x s s.size k c st) (by simp only [Ob.ok_cons, Ob.ok_nil, and_true]; exact ⟨hlt, hx, ge_T h1, le_F h2, ge_T (by omega), le_F (by omega), eq_F (by omega), eq_F (by omega)⟩) (by unfold mayC; omega)
    · exact good (may_a s s.size k c _ st) (by simp only [Ob.ok_cons, Ob.ok_nil, and_true]; exact ⟨hlt, hx, ge_T h1, le_T h2, hadd⟩) (.inl ⟨h1, h2⟩)
theorem may_loop {s : ByteArray} (hs : s.size ≤ 32) {T : Tm} {st : St} (hn : T.n = 45) (h0 : T.get 0 = str s) (h14 : T.get 14 = i64 s.size) (h15 : T.get 15 = i64 0) :
    AW Tryd.prog (.loop (mayP 2)) (fun e T' st' => T'.n = 45 ∧ st' = st ∧ ((e = .exit 0 ∧ ∀ k, k < s.size → mayC (sg s k)) ∨ (e = .ret ∧ T'.get 2 = FF ∧ ¬ ∀ k, k < s.size → mayC (sg s k)))) T st := by
  refine .loop (fun n T st' => ∃ k : Nat, k ≤ s.size ∧ n = s.size - k ∧ st' = st ∧ T.n = 45 ∧ T.get 0 = str s ∧ T.get 14 = i64 s.size ∧ T.get 15 = i64 k ∧ ∀ j, j < k → mayC (sg s j)) s.size ⟨0, by omega, rfl, rfl, hn, h0, h14, h15, fun j hj => by omega⟩ fun n T st' hI => ?_
  obtain ⟨k, hk, rfl, rfl, hn, h0, h14, h15, hg⟩ := hI
  by_cases hlt : k < s.size
  · refine (may_turn hlt hs hn h0 h14 h15).mono fun e T' st2 ⟨hn', hst, h⟩ => ?_
    subst hst
    rcases h with ⟨hc, rfl, q0, q14, q15⟩ | ⟨hc, rfl, q2⟩
    · refine ⟨s.size - (k + 1), by omega, k + 1, by omega, rfl, rfl, hn', q0, q14, q15, fun j hj => ?_⟩
      rcases Nat.lt_succ_iff_lt_or_eq.1 hj with h | rfl
      · exact hg j h
      · exact hc
    · exact ⟨hn', rfl, .inr ⟨rfl, q2, fun h => hc (h k hlt)⟩⟩
  · obtain rfl : k = s.size := by omega
    refine (any_run (G := GM) (may_end s s.size s.size st') (by simp only [Ob.ok_cons, Ob.ok_nil, and_true]; exact lt_F (by omega)) hn (conz h0 (conz h14 (one h15)))).mono fun e T' st2 ⟨he, hn', _, hst⟩ => ?_
    subst he; subst hst
    exact ⟨hn', rfl, .inl ⟨rfl, hg⟩⟩
instance (s : ByteArray) : Decidable (mayS s) := by unfold mayS; infer_instance
theorem may_ok (s : ByteArray) (st : St) : obC 51 [str s] st (bo (decide (mayS s))) st := by
  refine ACalls.body (E := E0) hE Tryd.func51 body85 ?_
  refine .seq ((any_run (G := GM) (may_5 s st) Ob.ok_nil rfl (one rfl)).mono fun e T1 s1 ⟨he, n1, F1, hst⟩ => ?_)
  subst he; subst hst
  simp only [GM, List.cons.injEq] at F1
  simp only [thenA]
  have hT := conz (P := fun p => T1.get p.1 = p.2) (p := (0, str s)) F1.1 (one (p := (2, FF)) F1.2.1)
  have fin : ∀ {T : Tm} {b : Bool}, T.get 2 = bo b → (mayS s ↔ b = true) → endA E0 Tryd.f51 (fun r s' => r = bo (decide (mayS s)) ∧ s' = s1) .ret T s1 := fun {T b} h hb => by
    refine ⟨[T.get 2], rfl, ?_, rfl⟩
    simp only [oneOrTup]
    rw [h]
    congr 1
    cases b
    · exact (decide_eq_false fun h => by have := hb.1 h; cases this).symm
    · exact (decide_eq_true (hb.2 rfl)).symm
  by_cases h1 : s.size < 1
  · refine .seq ((any_run (G := GM) (may_0 s s1) (by simp only [Ob.ok_cons, Ob.ok_nil, and_true]; exact lt_T (by omega)) n1 hT).mono fun e T' st' ⟨he, hn, hF, hst⟩ => ?_)
    subst he; subst hst
    simp only [GM, List.cons.injEq] at hF
    simp only [thenA]
    exact fin (b := false) hF.2.1 ⟨fun h => by have := h.1; omega, fun h => by cases h⟩
  by_cases h2 : 32 < s.size
  · refine .seq ((any_run (G := GM) (may_1 s s1) (by simp only [Ob.ok_cons, Ob.ok_nil, and_true]; exact ⟨lt_F (by omega), gt_T (by omega)⟩) n1 hT).mono fun e T' st' ⟨he, hn, hF, hst⟩ => ?_)
    subst he; subst hst
    simp only [GM, List.cons.injEq] at hF
    simp only [thenA]
    exact fin (b := false) hF.2.1 ⟨fun h => by have := h.2.1; omega, fun h => by cases h⟩
  refine .seq ((any_run (G := GM) (may_2 s s1) (by simp only [Ob.ok_cons, Ob.ok_nil, and_true]; exact ⟨lt_F (by omega), gt_F (by omega)⟩) n1 hT).mono fun e T2 s2 ⟨he, n2, hF, hst⟩ => ?_)
  subst he; subst hst
  simp only [GM, List.cons.injEq] at hF
  simp only [thenA]
  refine .seq (.seq ((any_run (G := GM) (may_3 s s2) Ob.ok_nil n2 (one hF.1)).mono fun e T3 s3 ⟨he, n3, hF3, hst⟩ => ?_))
  subst he; subst hst
  simp only [GM, List.cons.injEq, and_true] at hF3
  simp only [thenA]
  refine .block ((may_loop (by omega) n3 hF3.1 hF3.2.2.1 hF3.2.2.2).mono fun e T4 s4 ⟨n4, hst, h⟩ => ?_)
  subst hst
  rcases h with ⟨rfl, hall⟩ | ⟨rfl, q2, hno⟩
  · simp only [blockA, if_true, thenA]
    refine .seq ((any_run (G := GM) (may_4 s4) Ob.ok_nil n4 (fun p hp => by cases hp)).mono fun e T5 s5 ⟨he, n5, hF5, hst⟩ => ?_)
    subst he; subst hst
    simp only [GM, List.cons.injEq] at hF5
    simp only [thenA]
    exact .ret (fin (b := true) hF5.2.1 ⟨fun _ => rfl, fun _ => ⟨by omega, by omega, hall⟩⟩)
  · simp only [blockA, thenA]
    exact fin (b := false) q2 ⟨fun h => absurd h.2.2 hno, fun h => by cases h⟩
end
section
set_option maxRecDepth 4000
def GR (T : Tm) : List AV := [T.get 0, T.get 2, T.get 3, T.get 4]
end
section
set_option maxRecDepth 100000
def subN (a b : Int) : Int := valI (binOp .sub 3 (.int .i64 a) (.int .i64 b))
def eqN (a b : Int) : Bool := boolI (binOp .eql 3 (.int .i64 a) (.int .i64 b))
def sitesD : Nat → List Nat
  | 31 => [2018, 2025, 2031, 6051, 8000]
  | 40 => [2006, 7, 2011, 12, 2019, 20, 2026, 5000]
  | _ => []
noncomputable def dkEv (f : Nat) (args : List AV) (st : St) (o : List Or) := (evCallS Tryd.prog E0 noOv sitesD 100000 f args st o).map fun q => (q.1, q.2.1, q.2.2.2)
section
variable (d m : Nat) (st : St) (fu q fu' : Int) (f1 f2 : St → St) (off b : Bool)
theorem burn0 : dkEv 40 [.ptr d 0] st [.eff (i64 fu) id, TT] = some (FF, st, [obL st 3 (.ptr d 2) (i64 fu), bo (eqN fu 0) = TT]) := by kernel_rfl
theorem burn1 : dkEv 40 [.ptr d 0] st [.eff (i64 fu) id, FF, .eff (i64 fu) id, i64 fu', .eff .undef f1, .eff (i64 fu') id, bo b, .eff .undef f2, .eff (bo b) id] = some (bo b, f2 (f1 st),
  [obL st 3 (.ptr d 2) (i64 fu), bo (eqN fu 0) = FF, obL st 3 (.ptr d 2) (i64 fu), i64 (subN fu 1) = i64 fu', storeA E0 st 3 (.ptr d 2) (i64 fu') = some (f1 st), obL (f1 st) 3 (.ptr d 2) (i64 fu'), bo (eqN fu' 0) = bo b, storeA E0 (f1 st) 4 (.ptr d 3) (bo b) = some (f2 (f1 st)), obL (f2 (f1 st)) 4 (.ptr d 3) (bo b)]) := by kernel_rfl
theorem rdOff (there : Bool) (ns : AV) : dkEv 31 [.ptr d 0, bo there, ns] st [.eff (.mp m) id, .eff TT id] = some (i64 8, st, [obL st 66 (.ptr d 0) (.mp m), obL st 4 (.ptr d 3) TT]) := by kernel_rfl
theorem rdBad (there : Bool) (i : Nat) (fl : Bool) (n : ByteArray) : dkEv 31 [.ptr d 0, bo there, .sl i 1 0 1 fl] st [.eff (.mp m) id, .eff FF id, .eff (str n) id, .eff FF id] = some (i64 1, st, [obL st 66 (.ptr d 0) (.mp m), obL st 4 (.ptr d 3) FF, obL st 9 (.ptr i 0) (str n), obC 51 [str n] st FF st]) := by kernel_rfl
def idsD (d i m : Nat) : List Nat := [d, i, m]
def midSt (st : St) (ids : List Nat) (f1 : St → St) : St := (f1 (st.hide ids)).show st ids
/-- the end of ready: the first name is looked up -/
def obRd (d i m a : Nat) (st : St) (n : ByteArray) (w v : AV) (f1 f2 : St → St) : Ob :=
  [∀ k ∈ idsD d i m, k < st.next, (idsD d i m).contains d = true ∧ loadA E0 st 66 (.ptr d 0) = some (.mp m), (idsD d i m).contains i = true ∧ loadA E0 st 9 (.ptr i 0) = some (str n), (idsD d i m).contains m = true ∧ lookupA E0 st 66 (.mp m) (str n) true = some w,
   (true = true → (idsD d i m).all (fun k => (st.get k).isSome) = true), allocA E0 (st.hide (idsD d i m)) 72 = some (.ptr a 0, f1 (st.hide (idsD d i m))), (false = true → (idsD d i m).all (fun k => ((midSt st (idsD d i m) f1).get k).isSome) = true), storeA E0 (midSt st (idsD d i m) f1) 72 (.ptr a 0) v = some (f2 (midSt st (idsD d i m) f1))]
theorem rdHitT (i a : Nat) (fl : Bool) (n : ByteArray) (v : AV) : dkEv 31 [.ptr d 0, TT, .sl i 1 0 1 fl] st [.eff (.mp m) id, .eff FF id, .eff (str n) id, .eff TT id, .eff (.mp m) id, .eff (str n) id, .eff (.tup [v, TT]) id, .eff (.ptr a 0) f1, .eff .undef f2] = some (i64 0, f2 (midSt st (idsD d i m) f1),
  [obL st 66 (.ptr d 0) (.mp m), obL st 4 (.ptr d 3) FF, obL st 9 (.ptr i 0) (str n), obC 51 [str n] st TT st] ++ obRd d i m a st n (.tup [v, TT]) v f1 f2) := by kernel_rfl
theorem rdMissT (i a : Nat) (fl : Bool) (n : ByteArray) (v : AV) : dkEv 31 [.ptr d 0, TT, .sl i 1 0 1 fl] st [.eff (.mp m) id, .eff FF id, .eff (str n) id, .eff TT id, .eff (.mp m) id, .eff (str n) id, .eff (.tup [v, FF]) id, .eff (.ptr a 0) f1, .eff .undef f2] = some (i64 6, f2 (midSt st (idsD d i m) f1),
  [obL st 66 (.ptr d 0) (.mp m), obL st 4 (.ptr d 3) FF, obL st 9 (.ptr i 0) (str n), obC 51 [str n] st TT st] ++ obRd d i m a st n (.tup [v, FF]) v f1 f2) := by kernel_rfl
theorem rdHitF (i a : Nat) (fl : Bool) (n : ByteArray) (v : AV) : dkEv 31 [.ptr d 0, FF, .sl i 1 0 1 fl] st [.eff (.mp m) id, .eff FF id, .eff (str n) id, .eff TT id, .eff (.mp m) id, .eff (str n) id, .eff (.tup [v, TT]) id, .eff (.ptr a 0) f1, .eff .undef f2] = some (i64 0, f2 (midSt st (idsD d i m) f1),
  [obL st 66 (.ptr d 0) (.mp m), obL st 4 (.ptr d 3) FF, obL st 9 (.ptr i 0) (str n), obC 51 [str n] st TT st] ++ obRd d i m a st n (.tup [v, TT]) v f1 f2) := by kernel_rfl
theorem rdMissF (i a : Nat) (fl : Bool) (n : ByteArray) (v : AV) : dkEv 31 [.ptr d 0, FF, .sl i 1 0 1 fl] st [.eff (.mp m) id, .eff FF id, .eff (str n) id, .eff TT id, .eff (.mp m) id, .eff (str n) id, .eff (.tup [v, FF]) id, .eff (.ptr a 0) f1, .eff .undef f2] = some (i64 0, f2 (midSt st (idsD d i m) f1),
  [obL st 66 (.ptr d 0) (.mp m), obL st 4 (.ptr d 3) FF, obL st 9 (.ptr i 0) (str n), obC 51 [str n] st TT st] ++ obRd d i m a st n (.tup [v, FF]) v f1 f2) := by kernel_rfl
end
end
section
set_option maxRecDepth 4000
/-- the program's disk -/
structure PD (st : St) (d : Nat) (L : List PF) (q fu : Int) (off : Bool) (m : Nat) : Prop where
  row : st.get d = some (.row [.mp m, i64 q, i64 fu, bo off] 68)
  map : ∃ bs clock, st.get m = some (.map (L.map ent) bs clock)
theorem PD.ne {st : St} {d m : Nat} {L : List PF} {q fu : Int} {off : Bool} (h : PD st d L q fu off m) : d ≠ m := fun e => by
  obtain ⟨bs, c, hm⟩ := h.map
  rw [← e, h.row] at hm; cases hm
theorem load_row {st : St} {id : Nat} {vs : List AV} {ty : Nat} (hg : st.get id = some (.row vs ty)) {t off : Nat} {a : AV} (h : partA E0 t vs off = some a) : loadA E0 st t (.ptr id off) = some a := by
  simp only [loadA, hg, h]
theorem plainT {t : Nat} {i : TI} (h : E0.ty t = some i) (hi : isAggD i.desc = false) {vs : List AV} {off : Nat} {a : AV} (h2 : vs[off]? = some a) : partA E0 t vs off = some a := by
  simp only [partA, h, hi, Bool.false_eq_true, if_false, h2]
theorem ty9 : E0.ty 9 = some ⟨.string, 1, 16, some (.string ⟨#[]⟩)⟩ := by kernel_rfl
theorem p101 {vs : List AV} {off : Nat} {a : AV} (h : vs[off]? = some a) : partA E0 66 vs off = some a := plainT ty101' rfl h
theorem p3 {vs : List AV} {off : Nat} {a : AV} (h : vs[off]? = some a) : partA E0 3 vs off = some a := plainT ty3 rfl h
theorem p4 {vs : List AV} {off : Nat} {a : AV} (h : vs[off]? = some a) : partA E0 4 vs off = some a := plainT ty4 rfl h
theorem p9 {vs : List AV} {off : Nat} {a : AV} (h : vs[off]? = some a) : partA E0 9 vs off = some a := plainT ty9 rfl h
theorem alloc105 (st : St) : allocA E0 st 72 = some (.ptr st.next 0, st.push (.row [.nils, i64 0] 72)) := by kernel_rfl
theorem size105' : tySize E0 72 = some 2 := by kernel_rfl
theorem store105 {st : St} {a : Nat} {v0 v1 x y : AV} {ty : Nat} (hg : st.get a = some (.row [v0, v1] ty)) (hl : a ∉ st.lock) : storeA E0 st 72 (.ptr a 0) (.agg [x, y]) = some (st.set a (.row [x, y] ty)) := by
  simp only [storeA, avCells, St.wget_of hg hl, size105']
  simp
theorem dk_run {f : Nat} {args : List AV} {a : AV} {st st' : St} {o : List Or} {ob : Ob} (h : dkEv f args st o = some (a, st', ob)) (hob : ob.ok) : obC f args st a st' := by
  obtain ⟨⟨a1, s1, x1, o1⟩, h1, h2⟩ := Option.map_eq_some_iff.1 h
  simp only [Prod.mk.injEq] at h2
  obtain ⟨rfl, rfl, rfl⟩ := h2
  exact ACalls.run hE (ov := noOv) noOv_ok h1 hob
/-- a store that has lost nothing, with numbers used up -/
def bump (st : St) (k : Nat) : St := { st with next := st.next + k }
theorem bump_get (st : St) (k i : Nat) : (bump st k).get i = st.get i := rfl
theorem mid_get (st : St) (ids : List Nat) (o : AObj) (k : Nat) (hk : st.next ∉ ids) : (midSt st ids fun _ => (st.hide ids).push o).get k = if k = st.next then some o else st.get k := by
  unfold midSt
  rw [St.show_get]
  have hp : ((st.hide ids).push o).get k = if k = st.next then some o else st.get k := by
    rw [St.get_push]; rfl
  by_cases h : k ∈ ids ∧ (st.get k).isSome = true
  · rw [if_pos h, if_neg (fun e => hk (by rw [← e]; exact h.1))]
  · rw [if_neg h, hp]
theorem mid_next (st : St) (ids : List Nat) (o : AObj) : (midSt st ids fun _ => (st.hide ids).push o).next = st.next + 1 := by
  unfold midSt
  show (St.show1 _ _ _).next = _
  rw [St.show1_next]; rfl
theorem mid_lock (st : St) (ids : List Nat) (o : AObj) : (midSt st ids fun _ => (st.hide ids).push o).lock = st.lock := rfl
theorem mid_gl (st : St) (ids : List Nat) (o : AObj) : (midSt st ids fun _ => (st.hide ids).push o).gl = st.gl := by
  unfold midSt
  show (St.show1 _ _ _).gl = _
  rw [St.show1_gl]; rfl
/-- what ready answers to one name -/
def rdE (L : List PF) (off there : Bool) (n : ByteArray) : Int :=
  if off = true then 8 else if ¬ mayS n then 1 else if there = true ∧ find n L = none then 6 else 0
theorem rd_end {st : St} {d m i : Nat} {L : List PF} {q fu : Int} {bs : List Nat} {clock : Nat} (hrow : st.get d = some (.row [.mp m, i64 q, i64 fu, FF] 68)) (hm : st.get m = some (.map (L.map ent) bs clock)) (hw : st.wf) {n : ByteArray} {ty : Nat} {r : List AV} (hi : st.get i = some (.row (str n :: r) ty)) (hl : st.lock = [])
    {x y w : AV} (hlk : lookupA E0 st 66 (.mp m) (str n) true = some w) : ∃ f1 f2 : St → St, (obRd d i m st.next st n w (.agg [x, y]) f1 f2).ok ∧ (∀ k o, st.get k = some o → (f2 (midSt st (idsD d i m) f1)).get k = some o) ∧ (f2 (midSt st (idsD d i m) f1)).next = st.next + 1 ∧ (f2 (midSt st (idsD d i m) f1)).lock = st.lock ∧ (f2 (midSt st (idsD d i m) f1)).gl = st.gl := by
  have hd := hw _ _ hrow
  have hmm := hw _ _ hm
  have hii := hw _ _ hi
  have hk : st.next ∉ idsD d i m := by simp only [idsD, List.mem_cons, List.not_mem_nil, or_false]; omega
  refine ⟨fun _ => (st.hide (idsD d i m)).push (.row [.nils, i64 0] 72), fun _ => (midSt st (idsD d i m) fun _ => (st.hide (idsD d i m)).push (.row [.nils, i64 0] 72)).set st.next (.row [x, y] 72), ?_, fun k o ho => ?_, ?_, ?_, ?_⟩
  · unfold obRd
    simp only [Ob.ok_cons, Ob.ok_nil, and_true]
    refine ⟨fun k hk => ?_, ⟨by simp [idsD], load_row hrow (p101 rfl)⟩, ⟨by simp [idsD], load_row hi (p9 rfl)⟩, ⟨by simp [idsD], hlk⟩, fun _ => by simp [idsD, hrow, hm, hi], alloc105 _, (fun h => (by cases h)), ?_⟩
    · simp only [idsD, List.mem_cons, List.not_mem_nil, or_false] at hk
      rcases hk with rfl | rfl | rfl <;> assumption
    · exact store105 (by rw [mid_get _ _ _ _ hk, if_pos rfl]) (by rw [mid_lock, hl]; simp)
  · have := hw _ _ ho
    rw [St.get_set, if_neg (by omega), mid_get _ _ _ _ hk, if_neg (by omega)]; exact ho
  · exact mid_next st (idsD d i m) (.row [.nils, i64 0] 72)
  · exact mid_lock st (idsD d i m) (.row [.nils, i64 0] 72)
  · exact mid_gl st (idsD d i m) (.row [.nils, i64 0] 72)
theorem forget_bump {f : Nat} {args : List AV} {st st' : St} {a : AV} {k : Nat} (h : obC f args st a st') (h1 : ∀ i o, st.get i = some o → st'.get i = some o) (h2 : st'.next = st.next + k) (h3 : st'.lock = st.lock) (h4 : st'.gl = st.gl) : obC f args st a (bump st k) :=
  ACalls.forget h fun r s ⟨e1, e2⟩ _ => ⟨bump st k, ⟨e1, rfl⟩, by rw [e2]; exact h1, by rw [e2, h2]; rfl, by rw [e2, h3]; rfl, by rw [e2, h4]; rfl⟩
theorem ready_ok {st : St} {d m : Nat} {L : List PF} {q fu : Int} {off : Bool} (hp : PD st d L q fu off m) (hw : st.wf) {i : Nat} {fl : Bool} {n : ByteArray} {ty : Nat} (hi : st.get i = some (.row [str n] ty)) (hl : st.lock = []) (there : Bool) :
    ∃ k, obC 31 [.ptr d 0, bo there, .sl i 1 0 1 fl] st (i64 (rdE L off there n)) (bump st k) := by
  obtain ⟨bs, clock, hm⟩ := hp.map
  have o1 : obL st 66 (.ptr d 0) (.mp m) := ⟨load_row hp.row (p101 rfl), rfl⟩
  have b0 : bump st 0 = st := rfl
  cases off with
  | true =>
    refine ⟨0, ?_⟩
    rw [b0]
    have e : rdE L true there n = 8 := by unfold rdE; rw [if_pos rfl]
    rw [e]
    refine dk_run (rdOff d m st there _) ?_
    simp only [Ob.ok_cons, Ob.ok_nil, and_true]
    exact ⟨o1, load_row hp.row (p4 rfl), rfl⟩
  | false =>
    have o2 : obL st 4 (.ptr d 3) FF := ⟨load_row hp.row (p4 rfl), rfl⟩
    have o3 : obL st 9 (.ptr i 0) (str n) := ⟨load_row hi (p9 rfl), rfl⟩
    have o4 := may_ok n st
    by_cases hmay : mayS n
    · rw [decide_eq_true hmay] at o4
      have e : rdE L false there n = if there = true ∧ find n L = none then 6 else 0 := by unfold rdE; rw [if_neg (by simp), if_neg (fun h => h hmay)]
      rw [e]
      refine ⟨1, ?_⟩
      have hob : ∀ {o : Ob}, o.ok → Ob.ok ([obL st 66 (.ptr d 0) (.mp m), obL st 4 (.ptr d 3) FF, obL st 9 (.ptr i 0) (str n), obC 51 [str n] st TT st] ++ o) := fun h => by
        rw [Ob.ok_append]
        simp only [Ob.ok_cons, Ob.ok_nil, and_true]
        exact ⟨⟨o1, o2, o3, o4⟩, h⟩
      cases hf : find n L with
      | none =>
        obtain ⟨f1, f2, k1, k2, k3, k4, k5⟩ := rd_end (x := .nils) (y := i64 0) hp.row hm hw hi hl (lookup_miss hm hf true)
        cases there with
        | true => exact forget_bump (dk_run (rdMissT d m st f1 f2 i st.next fl n (.agg [.nils, i64 0])) (hob k1)) k2 k3 k4 k5
        | false => exact forget_bump (dk_run (rdMissF d m st f1 f2 i st.next fl n (.agg [.nils, i64 0])) (hob k1)) k2 k3 k4 k5
      | some k =>
        obtain ⟨f, hk, hn⟩ := find_some hf
        obtain ⟨f1, f2, k1, k2, k3, k4, k5⟩ := rd_end (x := f.dv) (y := i64 f.last) hp.row hm hw hi hl (lookup_hit hm hf hk true)
        cases there with
        | true => exact forget_bump (dk_run (rdHitT d m st f1 f2 i st.next fl n (.agg [f.dv, i64 f.last])) (hob k1)) k2 k3 k4 k5
        | false => exact forget_bump (dk_run (rdHitF d m st f1 f2 i st.next fl n (.agg [f.dv, i64 f.last])) (hob k1)) k2 k3 k4 k5
    · rw [decide_eq_false hmay] at o4
      refine ⟨0, ?_⟩
      rw [b0]
      have e : rdE L false there n = 1 := by unfold rdE; rw [if_neg (by simp), if_pos hmay]
      rw [e]
      refine dk_run (rdBad d m st there i fl n) ?_
      simp only [Ob.ok_cons, Ob.ok_nil, and_true]
      exact ⟨o1, o2, o3, o4⟩
end
section
set_option maxRecDepth 100000
def neN (a b : Int) : Bool := boolI (binOp .neq 3 (.int .i64 a) (.int .i64 b))
def geN (a b : Int) : Bool := boolI (binOp .geq 3 (.int .i64 a) (.int .i64 b))
def neE (a b : Int) : Bool := boolI (binOp .neq 29 (.int .i64 a) (.int .i64 b))
def obK (s : St) (m : Nat) (n : ByteArray) (ok : Bool) (w : AV) : Prop := lookupA E0 s 66 (.mp m) (str n) ok = some w ∧ s = s
def nmSt (st : St) (n : ByteArray) : St := st.push (.row [str n] 9)
def zSt (st : St) : St := st.push (.row [.nils, i64 0] 72)
def sitesP : Nat → List Nat
  | 38 => [6031, 13, 2019, 2021, 5000, 2030, 2031, 32, 6040, 2039]
  | 26 => [6031, 11, 6040, 2018, 5000, 2020]
  | 25 => [6031, 12, 6040, 2019, 2021, 5000, 2023, 8000]
  | 19 => [6031, 12, 2017, 2019, 6032]
  | _ => []
noncomputable def pgEv (f : Nat) (args : List AV) (st : St) (o : List Or) := (evCallS Tryd.prog E0 noOv sitesP 100000 f args st o).map fun q => (q.1, q.2.1, q.2.2.2)
section
variable (d m : Nat) (n : ByteArray) (e : Int) (v : AV) (st s1 s2 s3 s4 : St)
/-- ready, in a call's first lines -/
def obR (d : Nat) (th : AV) (n : ByteArray) (st : St) (e : Int) (s1 : St) : Prop := obC 31 [.ptr d 0, th, .sl st.next 1 0 1 true] (nmSt st n) (i64 e) s1
theorem crNot : pgEv 38 [.ptr d 0, str n] st [.eff (i64 e) (fun _ => s1), TT] = some (i64 e, s1, [obR d FF n st e s1, bo (neE e 0) = TT]) := by kernel_rfl
theorem crFull (len : Int) : pgEv 38 [.ptr d 0, str n] st [.eff (i64 0) (fun _ => s1), FF, .eff (.mp m) id, .eff (.tup [v, FF]) id, .eff .undef (fun _ => s2), .eff (.mp m) id, .eff (i64 len) id, TT] = some (i64 7, s2,
  [obR d FF n st 0 s1, bo (neE 0 0) = FF, obL s1 66 (.ptr d 0) (.mp m), obK s1 m n true (.tup [v, FF]), storeA E0 (zSt s1) 72 (.ptr s1.next 0) v = some s2, obL s2 66 (.ptr d 0) (.mp m), lenA E0 66 (.mp m) = none ∧ mapLenA E0 s2 66 (.mp m) = some (i64 len) ∧ s2 = s2, bo (geN len 4096) = TT]) := by kernel_rfl
theorem crBurnT : pgEv 38 [.ptr d 0, str n] st [.eff (i64 0) (fun _ => s1), FF, .eff (.mp m) id, .eff (.tup [v, TT]) id, .eff .undef (fun _ => s2), .eff TT (fun _ => s3)] = some (i64 8, s3,
  [obR d FF n st 0 s1, bo (neE 0 0) = FF, obL s1 66 (.ptr d 0) (.mp m), obK s1 m n true (.tup [v, TT]), storeA E0 (zSt s1) 72 (.ptr s1.next 0) v = some s2, obC 40 [.ptr d 0] s2 TT s3]) := by kernel_rfl
theorem crBurnF (len : Int) : pgEv 38 [.ptr d 0, str n] st [.eff (i64 0) (fun _ => s1), FF, .eff (.mp m) id, .eff (.tup [v, FF]) id, .eff .undef (fun _ => s2), .eff (.mp m) id, .eff (i64 len) id, FF, .eff TT (fun _ => s3)] = some (i64 8, s3,
  [obR d FF n st 0 s1, bo (neE 0 0) = FF, obL s1 66 (.ptr d 0) (.mp m), obK s1 m n true (.tup [v, FF]), storeA E0 (zSt s1) 72 (.ptr s1.next 0) v = some s2, obL s2 66 (.ptr d 0) (.mp m), lenA E0 66 (.mp m) = none ∧ mapLenA E0 s2 66 (.mp m) = some (i64 len) ∧ s2 = s2, bo (geN len 4096) = FF, obC 40 [.ptr d 0] s2 TT s3]) := by kernel_rfl
theorem crOkT : pgEv 38 [.ptr d 0, str n] st [.eff (i64 0) (fun _ => s1), FF, .eff (.mp m) id, .eff (.tup [v, TT]) id, .eff .undef (fun _ => s2), .eff FF (fun _ => s3), .eff (.mp m) id, .eff .undef (fun _ => s4)] = some (i64 0, s4,
  [obR d FF n st 0 s1, bo (neE 0 0) = FF, obL s1 66 (.ptr d 0) (.mp m), obK s1 m n true (.tup [v, TT]), storeA E0 (zSt s1) 72 (.ptr s1.next 0) v = some s2, obC 40 [.ptr d 0] s2 FF s3, obL s3 66 (.ptr d 0) (.mp m), mapUpdateA E0 s3 66 (.mp m) (str n) (.agg [.nils, i64 0]) = some s4]) := by kernel_rfl
theorem crOkF (len : Int) : pgEv 38 [.ptr d 0, str n] st [.eff (i64 0) (fun _ => s1), FF, .eff (.mp m) id, .eff (.tup [v, FF]) id, .eff .undef (fun _ => s2), .eff (.mp m) id, .eff (i64 len) id, FF, .eff FF (fun _ => s3), .eff (.mp m) id, .eff .undef (fun _ => s4)] = some (i64 0, s4,
  [obR d FF n st 0 s1, bo (neE 0 0) = FF, obL s1 66 (.ptr d 0) (.mp m), obK s1 m n true (.tup [v, FF]), storeA E0 (zSt s1) 72 (.ptr s1.next 0) v = some s2, obL s2 66 (.ptr d 0) (.mp m), lenA E0 66 (.mp m) = none ∧ mapLenA E0 s2 66 (.mp m) = some (i64 len) ∧ s2 = s2, bo (geN len 4096) = FF, obC 40 [.ptr d 0] s2 FF s3, obL s3 66 (.ptr d 0) (.mp m), mapUpdateA E0 s3 66 (.mp m) (str n) (.agg [.nils, i64 0]) = some s4]) := by kernel_rfl
theorem rmNot : pgEv 26 [.ptr d 0, str n] st [.eff (i64 e) (fun _ => s1), TT] = some (i64 e, s1, [obR d TT n st e s1, bo (neE e 0) = TT]) := by kernel_rfl
theorem rmBurn : pgEv 26 [.ptr d 0, str n] st [.eff (i64 0) (fun _ => s1), FF, .eff TT (fun _ => s2)] = some (i64 8, s2, [obR d TT n st 0 s1, bo (neE 0 0) = FF, obC 40 [.ptr d 0] s1 TT s2]) := by kernel_rfl
theorem rmOk : pgEv 26 [.ptr d 0, str n] st [.eff (i64 0) (fun _ => s1), FF, .eff FF (fun _ => s2), .eff (.mp m) id, .eff (.tup []) (fun _ => s3)] = some (i64 0, s3, [obR d TT n st 0 s1, bo (neE 0 0) = FF, obC 40 [.ptr d 0] s1 FF s2, obL s2 66 (.ptr d 0) (.mp m), mapDeleteA E0 s2 66 (.mp m) (str n) = some s3 ∧ AV.tup [] = AV.tup []]) := by kernel_rfl
theorem sySyn : pgEv 25 [.ptr d 0, str n] st [.eff (i64 e) (fun _ => s1), TT] = some (i64 e, s1, [obR d TT n st e s1, bo (neE e 0) = TT]) := by kernel_rfl
theorem syBurn : pgEv 25 [.ptr d 0, str n] st [.eff (i64 0) (fun _ => s1), FF, .eff TT (fun _ => s2)] = some (i64 8, s2, [obR d TT n st 0 s1, bo (neE 0 0) = FF, obC 40 [.ptr d 0] s1 TT s2]) := by kernel_rfl
theorem rdNot : pgEv 19 [.ptr d 0, str n] st [.eff (i64 e) (fun _ => s1), TT] = some (.tup [.nils, i64 e], s1, [obR d TT n st e s1, bo (neE e 0) = TT]) := by kernel_rfl
theorem rdOk (dv l b : AV) : pgEv 19 [.ptr d 0, str n] st [.eff (i64 0) (fun _ => s1), FF, .eff (.mp m) id, .eff (.agg [dv, l]) id, .eff b (fun _ => s2)] = some (.tup [b, i64 0], s2, [obR d TT n st 0 s1, bo (neE 0 0) = FF, obL s1 66 (.ptr d 0) (.mp m), obK s1 m n false (.agg [dv, l]), obC 32 [dv] s1 b s2]) := by kernel_rfl
/-- the file is laid into the map, from its variable -/
def obU (d a m : Nat) (s : St) (n : ByteArray) (l : AV) (s' : St) : Ob := [∀ k ∈ [d, a], k < s.next, [d, a].contains d = true ∧ loadA E0 s 66 (.ptr d 0) = some (.mp m), [d, a].contains a = true ∧ loadA E0 s 72 (.ptr a 0) = some l, (false = true → [d, a].all (fun k => (s.get k).isSome) = true), mapUpdateA E0 s 66 (.mp m) (str n) l = some s']
theorem syOk (b : Nat) (fl : Bool) (c : List AV) (l : AV) (s5 : St) : pgEv 25 [.ptr d 0, str n] st [.eff (i64 0) (fun _ => s1), FF, .eff FF (fun _ => s2), .eff (.mp m) id, .eff v id, .eff .undef (fun _ => s3), .eff (.imm 1 b fl c) id, .eff .undef (fun _ => s4), .eff (.mp m) id, .eff l id, .eff .undef (fun _ => s5)] = some (i64 0, s5,
  [obR d TT n st 0 s1, bo (neE 0 0) = FF, obC 40 [.ptr d 0] s1 FF s2, obL s2 66 (.ptr d 0) (.mp m), obK s2 m n false v, storeA E0 (zSt s2) 72 (.ptr s2.next 0) v = some s3, obL s3 33 (.ptr s2.next 0) (.imm 1 b fl c), storeA E0 s3 3 (.ptr s2.next 1) (i64 b) = some s4] ++ obU d s2.next m s4 n l s5) := by kernel_rfl
theorem syOkN (l : AV) (s5 : St) : pgEv 25 [.ptr d 0, str n] st [.eff (i64 0) (fun _ => s1), FF, .eff FF (fun _ => s2), .eff (.mp m) id, .eff v id, .eff .undef (fun _ => s3), .eff .nils id, .eff .undef (fun _ => s4), .eff (.mp m) id, .eff l id, .eff .undef (fun _ => s5)] = some (i64 0, s5,
  [obR d TT n st 0 s1, bo (neE 0 0) = FF, obC 40 [.ptr d 0] s1 FF s2, obL s2 66 (.ptr d 0) (.mp m), obK s2 m n false v, storeA E0 (zSt s2) 72 (.ptr s2.next 0) v = some s3, obL s3 33 (.ptr s2.next 0) .nils, storeA E0 s3 3 (.ptr s2.next 1) (i64 0) = some s4] ++ obU d s2.next m s4 n l s5) := by kernel_rfl
end
end
section
set_option maxRecDepth 100000
def sitesA : Nat → List Nat
  | 24 => [6031, 14, 8000, 2018, 2028, 2029, 6039, 6040, 2036, 2038, 5000, 2040, 6032, 2043]
  | _ => []
noncomputable def apEv (f : Nat) (args : List AV) (st : St) (o : List Or) := (evCallS Tryd.prog E0 noOv sitesA 100000 f args st o).map fun q => (q.1, q.2.1, q.2.2.2)
def gtP (a b : Int) (r : AV) : Prop := binA E0 .gtr 3 (i64 a) (i64 b) = some r
def subP (a b x : Int) : Prop := binA E0 .sub 3 (i64 a) (i64 b) = some (i64 x)
/-- is there room? (bytes at hand) -/
def obRoom (d : Nat) (k q u x : Int) (s1 s2 : St) (r : AV) : Ob := [∀ i ∈ [d], i < s1.next, gtP k 0 TT, [d].contains d = true ∧ loadA E0 s1 3 (.ptr d 1) = some (i64 q), (true = true → [d].all (fun i => (s1.get i).isSome) = true), obC 39 [.ptr d 0] (s1.hide [d]) (i64 u) s2, subP q u x, gtP k x r]
def obNoB (d : Nat) (k : Int) (s1 : St) : Ob := [∀ i ∈ ([] : List Nat), i < s1.next, gtP k 0 FF]
section
variable (d m : Nat) (n : ByteArray) (e q u x : Int) (v dv cl nd l : AV) (st s1 s2 s3 s4 s5 s6 s7 s8 : St)
theorem apNotS (i k : Nat) (fl : Bool) : apEv 24 [.ptr d 0, str n, .sl i 1 0 k fl] st [.eff (i64 e) (fun _ => s1), TT] = some (i64 e, s1, [obR d TT n st e s1, bo (neE e 0) = TT]) := by kernel_rfl
theorem apFullS (i k : Nat) (fl : Bool) : apEv 24 [.ptr d 0, str n, .sl i 1 0 k fl] st [.eff (i64 0) (fun _ => s1), FF, .eff TT id, .eff (i64 q) id, .eff (i64 u) (fun _ => s2), .eff (i64 x) id, .eff TT id] = some (i64 7, s2.show s1 [d], [obR d TT n st 0 s1, bo (neE 0 0) = FF] ++ obRoom d k q u x s1 s2 TT) := by kernel_rfl
theorem apBurnS (i k : Nat) (fl : Bool) : apEv 24 [.ptr d 0, str n, .sl i 1 0 k fl] st [.eff (i64 0) (fun _ => s1), FF, .eff TT id, .eff (i64 q) id, .eff (i64 u) (fun _ => s2), .eff (i64 x) id, .eff FF id, .eff TT (fun _ => s3)] = some (i64 8, s3, [obR d TT n st 0 s1, bo (neE 0 0) = FF] ++ obRoom d k q u x s1 s2 FF ++ [obC 40 [.ptr d 0] (s2.show s1 [d]) TT s3]) := by kernel_rfl
theorem apOkS (i k : Nat) (fl : Bool) : apEv 24 [.ptr d 0, str n, .sl i 1 0 k fl] st [.eff (i64 0) (fun _ => s1), FF, .eff TT id, .eff (i64 q) id, .eff (i64 u) (fun _ => s2), .eff (i64 x) id, .eff FF id, .eff FF (fun _ => s3), .eff (.mp m) id, .eff v id, .eff .undef (fun _ => s4), .eff dv id, .eff cl (fun _ => s5), .eff nd (fun _ => s6), .eff .undef (fun _ => s7), .eff (.mp m) id, .eff l id, .eff .undef (fun _ => s8)] = some (i64 0, s8,
  [obR d TT n st 0 s1, bo (neE 0 0) = FF] ++ obRoom d k q u x s1 s2 FF ++ [obC 40 [.ptr d 0] (s2.show s1 [d]) FF s3, obL s3 66 (.ptr d 0) (.mp m), obK s3 m n false v, storeA E0 (zSt s3) 72 (.ptr s3.next 0) v = some s4, obL s4 33 (.ptr s3.next 0) dv, obC 32 [dv] s4 cl s5, appendA E0 s5 33 33 cl (.sl i 1 0 k fl) = some (nd, s6), storeA E0 s6 33 (.ptr s3.next 0) nd = some s7] ++ obU d s3.next m s7 n l s8) := by kernel_rfl
theorem apBurn0S (i k : Nat) (fl : Bool) : apEv 24 [.ptr d 0, str n, .sl i 1 0 k fl] st [.eff (i64 0) (fun _ => s1), FF, .eff FF id, .eff TT (fun _ => s3)] = some (i64 8, s3, [obR d TT n st 0 s1, bo (neE 0 0) = FF] ++ obNoB d k s1 ++ [obC 40 [.ptr d 0] s1 TT s3]) := by kernel_rfl
theorem apOk0S (i k : Nat) (fl : Bool) : apEv 24 [.ptr d 0, str n, .sl i 1 0 k fl] st [.eff (i64 0) (fun _ => s1), FF, .eff FF id, .eff FF (fun _ => s3), .eff (.mp m) id, .eff v id, .eff .undef (fun _ => s4), .eff dv id, .eff cl (fun _ => s5), .eff nd (fun _ => s6), .eff .undef (fun _ => s7), .eff (.mp m) id, .eff l id, .eff .undef (fun _ => s8)] = some (i64 0, s8,
  [obR d TT n st 0 s1, bo (neE 0 0) = FF] ++ obNoB d k s1 ++ [obC 40 [.ptr d 0] s1 FF s3, obL s3 66 (.ptr d 0) (.mp m), obK s3 m n false v, storeA E0 (zSt s3) 72 (.ptr s3.next 0) v = some s4, obL s4 33 (.ptr s3.next 0) dv, obC 32 [dv] s4 cl s5, appendA E0 s5 33 33 cl (.sl i 1 0 k fl) = some (nd, s6), storeA E0 s6 33 (.ptr s3.next 0) nd = some s7] ++ obU d s3.next m s7 n l s8) := by kernel_rfl
theorem apNotN  : apEv 24 [.ptr d 0, str n, .nils] st [.eff (i64 e) (fun _ => s1), TT] = some (i64 e, s1, [obR d TT n st e s1, bo (neE e 0) = TT]) := by kernel_rfl
theorem apBurn0N  : apEv 24 [.ptr d 0, str n, .nils] st [.eff (i64 0) (fun _ => s1), FF, .eff FF id, .eff TT (fun _ => s3)] = some (i64 8, s3, [obR d TT n st 0 s1, bo (neE 0 0) = FF] ++ obNoB d 0 s1 ++ [obC 40 [.ptr d 0] s1 TT s3]) := by kernel_rfl
theorem apOk0N  : apEv 24 [.ptr d 0, str n, .nils] st [.eff (i64 0) (fun _ => s1), FF, .eff FF id, .eff FF (fun _ => s3), .eff (.mp m) id, .eff v id, .eff .undef (fun _ => s4), .eff dv id, .eff cl (fun _ => s5), .eff nd (fun _ => s6), .eff .undef (fun _ => s7), .eff (.mp m) id, .eff l id, .eff .undef (fun _ => s8)] = some (i64 0, s8,
  [obR d TT n st 0 s1, bo (neE 0 0) = FF] ++ obNoB d 0 s1 ++ [obC 40 [.ptr d 0] s1 FF s3, obL s3 66 (.ptr d 0) (.mp m), obK s3 m n false v, storeA E0 (zSt s3) 72 (.ptr s3.next 0) v = some s4, obL s4 33 (.ptr s3.next 0) dv, obC 32 [dv] s4 cl s5, appendA E0 s5 33 33 cl (.nils) = some (nd, s6), storeA E0 s6 33 (.ptr s3.next 0) nd = some s7] ++ obU d s3.next m s7 n l s8) := by kernel_rfl
theorem apNotI (k : Nat) (fl : Bool) (c : List AV) : apEv 24 [.ptr d 0, str n, .imm 1 k fl c] st [.eff (i64 e) (fun _ => s1), TT] = some (i64 e, s1, [obR d TT n st e s1, bo (neE e 0) = TT]) := by kernel_rfl
theorem apFullI (k : Nat) (fl : Bool) (c : List AV) : apEv 24 [.ptr d 0, str n, .imm 1 k fl c] st [.eff (i64 0) (fun _ => s1), FF, .eff TT id, .eff (i64 q) id, .eff (i64 u) (fun _ => s2), .eff (i64 x) id, .eff TT id] = some (i64 7, s2.show s1 [d], [obR d TT n st 0 s1, bo (neE 0 0) = FF] ++ obRoom d k q u x s1 s2 TT) := by kernel_rfl
theorem apBurnI (k : Nat) (fl : Bool) (c : List AV) : apEv 24 [.ptr d 0, str n, .imm 1 k fl c] st [.eff (i64 0) (fun _ => s1), FF, .eff TT id, .eff (i64 q) id, .eff (i64 u) (fun _ => s2), .eff (i64 x) id, .eff FF id, .eff TT (fun _ => s3)] = some (i64 8, s3, [obR d TT n st 0 s1, bo (neE 0 0) = FF] ++ obRoom d k q u x s1 s2 FF ++ [obC 40 [.ptr d 0] (s2.show s1 [d]) TT s3]) := by kernel_rfl
theorem apOkI (k : Nat) (fl : Bool) (c : List AV) : apEv 24 [.ptr d 0, str n, .imm 1 k fl c] st [.eff (i64 0) (fun _ => s1), FF, .eff TT id, .eff (i64 q) id, .eff (i64 u) (fun _ => s2), .eff (i64 x) id, .eff FF id, .eff FF (fun _ => s3), .eff (.mp m) id, .eff v id, .eff .undef (fun _ => s4), .eff dv id, .eff cl (fun _ => s5), .eff nd (fun _ => s6), .eff .undef (fun _ => s7), .eff (.mp m) id, .eff l id, .eff .undef (fun _ => s8)] = some (i64 0, s8,
  [obR d TT n st 0 s1, bo (neE 0 0) = FF] ++ obRoom d k q u x s1 s2 FF ++ [obC 40 [.ptr d 0] (s2.show s1 [d]) FF s3, obL s3 66 (.ptr d 0) (.mp m), obK s3 m n false v, storeA E0 (zSt s3) 72 (.ptr s3.next 0) v = some s4, obL s4 33 (.ptr s3.next 0) dv, obC 32 [dv] s4 cl s5, appendA E0 s5 33 33 cl (.imm 1 k fl c) = some (nd, s6), storeA E0 s6 33 (.ptr s3.next 0) nd = some s7] ++ obU d s3.next m s7 n l s8) := by kernel_rfl
theorem apBurn0I (k : Nat) (fl : Bool) (c : List AV) : apEv 24 [.ptr d 0, str n, .imm 1 k fl c] st [.eff (i64 0) (fun _ => s1), FF, .eff FF id, .eff TT (fun _ => s3)] = some (i64 8, s3, [obR d TT n st 0 s1, bo (neE 0 0) = FF] ++ obNoB d k s1 ++ [obC 40 [.ptr d 0] s1 TT s3]) := by kernel_rfl
theorem apOk0I (k : Nat) (fl : Bool) (c : List AV) : apEv 24 [.ptr d 0, str n, .imm 1 k fl c] st [.eff (i64 0) (fun _ => s1), FF, .eff FF id, .eff FF (fun _ => s3), .eff (.mp m) id, .eff v id, .eff .undef (fun _ => s4), .eff dv id, .eff cl (fun _ => s5), .eff nd (fun _ => s6), .eff .undef (fun _ => s7), .eff (.mp m) id, .eff l id, .eff .undef (fun _ => s8)] = some (i64 0, s8,
  [obR d TT n st 0 s1, bo (neE 0 0) = FF] ++ obNoB d k s1 ++ [obC 40 [.ptr d 0] s1 FF s3, obL s3 66 (.ptr d 0) (.mp m), obK s3 m n false v, storeA E0 (zSt s3) 72 (.ptr s3.next 0) v = some s4, obL s4 33 (.ptr s3.next 0) dv, obC 32 [dv] s4 cl s5, appendA E0 s5 33 33 cl (.imm 1 k fl c) = some (nd, s6), storeA E0 s6 33 (.ptr s3.next 0) nd = some s7] ++ obU d s3.next m s7 n l s8) := by kernel_rfl
end
end
section
set_option maxRecDepth 100000
def sitesB : Nat → List Nat
  | 31 => [2018, 2025, 2031, 6051, 8000]
  | 32 => [2007]
  | 12 => [8, 5000]
  | 16 => [2009]
  | 14 => [5]
  | _ => []
noncomputable def bpEv (f : Nat) (args : List AV) (st : St) (o : List Or) := (evCallS Tryd.prog E0 noOv sitesB 100000 f args st o).map fun q => (q.1, q.2.1, q.2.2.2)
section
variable (d m i j a : Nat) (n n2 : ByteArray) (e q : Int) (v l : AV) (st s1 s2 s3 s4 s5 s6 : St) (fl : Bool) (f1 f2 : St → St)
/-- ready, with two names -/
def nmSt2 (st : St) (n n2 : ByteArray) : St := st.push (.row [str n, str n2] 9)
def obR2 (d : Nat) (n n2 : ByteArray) (st : St) (e : Int) (s1 : St) : Prop := obC 31 [.ptr d 0, TT, .sl st.next 1 0 2 true] (nmSt2 st n n2) (i64 e) s1
theorem rd2Bad : bpEv 31 [.ptr d 0, TT, .sl i 1 0 2 fl] st [.eff (.mp m) id, .eff FF id, .eff (str n) id, .eff FF id] = some (i64 1, st, [obL st 66 (.ptr d 0) (.mp m), obL st 4 (.ptr d 3) FF, obL st 9 (.ptr i 0) (str n), obC 51 [str n] st FF st]) := by kernel_rfl
theorem rd2Bad2 : bpEv 31 [.ptr d 0, TT, .sl i 1 0 2 fl] st [.eff (.mp m) id, .eff FF id, .eff (str n) id, .eff TT id, .eff (str n2) id, .eff FF id] = some (i64 1, st, [obL st 66 (.ptr d 0) (.mp m), obL st 4 (.ptr d 3) FF, obL st 9 (.ptr i 0) (str n), obC 51 [str n] st TT st, obL st 9 (.ptr i 1) (str n2), obC 51 [str n2] st FF st]) := by kernel_rfl
theorem rd2Hit : bpEv 31 [.ptr d 0, TT, .sl i 1 0 2 fl] st [.eff (.mp m) id, .eff FF id, .eff (str n) id, .eff TT id, .eff (str n2) id, .eff TT id, .eff (.mp m) id, .eff (str n) id, .eff (.tup [v, TT]) id, .eff (.ptr a 0) f1, .eff .undef f2] = some (i64 0, f2 (midSt st (idsD d i m) f1),
  [obL st 66 (.ptr d 0) (.mp m), obL st 4 (.ptr d 3) FF, obL st 9 (.ptr i 0) (str n), obC 51 [str n] st TT st, obL st 9 (.ptr i 1) (str n2), obC 51 [str n2] st TT st] ++ obRd d i m a st n (.tup [v, TT]) v f1 f2) := by kernel_rfl
theorem rd2Miss : bpEv 31 [.ptr d 0, TT, .sl i 1 0 2 fl] st [.eff (.mp m) id, .eff FF id, .eff (str n) id, .eff TT id, .eff (str n2) id, .eff TT id, .eff (.mp m) id, .eff (str n) id, .eff (.tup [v, FF]) id, .eff (.ptr a 0) f1, .eff .undef f2] = some (i64 6, f2 (midSt st (idsD d i m) f1),
  [obL st 66 (.ptr d 0) (.mp m), obL st 4 (.ptr d 3) FF, obL st 9 (.ptr i 0) (str n), obC 51 [str n] st TT st, obL st 9 (.ptr i 1) (str n2), obC 51 [str n2] st TT st] ++ obRd d i m a st n (.tup [v, FF]) v f1 f2) := by kernel_rfl
/-- bytes.Clone -/
theorem clN : bpEv 32 [.nils] st [] = some (.nils, st, []) := by kernel_rfl
theorem clI (k : Nat) (c : List AV) : bpEv 32 [.imm 1 k fl c] st [.eff v (fun _ => s1)] = some (v, s1, [appendA E0 (st.push (.row [] 5)) 33 33 (.sl st.next 1 0 0 true) (.imm 1 k fl c) = some (v, s1)]) := by kernel_rfl
theorem offEv (b : Bool) : bpEv 16 [.ptr d 0] st [.eff (bo b) id] = some (bo b, st, [obL st 4 (.ptr d 3) (bo b)]) := by kernel_rfl
theorem fuEv (k : Int) : bpEv 12 [.ptr d 0, i64 e] st [i64 k, .eff .undef (fun _ => s1)] = some (.tup [], s1, [(match pureVal (Builtin.max_ #[] 0 #[.int .i64 e, .int .i64 0]) with | some x => x | none => .undef) = i64 k, storeA E0 st 3 (.ptr d 2) (i64 k) = some s1]) := by kernel_rfl
end
end
section
set_option maxRecDepth 4000
/-- all but S stays -/
structure Rest (st st' : St) (S : List Nat) : Prop where
  keep : ∀ i o, i ∉ S → st.get i = some o → st'.get i = some o
  next : st.next ≤ st'.next
  lock : st'.lock = st.lock
  gl : st'.gl = st.gl
  wf : st'.wf
theorem Rest.refl {st : St} (hw : st.wf) (S : List Nat) : Rest st st S := ⟨fun _ _ _ h => h, Nat.le_refl _, rfl, rfl, hw⟩
theorem Rest.trans {a b c : St} {S : List Nat} (h : Rest a b S) (k : Rest b c S) : Rest a c S :=
  ⟨fun i o hi ho => k.keep i o hi (h.keep i o hi ho), Nat.le_trans h.next k.next, k.lock.trans h.lock, k.gl.trans h.gl, k.wf⟩
theorem Rest.weak {a b : St} {S S' : List Nat} (h : Rest a b S) (hs : ∀ i ∈ S, i ∈ S') : Rest a b S' :=
  ⟨fun i o hi ho => h.keep i o (fun e => hi (hs i e)) ho, h.next, h.lock, h.gl, h.wf⟩
theorem set_wf {st : St} (hw : st.wf) {id : Nat} (hid : id < st.next) (o : AObj) : (st.set id o).wf := fun i p h => by
  rw [St.get_set] at h
  show i < st.next
  split at h
  · omega
  · exact hw _ _ h
theorem push_wf {st : St} (hw : st.wf) (o : AObj) : (st.push o).wf := fun i p h => by
  rw [St.get_push] at h
  show i < st.next + 1
  split at h
  · omega
  · have := hw _ _ h; omega
theorem bump_wf {st : St} (hw : st.wf) (k : Nat) : (bump st k).wf := fun i p h => by
  have := hw i p h
  show i < st.next + k
  omega
theorem Rest.bump {st : St} (hw : st.wf) (k : Nat) (S : List Nat) : Rest st (bump st k) S := ⟨fun _ _ _ h => h, Nat.le_add_right _ _, rfl, rfl, bump_wf hw k⟩
theorem Rest.push {st : St} (hw : st.wf) (o : AObj) (S : List Nat) : Rest st (st.push o) S :=
  ⟨fun i p _ h => by have := hw _ _ h; rw [St.get_push, if_neg (by omega)]; exact h, by simp, rfl, rfl, push_wf hw o⟩
theorem Rest.set {st : St} (hw : st.wf) {id : Nat} (hid : id < st.next) (o : AObj) {S : List Nat} (hS : id ∈ S) : Rest st (st.set id o) S :=
  ⟨fun i p hi h => by rw [St.get_set, if_neg (fun e => hi (by rw [e]; exact hS))]; exact h, Nat.le_refl _, rfl, rfl, set_wf hw hid o⟩
/-- a local file variable -/
theorem local_ok {st : St} (hw : st.wf) (hl : st.lock = []) (x y : AV) : ∃ s', storeA E0 (zSt st) 72 (.ptr st.next 0) (.agg [x, y]) = some s' ∧ s'.get st.next = some (.row [x, y] 72) ∧ Rest st s' [] ∧ s'.next = st.next + 1 := by
  refine ⟨_, store105 (st := zSt st) (a := st.next) (v0 := .nils) (v1 := i64 0) (ty := 72) (by unfold zSt; rw [St.get_push, if_pos rfl]) (by unfold zSt; rw [St.lock_push, hl]; simp), by rw [St.get_set, if_pos rfl], ?_, rfl⟩
  refine ⟨fun i o _ ho => ?_, by show st.next ≤ st.next + 1; omega, rfl, rfl, set_wf (push_wf hw _) (by simp) _⟩
  have := hw _ _ ho
  rw [St.get_set, if_neg (by omega)]
  unfold zSt
  rw [St.get_push, if_neg (by omega)]; exact ho
theorem size3 : tySize E0 3 = some 1 := by kernel_rfl
theorem size4 : tySize E0 4 = some 1 := by kernel_rfl
theorem storeN {st : St} {d : Nat} {a b c e : AV} {ty : Nat} (hg : st.get d = some (.row [a, b, c, e] ty)) (hl : st.lock = []) (x : Int) : storeA E0 st 3 (.ptr d 2) (i64 x) = some (st.set d (.row [a, b, i64 x, e] ty)) := by
  have hwg := St.wget_of hg (show d ∉ st.lock by rw [hl]; simp)
  simp [storeA, avCells, oneA, size3, hwg]
theorem storeB {st : St} {d : Nat} {a b c e : AV} {ty : Nat} (hg : st.get d = some (.row [a, b, c, e] ty)) (hl : st.lock = []) (x : Bool) : storeA E0 st 4 (.ptr d 3) (bo x) = some (st.set d (.row [a, b, c, bo x] ty)) := by
  have hwg := St.wget_of hg (show d ∉ st.lock by rw [hl]; simp)
  simp [storeA, bo, avCells, oneA, size4, hwg]
theorem eqN_eq (a b : Int) : eqN a b = (a == b) := rfl
theorem subN_eq (a b : Int) (h : -9223372036854775808 ≤ a - b ∧ a - b ≤ 9223372036854775807) : subN a b = a - b := by
  have : subN a b = IntKind.i64.wrap (a - b) := rfl
  rw [this, IntWalk.i64_in _ h]
def burnB (fu : Int) : Bool := fu == 1
def burnN (fu : Int) : Int := if fu = 0 then 0 else fu - 1
theorem PD.rest {st st' : St} {d m : Nat} {L : List PF} {q fu : Int} {off : Bool} (h : PD st d L q fu off m) (hr : Rest st st' []) : PD st' d L q fu off m := by
  obtain ⟨bs, c, hm⟩ := h.map
  exact ⟨hr.keep _ _ (by simp) h.row, bs, c, hr.keep _ _ (by simp) hm⟩
theorem burns_ok {st : St} {d m : Nat} {L : List PF} {q fu : Int} (hp : PD st d L q fu false m) (hw : st.wf) (hl : st.lock = []) (hf : 0 ≤ fu ∧ fu ≤ 9223372036854775807) :
    ∃ st', obC 40 [.ptr d 0] st (bo (burnB fu)) st' ∧ PD st' d L q (burnN fu) (burnB fu) m ∧ Rest st st' [d] := by
  have hd := hw _ _ hp.row
  obtain ⟨bs, c, hm⟩ := hp.map
  have o1 : obL st 3 (.ptr d 2) (i64 fu) := ⟨load_row hp.row (p3 rfl), rfl⟩
  by_cases h0 : fu = 0
  · subst h0
    refine ⟨st, ?_, hp, .refl hw _⟩
    refine dk_run (burn0 d st 0) ?_
    simp only [Ob.ok_cons, Ob.ok_nil, and_true]
    exact ⟨o1, ob_T rfl⟩
  · have hs1 := storeN hp.row hl (fu - 1)
    have g1 : (st.set d (.row [.mp m, i64 q, i64 (fu - 1), bo false] 68)).get d = some (.row [.mp m, i64 q, i64 (fu - 1), bo false] 68) := by rw [St.get_set, if_pos rfl]
    have hs2 := storeB g1 (by simpa using hl) (burnB fu)
    refine ⟨(st.set d (.row [.mp m, i64 q, i64 (fu - 1), bo false] 68)).set d (.row [.mp m, i64 q, i64 (fu - 1), bo (burnB fu)] 68), dk_run (burn1 d st fu (fu - 1) (fun _ => st.set d (.row [.mp m, i64 q, i64 (fu - 1), bo false] 68)) (fun _ => (st.set d (.row [.mp m, i64 q, i64 (fu - 1), bo false] 68)).set d (.row [.mp m, i64 q, i64 (fu - 1), bo (burnB fu)] 68)) (burnB fu)) ?_, ⟨by rw [St.get_set, if_pos rfl, burnN, if_neg h0], bs, c, ?_⟩, (Rest.set hw hd _ (by simp)).trans (Rest.set (set_wf hw hd _) hd _ (by simp))⟩
    · simp only [Ob.ok_cons, Ob.ok_nil, and_true]
      refine ⟨o1, ob_F (by rw [eqN_eq, beq_eq_false_iff_ne]; exact h0), o1, by rw [subN_eq _ _ (by omega)], hs1, ⟨load_row g1 (p3 rfl), rfl⟩, ?_, hs2, ⟨load_row (by rw [St.get_set, if_pos rfl]) (p4 rfl), rfl⟩⟩
      rw [eqN_eq]
      refine congrArg bo ?_
      unfold burnB
      rw [Bool.eq_iff_iff, beq_iff_eq, beq_iff_eq]
      omega
    · rw [St.get_set, if_neg hp.ne.symm, St.get_set, if_neg hp.ne.symm]; exact hm
end
section
set_option maxRecDepth 4000
theorem pg_run {f : Nat} {args : List AV} {a : AV} {st st' : St} {o : List Or} {ob : Ob} (h : pgEv f args st o = some (a, st', ob)) (hob : ob.ok) : obC f args st a st' := by
  obtain ⟨⟨a1, s1, x1, o1⟩, h1, h2⟩ := Option.map_eq_some_iff.1 h
  simp only [Prod.mk.injEq] at h2
  obtain ⟨rfl, rfl, rfl⟩ := h2
  exact ACalls.run hE (ov := noOv) noOv_ok h1 hob
theorem ap_run {f : Nat} {args : List AV} {a : AV} {st st' : St} {o : List Or} {ob : Ob} (h : apEv f args st o = some (a, st', ob)) (hob : ob.ok) : obC f args st a st' := by
  obtain ⟨⟨a1, s1, x1, o1⟩, h1, h2⟩ := Option.map_eq_some_iff.1 h
  simp only [Prod.mk.injEq] at h2
  obtain ⟨rfl, rfl, rfl⟩ := h2
  exact ACalls.run hE (ov := noOv) noOv_ok h1 hob
theorem bp_run {f : Nat} {args : List AV} {a : AV} {st st' : St} {o : List Or} {ob : Ob} (h : bpEv f args st o = some (a, st', ob)) (hob : ob.ok) : obC f args st a st' := by
  obtain ⟨⟨a1, s1, x1, o1⟩, h1, h2⟩ := Option.map_eq_some_iff.1 h
  simp only [Prod.mk.injEq] at h2
  obtain ⟨rfl, rfl, rfl⟩ := h2
  exact ACalls.run hE (ov := noOv) noOv_ok h1 hob
theorem neE_eq (a b : Int) : neE a b = (a != b) := rfl
theorem geN_eq (a b : Int) : geN a b = decide (a ≥ b) := rfl
theorem neE_T {e : Int} (h : e ≠ 0) : bo (neE e 0) = TT := ob_T (by rw [neE_eq]; simpa using h)
theorem neE_F : bo (neE 0 0) = FF := ob_F rfl
/-- ready, as calls ask it -/
theorem rd_ok {st : St} {d m : Nat} {L : List PF} {q fu : Int} {off : Bool} (hp : PD st d L q fu off m) (hw : st.wf) (hl : st.lock = []) (n : ByteArray) (there : Bool) :
    ∃ s1, obR d (bo there) n st (rdE L off there n) s1 ∧ Rest st s1 [] := by
  have hp' : PD (nmSt st n) d L q fu off m := hp.rest (Rest.push hw _ _)
  obtain ⟨k, h⟩ := ready_ok (i := st.next) (fl := true) (n := n) (ty := 9) hp' (push_wf hw _) (by unfold nmSt; rw [St.get_push, if_pos rfl]) (by simpa [nmSt] using hl) there
  exact ⟨_, h, (Rest.push hw _ _).trans (Rest.bump (push_wf hw _) k _)⟩
structure PS where
  L : List PF
  q : Int
  fu : Int
  off : Bool
def PDs (st : St) (d m : Nat) (s : PS) : Prop := PD st d s.L s.q s.fu s.off m
def putL (L : List PF) (f : PF) : List PF := match find f.name L with | some k => L.set k f | none => L ++ [f]
def burnt (s : PS) : PS := { s with fu := burnN s.fu, off := burnB s.fu }
def pCreate (s : PS) (n : ByteArray) : Int × PS :=
  if rdE s.L s.off false n ≠ 0 then (rdE s.L s.off false n, s) else
  if find n s.L = none ∧ 4096 ≤ s.L.length then (7, s) else
  if burnB s.fu = true then (8, burnt s) else
  (0, { burnt s with L := putL s.L ⟨n, .nils, [], 0⟩ })
theorem rd0_off {L : List PF} {off there : Bool} {n : ByteArray} (h : ¬ rdE L off there n ≠ 0) : off = false := by
  cases off with
  | false => rfl
  | true => exact absurd (show rdE L true there n ≠ 0 by unfold rdE; rw [if_pos rfl]; decide) h
theorem mapLen_ok {st : St} {m : Nat} {L : List PF} {bs : List Nat} {c : Nat} (hm : st.get m = some (.map (L.map ent) bs c)) : lenA E0 66 (.mp m) = none ∧ mapLenA E0 st 66 (.mp m) = some (i64 L.length) ∧ st = st := by
  refine ⟨by kernel_rfl, ?_, rfl⟩
  simp only [mapLenA, ty101', hm, List.length_map]
theorem put_ok {st : St} {m : Nat} {L : List PF} {bs : List Nat} {c : Nat} (hm : st.get m = some (.map (L.map ent) bs c)) (hl : st.lock = []) (f : PF) : ∃ bs' c', mapUpdateA E0 st 66 (.mp m) (str f.name) (ent f).2 = some (st.set m (.map ((putL L f).map ent) bs' c')) := by
  have hlm : m ∉ st.lock := by rw [hl]; simp
  unfold putL
  cases hf : find f.name L with
  | some k => exact ⟨_, _, update_hit hm hlm hf f rfl⟩
  | none => exact ⟨_, _, update_miss hm hlm hf f rfl⟩
theorem create_ok {st : St} {d m : Nat} {s : PS} (hp : PDs st d m s) (hw : st.wf) (hl : st.lock = []) (hf : 0 ≤ s.fu ∧ s.fu ≤ 9223372036854775807) (n : ByteArray) :
    ∃ st', obC 38 [.ptr d 0, str n] st (i64 (pCreate s n).1) st' ∧ PDs st' d m (pCreate s n).2 ∧ Rest st st' [d, m] := by
  obtain ⟨L, q, fu, off⟩ := s
  have hp0 : PD st d L q fu off m := hp
  obtain ⟨s1, r1, k1⟩ := rd_ok hp0 hw hl n false
  unfold pCreate
  simp only
  by_cases hr : rdE L off false n ≠ 0
  · rw [if_pos hr]
    refine ⟨s1, pg_run (crNot d n _ st s1) ?_, hp0.rest k1, k1.weak (by simp)⟩
    simp only [Ob.ok_cons, Ob.ok_nil, and_true]
    exact ⟨r1, neE_T hr⟩
  rw [if_neg hr]
  obtain rfl := rd0_off hr
  have hr0 : rdE L false false n = 0 := by simpa using hr
  rw [hr0] at r1
  have l1 : s1.lock = [] := k1.lock.trans hl
  have p1 := hp0.rest k1
  obtain ⟨bs, c, hm⟩ := p1.map
  have o1 : obL s1 66 (.ptr d 0) (.mp m) := ⟨load_row p1.row (p101 rfl), rfl⟩
  have tail : ∀ {x y : AV}, ∃ s2, storeA E0 (zSt s1) 72 (.ptr s1.next 0) (.agg [x, y]) = some s2 ∧ Rest s1 s2 [] ∧ s2.lock = [] ∧ PD s2 d L q fu false m ∧ obL s2 66 (.ptr d 0) (.mp m) ∧ (lenA E0 66 (.mp m) = none ∧ mapLenA E0 s2 66 (.mp m) = some (i64 L.length) ∧ s2 = s2) := fun {x y} => by
    obtain ⟨s2, a1, _, a3, _⟩ := local_ok k1.wf l1 x y
    have p2 := p1.rest a3
    obtain ⟨bs, c, hm⟩ := p2.map
    exact ⟨s2, a1, a3, a3.lock.trans l1, p2, ⟨load_row p2.row (p101 rfl), rfl⟩, mapLen_ok hm⟩
  have fin : ∀ {s2 : St}, Rest s1 s2 [] → s2.lock = [] → PD s2 d L q fu false m → ∃ s3, obC 40 [.ptr d 0] s2 (bo (burnB fu)) s3 ∧ PD s3 d L q (burnN fu) (burnB fu) m ∧ Rest st s3 [d, m] ∧ obL s3 66 (.ptr d 0) (.mp m) ∧
      ∃ s4, mapUpdateA E0 s3 66 (.mp m) (str n) (.agg [.nils, i64 0]) = some s4 ∧ PD s4 d (putL L ⟨n, .nils, [], 0⟩) q (burnN fu) (burnB fu) m ∧ Rest st s4 [d, m] := fun {s2} h2 l2 p2 => by
    obtain ⟨s3, b1, b2, b3⟩ := burns_ok p2 h2.wf l2 hf
    obtain ⟨bs3, c3, hm3⟩ := b2.map
    obtain ⟨bs', c', hu⟩ := put_ok hm3 (b3.lock.trans l2) ⟨n, .nils, [], 0⟩
    have R3 : Rest st s3 [d, m] := ((k1.weak (by simp)).trans (h2.weak (by simp))).trans (b3.weak (by simp))
    refine ⟨s3, b1, b2, R3, ⟨load_row b2.row (p101 rfl), rfl⟩, _, hu, ⟨?_, bs', c', ?_⟩, R3.trans (Rest.set b3.wf (b3.wf _ _ hm3) _ (by simp))⟩
    · rw [St.get_set, if_neg b2.ne]; exact b2.row
    · rw [St.get_set, if_pos rfl]
  cases hfi : find n L with
  | some k =>
    rw [if_neg (fun h => by cases h.1)]
    obtain ⟨f, hk, hn⟩ := find_some hfi
    obtain ⟨s2, a1, a2, a3, a4, a5, _⟩ := tail (x := f.dv) (y := i64 f.last)
    obtain ⟨s3, b1, b2, b3, b4, s4, c1, c2, c3⟩ := fin a2 a3 a4
    have olk : obK s1 m n true (.tup [.agg [f.dv, i64 f.last], TT]) := ⟨lookup_hit hm hfi hk true, rfl⟩
    by_cases hb : burnB fu = true
    · rw [if_pos hb]
      rw [hb] at b1
      refine ⟨s3, pg_run (crBurnT d m n (.agg [f.dv, i64 f.last]) st s1 s2 s3) ?_, b2, b3⟩
      simp only [Ob.ok_cons, Ob.ok_nil, and_true]
      exact ⟨r1, neE_F, o1, olk, a1, b1⟩
    · rw [if_neg hb]
      rw [Bool.not_eq_true] at hb
      rw [hb] at b1
      refine ⟨s4, pg_run (crOkT d m n (.agg [f.dv, i64 f.last]) st s1 s2 s3 s4) ?_, c2, c3⟩
      simp only [Ob.ok_cons, Ob.ok_nil, and_true]
      exact ⟨r1, neE_F, o1, olk, a1, b1, b4, c1⟩
  | none =>
    obtain ⟨s2, a1, a2, a3, a4, a5, a6⟩ := tail (x := .nils) (y := i64 0)
    obtain ⟨s3, b1, b2, b3, b4, s4, c1, c2, c3⟩ := fin a2 a3 a4
    have olk : obK s1 m n true (.tup [.agg [.nils, i64 0], FF]) := ⟨lookup_miss hm hfi true, rfl⟩
    by_cases hlen : 4096 ≤ L.length
    · rw [if_pos ⟨rfl, hlen⟩]
      refine ⟨s2, pg_run (crFull d m n (.agg [.nils, i64 0]) st s1 s2 L.length) ?_, a4, (k1.weak (by simp)).trans (a2.weak (by simp))⟩
      simp only [Ob.ok_cons, Ob.ok_nil, and_true]
      exact ⟨r1, neE_F, o1, olk, a1, a5, ⟨a6.1, a6.2.1⟩, ob_T (by rw [geN_eq]; simp; omega)⟩
    · rw [if_neg (fun h => hlen h.2)]
      have hge : bo (geN L.length 4096) = FF := ob_F (by rw [geN_eq]; simp; omega)
      by_cases hb : burnB fu = true
      · rw [if_pos hb]
        rw [hb] at b1
        refine ⟨s3, pg_run (crBurnF d m n (.agg [.nils, i64 0]) st s1 s2 s3 L.length) ?_, b2, b3⟩
        simp only [Ob.ok_cons, Ob.ok_nil, and_true]
        exact ⟨r1, neE_F, o1, olk, a1, a5, ⟨a6.1, a6.2.1⟩, hge, b1⟩
      · rw [if_neg hb]
        rw [Bool.not_eq_true] at hb
        rw [hb] at b1
        refine ⟨s4, pg_run (crOkF d m n (.agg [.nils, i64 0]) st s1 s2 s3 s4 L.length) ?_, c2, c3⟩
        simp only [Ob.ok_cons, Ob.ok_nil, and_true]
        exact ⟨r1, neE_F, o1, olk, a1, a5, ⟨a6.1, a6.2.1⟩, hge, b1, b4, c1⟩
end
section
set_option maxRecDepth 4000
/-- files as the disk has them: the slice is the bytes -/
def DV (f : PF) : Prop := (f.bytes = [] ∧ f.dv = .nils) ∨ ∃ fl, f.dv = .imm 1 f.bytes.length fl (f.bytes.map u8)
structure Good (s : PS) : Prop where
  dv : ∀ f ∈ s.L, DV f ∧ f.last ≤ f.bytes.length
  fu : 0 ≤ s.fu ∧ s.fu ≤ 9223372036854775807
def pRemove (s : PS) (n : ByteArray) : Int × PS :=
  if rdE s.L s.off true n ≠ 0 then (rdE s.L s.off true n, s) else
  if burnB s.fu = true then (8, burnt s) else
  (0, { burnt s with L := s.L.eraseIdx ((find n s.L).getD 0) })
theorem rd0_find {L : List PF} {off : Bool} {n : ByteArray} (h : ¬ rdE L off true n ≠ 0) : ∃ k f, find n L = some k ∧ L[k]? = some f ∧ f.name = n := by
  cases hf : find n L with
  | some k =>
    obtain ⟨f, h1, h2⟩ := find_some hf
    exact ⟨k, f, rfl, h1, h2⟩
  | none =>
    refine absurd ?_ h
    unfold rdE
    rw [hf]
    split
    · decide
    · split
      · decide
      · simp
/-- the way to a file that is there, the fuse burnt -/
theorem way {st : St} {d m : Nat} {s : PS} (hp : PDs st d m s) (hw : st.wf) (hl : st.lock = []) (hf : 0 ≤ s.fu ∧ s.fu ≤ 9223372036854775807) {n : ByteArray} (hr : ¬ rdE s.L s.off true n ≠ 0) :
    ∃ s1 s2, obR d TT n st 0 s1 ∧ Rest st s1 [] ∧ PDs s1 d m s ∧ obC 40 [.ptr d 0] s1 (bo (burnB s.fu)) s2 ∧ PDs s2 d m (burnt s) ∧ Rest st s2 [d, m] ∧ s2.lock = [] ∧ obL s2 66 (.ptr d 0) (.mp m) := by
  obtain ⟨L, q, fu, off⟩ := s
  have hp0 : PD st d L q fu off m := hp
  obtain ⟨s1, r1, k1⟩ := rd_ok hp0 hw hl n true
  obtain rfl := rd0_off hr
  have hr0 : rdE L false true n = 0 := by simpa using hr
  rw [hr0] at r1
  have p1 := hp0.rest k1
  obtain ⟨s2, b1, b2, b3⟩ := burns_ok p1 k1.wf (k1.lock.trans hl) hf
  exact ⟨s1, s2, r1, k1, p1, b1, b2, (k1.weak (by simp)).trans (b3.weak (by simp)), b3.lock.trans (k1.lock.trans hl), ⟨load_row b2.row (p101 rfl), rfl⟩⟩
theorem remove_ok {st : St} {d m : Nat} {s : PS} (hp : PDs st d m s) (hw : st.wf) (hl : st.lock = []) (hg : Good s) (n : ByteArray) :
    ∃ st', obC 26 [.ptr d 0, str n] st (i64 (pRemove s n).1) st' ∧ PDs st' d m (pRemove s n).2 ∧ Rest st st' [d, m] := by
  unfold pRemove
  by_cases hr : rdE s.L s.off true n ≠ 0
  · rw [if_pos hr]
    obtain ⟨s1, r1, k1⟩ := rd_ok hp hw hl n true
    refine ⟨s1, pg_run (rmNot d n _ st s1) ?_, PD.rest hp k1, k1.weak (by simp)⟩
    simp only [Ob.ok_cons, Ob.ok_nil, and_true]
    exact ⟨r1, neE_T hr⟩
  rw [if_neg hr]
  obtain ⟨s1, s2, r1, k1, p1, b1, p2, k2, l2, o2⟩ := way hp hw hl hg.fu hr
  obtain ⟨k, f, hfi, hk, hn⟩ := rd0_find hr
  by_cases hb : burnB s.fu = true
  · rw [if_pos hb]
    rw [hb] at b1
    refine ⟨s2, pg_run (rmBurn d n st s1 s2) ?_, p2, k2⟩
    simp only [Ob.ok_cons, Ob.ok_nil, and_true]
    exact ⟨r1, neE_F, b1⟩
  · rw [if_neg hb]
    rw [Bool.not_eq_true] at hb
    rw [hb] at b1
    obtain ⟨bs, c, hm⟩ := p2.map
    have hd := delete_hit hm (by rw [l2]; simp) hfi
    refine ⟨s2.set m (.map (((burnt s).L.eraseIdx k).map ent) (bs.eraseIdx k) c), pg_run (rmOk d m n st s1 s2 (s2.set m (.map (((burnt s).L.eraseIdx k).map ent) (bs.eraseIdx k) c))) ?_, ⟨?_, bs.eraseIdx k, c, ?_⟩, k2.trans (Rest.set k2.wf (k2.wf _ _ hm) _ (by simp))⟩
    · simp only [Ob.ok_cons, Ob.ok_nil, and_true]
      exact ⟨r1, neE_F, b1, o2, hd⟩
    · rw [St.get_set, if_neg (PD.ne p2)]; exact p2.row
    · rw [St.get_set, if_pos rfl, hfi]; rfl
def pSync (s : PS) (n : ByteArray) : Int × PS :=
  if rdE s.L s.off true n ≠ 0 then (rdE s.L s.off true n, s) else
  if burnB s.fu = true then (8, burnt s) else
  match find n s.L with
  | some k => match s.L[k]? with
    | some f => (0, { burnt s with L := s.L.set k { f with last := f.bytes.length } })
    | none => (0, burnt s)
  | none => (0, burnt s)
theorem st105 {st : St} {a : Nat} {x y : AV} {ty : Nat} (hg : st.get a = some (.row [x, y] ty)) (hl : st.lock = []) (k : Int) : storeA E0 st 3 (.ptr a 1) (i64 k) = some (st.set a (.row [x, i64 k] ty)) := by
  have hwg := St.wget_of hg (show a ∉ st.lock by rw [hl]; simp)
  simp [storeA, avCells, oneA, size3, hwg]
theorem p28 {vs : List AV} {off : Nat} {a : AV} (h : vs[off]? = some a) : partA E0 33 vs off = some a := plainT ty28 rfl h
theorem p105 {x y : AV} : partA E0 72 [x, y] 0 = some (.agg [x, y]) := by
  simp only [partA, ty105]
  rfl
theorem upd_ok {s : St} {d a m : Nat} {L : List PF} {q fu : Int} {off : Bool} (hp : PD s d L q fu off m) (hw : s.wf) (hl : s.lock = []) (f : PF) (ha : s.get a = some (.row [f.dv, i64 f.last] 72)) :
    ∃ s', (obU d a m s f.name (.agg [f.dv, i64 f.last]) s').ok ∧ PD s' d (putL L f) q fu off m ∧ Rest s s' [d, m] := by
  obtain ⟨bs, c, hm⟩ := hp.map
  obtain ⟨bs', c', hu⟩ := put_ok hm hl f
  refine ⟨_, ?_, ⟨?_, bs', c', by rw [St.get_set, if_pos rfl]⟩, Rest.set hw (hw _ _ hm) _ (by simp)⟩
  · unfold obU
    simp only [Ob.ok_cons, Ob.ok_nil, and_true]
    refine ⟨fun k hk => ?_, ⟨by simp, load_row hp.row (p101 rfl)⟩, ⟨by simp, load_row ha p105⟩, (fun h => (by cases h)), hu⟩
    simp only [List.mem_cons, List.not_mem_nil, or_false] at hk
    rcases hk with rfl | rfl
    · exact hw _ _ hp.row
    · exact hw _ _ ha
  · rw [St.get_set, if_neg hp.ne]; exact hp.row
theorem putL_hit {L : List PF} {k : Nat} {f : PF} (h : find f.name L = some k) : putL L f = L.set k f := by unfold putL; rw [h]
theorem sync_ok {st : St} {d m : Nat} {s : PS} (hp : PDs st d m s) (hw : st.wf) (hl : st.lock = []) (hg : Good s) (n : ByteArray) :
    ∃ st', obC 25 [.ptr d 0, str n] st (i64 (pSync s n).1) st' ∧ PDs st' d m (pSync s n).2 ∧ Rest st st' [d, m] := by
  unfold pSync
  by_cases hr : rdE s.L s.off true n ≠ 0
  · rw [if_pos hr]
    obtain ⟨s1, r1, k1⟩ := rd_ok hp hw hl n true
    refine ⟨s1, pg_run (sySyn d n _ st s1) ?_, PD.rest hp k1, k1.weak (by simp)⟩
    simp only [Ob.ok_cons, Ob.ok_nil, and_true]
    exact ⟨r1, neE_T hr⟩
  rw [if_neg hr]
  obtain ⟨s1, s2, r1, k1, p1, b1, p2, k2, l2, o2⟩ := way hp hw hl hg.fu hr
  obtain ⟨k, f, hfi, hk, hn⟩ := rd0_find hr
  by_cases hb : burnB s.fu = true
  · rw [if_pos hb]
    rw [hb] at b1
    refine ⟨s2, pg_run (syBurn d n st s1 s2) ?_, p2, k2⟩
    simp only [Ob.ok_cons, Ob.ok_nil, and_true]
    exact ⟨r1, neE_F, b1⟩
  rw [if_neg hb]
  rw [Bool.not_eq_true] at hb
  rw [hb] at b1
  obtain ⟨bs, c, hm⟩ := p2.map
  have olk : obK s2 m n false (.agg [f.dv, i64 f.last]) := ⟨lookup_hit hm hfi hk false, rfl⟩
  obtain ⟨s3, a1, a2, a3, a4⟩ := local_ok k2.wf l2 f.dv (i64 f.last)
  have l3 : s3.lock = [] := a3.lock.trans l2
  have o3 : obL s3 33 (.ptr s2.next 0) f.dv := ⟨load_row a2 (p28 rfl), rfl⟩
  have hst := st105 a2 l3 f.bytes.length
  have w4 := set_wf a3.wf (a3.wf _ _ a2) (.row [f.dv, i64 f.bytes.length] 72)
  have R4 : Rest s2 (s3.set s2.next (.row [f.dv, i64 f.bytes.length] 72)) [] := ⟨fun i o _ ho => by
    have := k2.wf _ _ ho
    rw [St.get_set, if_neg (by omega)]; exact a3.keep _ _ (by simp) ho, a3.next, a3.lock, a3.gl, w4⟩
  have p4 : PDs (s3.set s2.next (.row [f.dv, i64 f.bytes.length] 72)) d m (burnt s) := PD.rest p2 R4
  obtain ⟨s5, u1, u2, u3⟩ := upd_ok p4 w4 (by simpa using l3) { f with last := f.bytes.length } (a := s2.next) (by rw [St.get_set, if_pos rfl])
  have hput : putL (burnt s).L { f with last := f.bytes.length } = s.L.set k { f with last := f.bytes.length } := putL_hit (by rw [hn]; exact hfi)
  generalize s3.set s2.next (.row [f.dv, i64 f.bytes.length] 72) = s4 at *
  rw [hfi]
  simp only [hk]
  refine ⟨s5, ?_, ?_, (k2.trans (R4.weak (by simp))).trans u3⟩
  · simp only [hn] at u1
    rcases (hg.dv f (List.mem_of_getElem? hk)).1 with ⟨h0, hdv⟩ | ⟨fl, hdv⟩
    · refine pg_run (syOkN d m n (.agg [f.dv, i64 f.last]) st s1 s2 s3 s4 (.agg [f.dv, i64 f.bytes.length]) s5) ?_
      rw [Ob.ok_append]
      refine ⟨?_, u1⟩
      simp only [Ob.ok_cons, Ob.ok_nil, and_true]
      rw [hdv] at o3
      have e0 : ((f.bytes.length : Nat) : Int) = 0 := by rw [h0]; rfl
      rw [e0] at hst
      exact ⟨r1, neE_F, b1, o2, olk, a1, o3, hst⟩
    · refine pg_run (syOk d m n (.agg [f.dv, i64 f.last]) st s1 s2 s3 s4 f.bytes.length fl (f.bytes.map u8) (.agg [f.dv, i64 f.bytes.length]) s5) ?_
      rw [Ob.ok_append]
      refine ⟨?_, u1⟩
      simp only [Ob.ok_cons, Ob.ok_nil, and_true]
      rw [hdv] at o3
      exact ⟨r1, neE_F, b1, o2, olk, a1, o3, hst⟩
  · show PD s5 d (s.L.set k { f with last := f.bytes.length }) s.q (burnN s.fu) (burnB s.fu) m
    rw [← hput]; exact u2
end
section
set_option maxRecDepth 4000
theorem el28 : elemA E0 33 = some (5, ⟨.int .u8, 1, 1, some (.int .u8 0)⟩, [u8 0]) := by kernel_rfl
theorem str28 : isStrTy E0 33 = false := by kernel_rfl
theorem src28 {st : St} {x : AV} : srcA E0 st 33 x = sliceCells st x := by simp only [srcA, ty28]
def big : Nat := 1099511627776
/-- append of bytes behind a slice that has no room -/
theorem app_full {st : St} {id off len n : Nat} {vs c : List AV} {x : AV} (hg : st.get id = some (.row vs 5)) (ho : off + len ≤ vs.length) (hx : sliceCells st x = some (n, c)) (hc : c.length = n) (h0 : n ≠ 0) (hb : len + n ≤ big) :
    appendA E0 st 33 33 (.sl id 1 off len true) x = some (.sl st.next 1 0 (len + n) false, st.push (.row ((vs.drop off).take len ++ c) 5)) := by
  unfold big at hb
  simp only [appendA, el28, src28, hx, str28, hg, Nat.mul_one]
  rw [if_pos ⟨hc, fun h => by cases h⟩, if_neg (fun h => h rfl), if_neg h0, if_pos ⟨by omega, by omega⟩, if_pos ⟨trivial, ho⟩, if_pos trivial]
theorem app_row {st : St} {id len n : Nat} {vs c : List AV} {x : AV} (hg : st.get id = some (.row vs 5)) (hl : st.lock = []) (ho : len = vs.length) (hx : sliceCells st x = some (n, c)) (hc : c.length = n) (h0 : n ≠ 0) (hb : len + n ≤ big) :
    appendA E0 st 33 33 (.sl id 1 0 len false) x = some (.sl st.next 1 0 (len + n) false, (st.del id).push (.row (vs ++ c) 5)) := by
  unfold big at hb
  simp only [appendA, el28, src28, hx, str28, hg, Nat.mul_one]
  rw [if_pos ⟨hc, fun h => by cases h⟩, if_neg (fun h => h rfl), if_neg h0, if_pos ⟨by omega, by omega⟩, if_pos ⟨trivial, by omega⟩, if_neg (by simp), if_pos ⟨by omega, by rw [hl]; simp⟩, List.drop_zero]
theorem app_nil {st : St} {n : Nat} {c : List AV} {x : AV} (hx : sliceCells st x = some (n, c)) (hc : c.length = n) (h0 : n ≠ 0) (hb : n ≤ big) :
    appendA E0 st 33 33 .nils x = some (.sl st.next 1 0 n false, st.push (.row c 5)) := by
  unfold big at hb
  simp only [appendA, el28, src28, hx, str28, Nat.mul_one]
  rw [if_pos ⟨hc, fun h => by cases h⟩, if_neg h0, if_pos ⟨by omega, by omega⟩]
theorem app_zero {st : St} {s x : AV} {c : List AV} (hs : s = .nils ∨ ∃ i o l f, s = .sl i 1 o l f) (hx : sliceCells st x = some (0, c)) (hc : c.length = 0) : appendA E0 st 33 33 s x = some (s, st) := by
  rcases hs with rfl | ⟨i, o, l, f, rfl⟩ <;> simp only [appendA, el28, src28, hx, str28, Nat.mul_one]
  · rw [if_pos ⟨hc, fun h => by cases h⟩, if_pos trivial]
  · rw [if_pos ⟨hc, fun h => by cases h⟩, if_neg (fun h => h rfl), if_pos trivial]
/-- bytes in a slice of one's own -/
def OwnB (st : St) (v : AV) (bs : List Int) : Prop :=
  (bs = [] ∧ v = .nils) ∨ (bs = [] ∧ ∃ i, v = .sl i 1 0 0 true ∧ st.get i = some (.row [] 5)) ∨ (bs ≠ [] ∧ ∃ i, v = .sl i 1 0 bs.length false ∧ st.get i = some (.row (bs.map u8) 5))
theorem OwnB.kind {st : St} {v : AV} {bs : List Int} (h : OwnB st v bs) : v = .nils ∨ ∃ i o l f, v = .sl i 1 o l f := by
  rcases h with ⟨_, h⟩ | ⟨_, i, h, _⟩ | ⟨_, i, h, _⟩
  · exact .inl h
  · exact .inr ⟨i, 0, 0, true, h⟩
  · exact .inr ⟨i, 0, _, false, h⟩
theorem DV.cells {f : PF} (h : DV f) (st : St) : sliceCells st f.dv = some (f.bytes.length, f.bytes.map u8) := by
  rcases h with ⟨h1, h2⟩ | ⟨fl, h2⟩
  · rw [h2, h1]; rfl
  · rw [h2]; rfl
/-- append behind one's own bytes -/
theorem app_own {st : St} {v x : AV} {bs c : List Int} (hv : OwnB st v bs) (hw : st.wf) (hl : st.lock = []) (hx : sliceCells st x = some (c.length, c.map u8)) (hb : bs.length + c.length ≤ big) :
    ∃ v' st', appendA E0 st 33 33 v x = some (v', st') ∧ OwnB st' v' (bs ++ c) ∧ (∀ i, (∀ o l f, v ≠ .sl i 1 o l f) → ∀ p, st.get i = some p → st'.get i = some p) ∧ st.next ≤ st'.next ∧ st'.lock = [] ∧ st'.gl = st.gl ∧ st'.wf ∧ (v' = v ∧ st' = st ∨ ∃ l f, v' = .sl st.next 1 0 l f) := by
  by_cases h0 : c.length = 0
  · have hc : c = [] := List.eq_nil_of_length_eq_zero h0
    subst hc
    exact ⟨v, st, app_zero hv.kind hx rfl, by simpa using hv, fun i _ p h => h, Nat.le_refl _, hl, rfl, hw, .inl ⟨rfl, rfl⟩⟩
  have hne : bs ++ c ≠ [] := fun e => h0 (by rw [(List.append_eq_nil_iff.1 e).2]; rfl)
  rcases hv with ⟨rfl, rfl⟩ | ⟨rfl, i, rfl, hg⟩ | ⟨hbs, i, rfl, hg⟩
  · refine ⟨_, _, app_nil hx (by simp) h0 (by simpa using hb), .inr (.inr ⟨hne, st.next, by simp, by rw [St.get_push, if_pos rfl]; simp⟩), fun i _ p h => ?_, by simp, by simpa using hl, rfl, push_wf hw _, .inr ⟨_, _, rfl⟩⟩
    have := hw _ _ h
    rw [St.get_push, if_neg (by omega)]; exact h
  · refine ⟨_, _, app_full hg (by simp) hx (by simp) h0 (by simpa using hb), .inr (.inr ⟨hne, st.next, by simp, by rw [St.get_push, if_pos rfl]; simp⟩), fun j _ p h => ?_, by simp, by simpa using hl, rfl, push_wf hw _, .inr ⟨_, _, rfl⟩⟩
    have := hw _ _ h
    rw [St.get_push, if_neg (by omega)]; exact h
  · have hdw : (st.del i).wf := fun j p h => by
      rw [St.get_del] at h
      split at h
      · cases h
      · exact hw _ _ h
    refine ⟨_, _, app_row hg hl (by simp) hx (by simp) h0 hb, .inr (.inr ⟨hne, st.next, by simp, by rw [St.get_push, if_pos (by simp)]; simp⟩), fun j hj p h => ?_, by simp, by simpa using hl, rfl, push_wf hdw _, .inr ⟨_, _, rfl⟩⟩
    have := hw _ _ h
    rw [St.get_push, if_neg (by simp; omega), St.get_del, if_neg (fun e => hj _ _ _ (by rw [e]))]; exact h
theorem clone_ok {st : St} (hw : st.wf) (hl : st.lock = []) {f : PF} (hf : DV f) (hb : f.bytes.length ≤ big) : ∃ v st', obC 32 [f.dv] st v st' ∧ OwnB st' v f.bytes ∧ Rest st st' [] ∧ (v = .nils ∨ ∃ i o l g, v = .sl i 1 o l g ∧ st.next ≤ i) := by
  rcases hf with ⟨h1, h2⟩ | ⟨fl, h2⟩
  · rw [h2]
    exact ⟨.nils, st, bp_run (clN st) Ob.ok_nil, .inl ⟨h1, rfl⟩, Rest.refl hw _, .inl rfl⟩
  · have hx : sliceCells (st.push (.row [] 5)) (.imm 1 f.bytes.length fl (f.bytes.map u8)) = some (f.bytes.length, f.bytes.map u8) := rfl
    have hl' : (st.push (.row [] 5)).lock = [] := by simpa using hl
    obtain ⟨v, st', a1, a2, a3, a4, a5, a6, a7, a8⟩ := app_own (v := .sl st.next 1 0 0 true) (bs := []) (.inr (.inl ⟨rfl, st.next, rfl, by rw [St.get_push, if_pos rfl]⟩)) (push_wf hw (.row [] 5)) hl' hx (by simpa using hb)
    rw [h2]
    refine ⟨v, st', bp_run (clI v st st' fl f.bytes.length (f.bytes.map u8)) (by simp only [Ob.ok_cons, Ob.ok_nil, and_true]; exact a1), by simpa using a2, ⟨fun i o _ ho => ?_, by simp at a4; omega, a5.trans hl.symm, a6, a7⟩, ?_⟩
    · have := hw _ _ ho
      refine a3 i (fun o l g e => by cases e; omega) o ?_
      rw [St.get_push, if_neg (by omega)]; exact ho
    · rcases a8 with ⟨rfl, _⟩ | ⟨l, g, rfl⟩
      · exact .inr ⟨_, _, _, _, rfl, Nat.le_refl _⟩
      · exact .inr ⟨_, _, _, _, rfl, by simp⟩
end
section
set_option maxRecDepth 4000
/-- what is given as bytes -/
def ArgB (st : St) (x : AV) (c : List Int) : Prop := (c = [] ∧ x = .nils) ∨ (∃ fl, x = .imm 1 c.length fl (c.map u8)) ∨ ∃ i fl, x = .sl i 1 0 c.length fl ∧ st.get i = some (.row (c.map u8) 5)
theorem ArgB.cells {st : St} {x : AV} {c : List Int} (h : ArgB st x c) : sliceCells st x = some (c.length, c.map u8) := by
  rcases h with ⟨rfl, rfl⟩ | ⟨fl, rfl⟩ | ⟨i, fl, rfl, hg⟩
  · rfl
  · rfl
  · simp only [sliceCells, hg, Nat.mul_one]
    rw [if_pos (by simp), List.drop_zero, List.take_of_length_le (by simp)]
theorem ArgB.keep {st st' : St} {x : AV} {c : List Int} (h : ArgB st x c) (hk : ∀ i, st.get i = some (.row (c.map u8) 5) → st'.get i = some (.row (c.map u8) 5)) : ArgB st' x c := by
  rcases h with h | h | ⟨i, fl, h, hg⟩
  · exact .inl h
  · exact .inr (.inl h)
  · exact .inr (.inr ⟨i, fl, h, hk i hg⟩)
/-- rows of bytes stay, whatever the disk does -/
theorem Rest.bytes {st st' : St} {d m : Nat} {L : List PF} {q fu : Int} {off : Bool} (hr : Rest st st' [d, m]) (hp : PD st d L q fu off m) {i : Nat} {vs : List AV} (hg : st.get i = some (.row vs 5)) : st'.get i = some (.row vs 5) := by
  refine hr.keep i _ (fun hi => ?_) hg
  simp only [List.mem_cons, List.not_mem_nil, or_false] at hi
  obtain ⟨bs, c, hm⟩ := hp.map
  rcases hi with rfl | rfl
  · rw [hp.row] at hg
    simp only [Option.some.injEq, AObj.row.injEq] at hg
    exact absurd hg.2 (by decide)
  · rw [hm] at hg; cases hg
/-- maps are well made -/
theorem ACalls.mwf {P : Program} {f : Nat} {args : List AV} {Q : AV → St → Prop} {st : St} (h : (∀ m es bs c, st.get m = some (.map es bs c) → es.length = bs.length ∧ bs.Nodup ∧ ∀ b ∈ bs, b < c) → ACalls P f args Q st) : ACalls P f args Q st :=
  fun g w us hok hv => h (fun m es bs c hm => by
    obtain ⟨_, es', h1, h2, h3, h4, h5, h6⟩ := hok.obj m _ hm
    refine ⟨?_, h5, h6⟩
    have e1 := h2.1
    rw [← h4]
    simpa using e1.symm) g w us hok hv
def usedL (L : List PF) : Nat := (L.map fun f => f.bytes.length).sum
theorem lenFile_ent {f : PF} (h : DV f) : lenFile (ent f).2 = f.bytes.length ∧ okFile (ent f).2 = true := by
  rcases h with ⟨h1, h2⟩ | ⟨fl, h2⟩
  · simp [ent, h2, h1, lenFile, okFile, lenV, isSlice]
  · simp [ent, h2, lenFile, okFile, lenV, isSlice]
theorem used_ok {st : St} {d m : Nat} {L : List PF} {q fu : Int} {off : Bool} (hrow : st.get d = some (.row [.mp m, i64 q, i64 fu, bo off] 68)) {bs : List Nat} {c : Nat} (hm : st.get m = some (.map (L.map ent) bs c)) (hd : ∀ f ∈ L, DV f) (hlk : ∀ i ∈ st.lock, i < st.next) (hu : usedL L < 1000000000) :
    obC 39 [.ptr d 0] st (i64 (usedL L)) { st with next := st.next + 1 + bs.length } := by
  refine ACalls.mwf fun hmw => ?_
  obtain ⟨h1, h2, h3⟩ := hmw m _ bs c hm
  simp only [List.length_map] at h1
  have hi : ∀ i, i < bs.length → ((L.map ent).getD i default).2 = (ent (L.getD i ⟨⟨#[]⟩, .nils, [], 0⟩)).2 ∧ ∃ f, L[i]? = some f ∧ L.getD i ⟨⟨#[]⟩, .nils, [], 0⟩ = f := fun i hi => by
    have : i < L.length := by omega
    refine ⟨?_, L[i], List.getElem?_eq_getElem this, ?_⟩
    · rw [List.getD_eq_getElem?_getD, List.getD_eq_getElem?_getD, List.getElem?_map, List.getElem?_eq_getElem this]; rfl
    · rw [List.getD_eq_getElem?_getD, List.getElem?_eq_getElem this]; rfl
  have hsum : ((List.range bs.length).map fun i => lenFile ((L.map ent).getD i default).2).sum = usedL L := by
    unfold usedL
    congr 1
    rw [← h1]
    apply List.ext_getElem?
    intro i
    by_cases hlt : i < L.length
    · obtain ⟨e1, f, e2, e3⟩ := hi i (by omega)
      rw [List.getElem?_map, List.getElem?_range hlt, List.getElem?_map, e2]
      simp only [Option.map_some]
      rw [e1, e3, (lenFile_ent (hd f (List.mem_of_getElem? e2))).1]
    · rw [List.getElem?_eq_none (by simp; omega), List.getElem?_eq_none (by simp; omega)]
  refine (used d m st 68 _ (L.map ent) bs c hrow hm (fun i => lenFile ((L.map ent).getD i default).2) (usedL L) (fun _ => rfl) hsum h2 (by simpa using h3) (by simpa using h1) (fun i hlt => ?_) hlk hu).mono fun a s e => ?_
  · obtain ⟨e1, f, e2, e3⟩ := hi i hlt
    rw [e1, e3]; exact (lenFile_ent (hd f (List.mem_of_getElem? e2))).2
  · cases e; exact ⟨rfl, rfl⟩
end
section
set_option maxRecDepth 4000
theorem le_sum : ∀ {l : List Nat} {x : Nat}, x ∈ l → x ≤ l.sum
  | a :: r, x, h => by
    rw [List.sum_cons]
    rcases List.mem_cons.1 h with rfl | h
    · omega
    · have := le_sum h; omega
theorem small_of {s : PS} {f : PF} (h : usedL s.L ≤ big) (hf : f ∈ s.L) : f.bytes.length ≤ big := by
  refine Nat.le_trans ?_ h
  unfold usedL
  exact le_sum (List.mem_map.2 ⟨f, hf, rfl⟩)
theorem way0 {st : St} {d m : Nat} {s : PS} (hp : PDs st d m s) (hw : st.wf) (hl : st.lock = []) {n : ByteArray} (hr : ¬ rdE s.L s.off true n ≠ 0) :
    ∃ s1, obR d TT n st 0 s1 ∧ Rest st s1 [] ∧ PDs s1 d m s ∧ s1.lock = [] ∧ obL s1 66 (.ptr d 0) (.mp m) := by
  obtain ⟨s1, r1, k1⟩ := rd_ok hp hw hl n true
  have hr0 : rdE s.L s.off true n = 0 := by simpa using hr
  rw [hr0] at r1
  have p1 : PDs s1 d m s := PD.rest hp k1
  exact ⟨s1, r1, k1, p1, k1.lock.trans hl, ⟨load_row p1.row (p101 rfl), rfl⟩⟩
theorem read_ok {st : St} {d m : Nat} {s : PS} (hp : PDs st d m s) (hw : st.wf) (hl : st.lock = []) (hg : Good s) (hu : usedL s.L ≤ big) (n : ByteArray) :
    ∃ v st', obC 19 [.ptr d 0, str n] st (.tup [v, i64 (rdE s.L s.off true n)]) st' ∧ Rest st st' [] ∧
      ((rdE s.L s.off true n ≠ 0 ∧ v = .nils) ∨ rdE s.L s.off true n = 0 ∧ ∃ k f, find n s.L = some k ∧ s.L[k]? = some f ∧ OwnB st' v f.bytes ∧ (v = .nils ∨ ∃ i o l g, v = .sl i 1 o l g ∧ st.next ≤ i)) := by
  by_cases hr : rdE s.L s.off true n ≠ 0
  · obtain ⟨s1, r1, k1⟩ := rd_ok hp hw hl n true
    refine ⟨.nils, s1, pg_run (rdNot d n _ st s1) ?_, k1, .inl ⟨hr, rfl⟩⟩
    simp only [Ob.ok_cons, Ob.ok_nil, and_true]
    exact ⟨r1, neE_T hr⟩
  obtain ⟨s1, r1, k1, p1, l1, o1⟩ := way0 hp hw hl hr
  have hr0 : rdE s.L s.off true n = 0 := by simpa using hr
  rw [hr0]
  obtain ⟨k, f, hfi, hk, hn⟩ := rd0_find hr
  obtain ⟨bs, c, hm⟩ := p1.map
  have olk : obK s1 m n false (.agg [f.dv, i64 f.last]) := ⟨lookup_hit hm hfi hk false, rfl⟩
  obtain ⟨v, s2, c1, c2, c3, c4⟩ := clone_ok k1.wf l1 (hg.dv f (List.mem_of_getElem? hk)).1 (small_of hu (List.mem_of_getElem? hk))
  refine ⟨v, s2, pg_run (rdOk d m n st s1 s2 f.dv (i64 f.last) v) ?_, k1.trans c3, .inr ⟨rfl, k, f, hfi, hk, c2, ?_⟩⟩
  · simp only [Ob.ok_cons, Ob.ok_nil, and_true]
    exact ⟨r1, neE_F, o1, olk, c1⟩
  · rcases c4 with h | ⟨i, o, l, g, h, hi⟩
    · exact .inl h
    · exact .inr ⟨i, o, l, g, h, Nat.le_trans k1.next hi⟩
def pLoose (s : PS) (n : ByteArray) : Int :=
  if rdE s.L s.off true n ≠ 0 then 0 else match find n s.L with
  | some k => match s.L[k]? with
    | some f => (f.bytes.length : Int) - f.last
    | none => 0
  | none => 0
theorem gtP_T {a b : Int} (h : b < a) : gtP a b TT := by
  have : gtP a b TT = (some (bo (gtN a b)) = some TT) := rfl
  rw [this]; exact congrArg some (gt_T h)
theorem gtP_F {a b : Int} (h : a ≤ b) : gtP a b FF := by
  have : gtP a b FF = (some (bo (gtN a b)) = some FF) := rfl
  rw [this]; exact congrArg some (gt_F h)
theorem subP_ok {a b : Int} (h : -9223372036854775808 ≤ a - b ∧ a - b ≤ 9223372036854775807) : subP a b (a - b) := by
  have : subP a b (a - b) = (some (i64 (subN a b)) = some (i64 (a - b))) := rfl
  rw [this, subN_eq _ _ h]
end
section
set_option maxRecDepth 4000
section
variable {d m : Nat} {n : ByteArray} {st s1 s2 s3 s4 s5 s6 s7 s8 : St} {x : AV} {c : List Int}
theorem ap_not {e : Int} (hx : ArgB st x c) (h1 : obR d TT n st e s1) (he : e ≠ 0) : obC 24 [.ptr d 0, str n, x] st (i64 e) s1 := by
  have ob : Ob.ok [obR d TT n st e s1, bo (neE e 0) = TT] := by simp only [Ob.ok_cons, Ob.ok_nil, and_true]; exact ⟨h1, neE_T he⟩
  rcases hx with ⟨rfl, rfl⟩ | ⟨fl, rfl⟩ | ⟨i, fl, rfl, hg⟩
  · exact ap_run (apNotN d n e st s1) ob
  · exact ap_run (apNotI d n e st s1 _ fl _) ob
  · exact ap_run (apNotS d n e st s1 i _ fl) ob
theorem ap_full {q u y : Int} (hx : ArgB st x c) (hc : 0 < c.length) (h1 : obR d TT n st 0 s1) (h2 : (obRoom d c.length q u y s1 s2 TT).ok) : obC 24 [.ptr d 0, str n, x] st (i64 7) (s2.show s1 [d]) := by
  have ob : Ob.ok ([obR d TT n st 0 s1, bo (neE 0 0) = FF] ++ obRoom d c.length q u y s1 s2 TT) := by rw [Ob.ok_append]; simp only [Ob.ok_cons, Ob.ok_nil, and_true]; exact ⟨⟨h1, neE_F⟩, h2⟩
  rcases hx with ⟨rfl, rfl⟩ | ⟨fl, rfl⟩ | ⟨i, fl, rfl, hg⟩
  · simp at hc
  · exact ap_run (apFullI d n q u y st s1 s2 _ fl _) ob
  · exact ap_run (apFullS d n q u y st s1 s2 i _ fl) ob
theorem ap_burn {q u y : Int} (hx : ArgB st x c) (hc : 0 < c.length) (h1 : obR d TT n st 0 s1) (h2 : (obRoom d c.length q u y s1 s2 FF).ok) (h3 : obC 40 [.ptr d 0] (s2.show s1 [d]) TT s3) : obC 24 [.ptr d 0, str n, x] st (i64 8) s3 := by
  have ob : Ob.ok ([obR d TT n st 0 s1, bo (neE 0 0) = FF] ++ obRoom d c.length q u y s1 s2 FF ++ [obC 40 [.ptr d 0] (s2.show s1 [d]) TT s3]) := by
    rw [Ob.ok_append, Ob.ok_append]; simp only [Ob.ok_cons, Ob.ok_nil, and_true]; exact ⟨⟨⟨h1, neE_F⟩, h2⟩, h3⟩
  rcases hx with ⟨rfl, rfl⟩ | ⟨fl, rfl⟩ | ⟨i, fl, rfl, hg⟩
  · simp at hc
  · exact ap_run (apBurnI d n q u y st s1 s2 s3 _ fl _) ob
  · exact ap_run (apBurnS d n q u y st s1 s2 s3 i _ fl) ob
theorem ap_burn0 (hx : ArgB st x c) (hc : c.length = 0) (h1 : obR d TT n st 0 s1) (h3 : obC 40 [.ptr d 0] s1 TT s3) : obC 24 [.ptr d 0, str n, x] st (i64 8) s3 := by
  have e0 : (c.length : Int) = 0 := by rw [hc]; rfl
  have ob : Ob.ok ([obR d TT n st 0 s1, bo (neE 0 0) = FF] ++ obNoB d c.length s1 ++ [obC 40 [.ptr d 0] s1 TT s3]) := by
    rw [Ob.ok_append, Ob.ok_append]; unfold obNoB; simp only [Ob.ok_cons, Ob.ok_nil, and_true]; exact ⟨⟨⟨h1, neE_F⟩, (fun i hi => (by cases hi)), gtP_F (by omega)⟩, h3⟩
  rcases hx with ⟨rfl, rfl⟩ | ⟨fl, rfl⟩ | ⟨i, fl, rfl, hg⟩
  · exact ap_run (apBurn0N d n st s1 s3) ob
  · exact ap_run (apBurn0I d n st s1 s3 _ fl _) ob
  · exact ap_run (apBurn0S d n st s1 s3 i _ fl) ob
/-- the last lines of Append -/
def obApp (d m : Nat) (n : ByteArray) (x v dv cl nd l : AV) (sb s3 s4 s5 s6 s7 s8 : St) : Ob := [obC 40 [.ptr d 0] sb FF s3, obL s3 66 (.ptr d 0) (.mp m), obK s3 m n false v, storeA E0 (zSt s3) 72 (.ptr s3.next 0) v = some s4, obL s4 33 (.ptr s3.next 0) dv, obC 32 [dv] s4 cl s5, appendA E0 s5 33 33 cl x = some (nd, s6), storeA E0 s6 33 (.ptr s3.next 0) nd = some s7] ++ obU d s3.next m s7 n l s8
theorem ap_ok {q u y : Int} {v dv cl nd l : AV} (hx : ArgB st x c) (hc : 0 < c.length) (h1 : obR d TT n st 0 s1) (h2 : (obRoom d c.length q u y s1 s2 FF).ok) (h3 : (obApp d m n x v dv cl nd l (s2.show s1 [d]) s3 s4 s5 s6 s7 s8).ok) : obC 24 [.ptr d 0, str n, x] st (i64 0) s8 := by
  have ob : Ob.ok ([obR d TT n st 0 s1, bo (neE 0 0) = FF] ++ obRoom d c.length q u y s1 s2 FF ++ obApp d m n x v dv cl nd l (s2.show s1 [d]) s3 s4 s5 s6 s7 s8) := by
    rw [Ob.ok_append, Ob.ok_append]; simp only [Ob.ok_cons, Ob.ok_nil, and_true]; exact ⟨⟨⟨h1, neE_F⟩, h2⟩, h3⟩
  rcases hx with ⟨rfl, rfl⟩ | ⟨fl, rfl⟩ | ⟨i, fl, rfl, hg⟩
  · simp at hc
  · exact ap_run (apOkI d m n q u y v dv cl nd l st s1 s2 s3 s4 s5 s6 s7 s8 _ fl _) ob
  · exact ap_run (apOkS d m n q u y v dv cl nd l st s1 s2 s3 s4 s5 s6 s7 s8 i _ fl) ob
theorem ap_ok0 {v dv cl nd l : AV} (hx : ArgB st x c) (hc : c.length = 0) (h1 : obR d TT n st 0 s1) (h3 : (obApp d m n x v dv cl nd l s1 s3 s4 s5 s6 s7 s8).ok) : obC 24 [.ptr d 0, str n, x] st (i64 0) s8 := by
  have ob : Ob.ok ([obR d TT n st 0 s1, bo (neE 0 0) = FF] ++ obNoB d c.length s1 ++ obApp d m n x v dv cl nd l s1 s3 s4 s5 s6 s7 s8) := by
    rw [Ob.ok_append, Ob.ok_append]; unfold obNoB; simp only [Ob.ok_cons, Ob.ok_nil, and_true]; exact ⟨⟨⟨h1, neE_F⟩, (fun i hi => (by cases hi)), gtP_F (by omega)⟩, h3⟩
  rcases hx with ⟨rfl, rfl⟩ | ⟨fl, rfl⟩ | ⟨i, fl, rfl, hg⟩
  · exact ap_run (apOk0N d m n v dv cl nd l st s1 s3 s4 s5 s6 s7 s8) ob
  · exact ap_run (apOk0I d m n v dv cl nd l st s1 s3 s4 s5 s6 s7 s8 _ fl _) ob
  · exact ap_run (apOk0S d m n v dv cl nd l st s1 s3 s4 s5 s6 s7 s8 i _ fl) ob
end
end
section
set_option maxRecDepth 4000
/-- all but S stays, of what has no new place in it -/
structure RestF (st st' : St) (S : List Nat) : Prop where
  keep : ∀ i o, i ∉ S → st.get i = some o → (∀ id vs, st.next ≤ id → frzO id vs o = o) → st'.get i = some o
  next : st.next ≤ st'.next
  lock : st'.lock = st.lock
  gl : st'.gl = st.gl
  wf : st'.wf
theorem Rest.f {st st' : St} {S : List Nat} (h : Rest st st' S) : RestF st st' S := ⟨fun i o hi ho _ => h.keep i o hi ho, h.next, h.lock, h.gl, h.wf⟩
theorem store28 {st : St} {a : Nat} {x y v : AV} {ty : Nat} (hg : st.get a = some (.row [x, y] ty)) (hl : st.lock = []) (hv : avCells v = some [v]) : storeA E0 st 33 (.ptr a 0) v = some (st.set a (.row [v, y] ty)) := by
  have hwg := St.wget_of hg (show a ∉ st.lock by rw [hl]; simp)
  have sz : tySize E0 33 = some 1 := by kernel_rfl
  simp [storeA, hv, sz, hwg]
theorem OwnB.cell {st : St} {v : AV} {bs : List Int} (h : OwnB st v bs) : avCells v = some [v] := by
  rcases h with ⟨_, rfl⟩ | ⟨_, i, rfl, _⟩ | ⟨_, i, rfl, _⟩ <;> rfl
def appE (s : PS) (n : ByteArray) (c : List Int) : Int :=
  if rdE s.L s.off true n ≠ 0 then rdE s.L s.off true n else
  if 0 < c.length ∧ s.q - usedL s.L < c.length then 7 else
  if burnB s.fu = true then 8 else 0
/-- what Append makes of a disk -/
def AppS (s : PS) (n : ByteArray) (c : List Int) (s' : PS) : Prop :=
  if rdE s.L s.off true n ≠ 0 then s' = s else
  if 0 < c.length ∧ s.q - usedL s.L < c.length then s' = s else
  if burnB s.fu = true then s' = burnt s else
  ∃ k f dv, find n s.L = some k ∧ s.L[k]? = some f ∧ f.name = n ∧ DV ⟨n, dv, f.bytes ++ c, f.last⟩ ∧ s' = { burnt s with L := s.L.set k ⟨n, dv, f.bytes ++ c, f.last⟩ }
theorem room_ok {s1 : St} {d m : Nat} {s : PS} (hp : PDs s1 d m s) (hw : s1.wf) (hl : s1.lock = []) (hg : Good s) (hu : usedL s.L < 1000000000) (hq : 0 ≤ s.q ∧ s.q ≤ 9223372036854775807) {k : Nat} (hk : 0 < k) :
    ∃ s2 y, (∀ {r : AV}, gtP k y r → (obRoom d k s.q (usedL s.L) y s1 s2 r).ok) ∧ Rest s1 (s2.show s1 [d]) [] ∧ y = s.q - usedL s.L := by
  obtain ⟨bs, c, hm⟩ := hp.map
  have hd := hw _ _ hp.row
  refine ⟨{ (s1.hide [d]) with next := s1.next + 1 + bs.length }, s.q - usedL s.L, fun {r} hr => ?_, ?_, rfl⟩
  · unfold obRoom
    simp only [Ob.ok_cons, Ob.ok_nil, and_true]
    refine ⟨fun i hi => ?_, gtP_T (by omega), ⟨by simp, load_row hp.row (p3 rfl)⟩, fun _ => by simp [hp.row], ?_, subP_ok (by omega), hr⟩
    · obtain rfl := List.mem_singleton.1 hi; exact hd
    · refine used_ok (st := s1.hide [d]) (L := s.L) (q := s.q) (fu := s.fu) (off := s.off) (m := m) hp.row hm (fun f hf => (hg.dv f hf).1) (fun i hi => ?_) hu
      simp only [St.hide, hl, List.append_nil, List.mem_singleton] at hi
      subst hi; exact hd
  · refine ⟨fun i o _ ho => ?_, ?_, rfl, ?_, fun i o ho => ?_⟩
    · rw [St.show_get]
      split
      · exact ho
      · exact ho
    · show s1.next ≤ (St.show1 _ _ _).next
      rw [St.show1_next]
      show s1.next ≤ s1.next + 1 + bs.length
      omega
    · show (St.show1 _ _ _).gl = _
      rw [St.show1_gl]; rfl
    · show i < (St.show1 _ _ _).next
      rw [St.show1_next]
      rw [St.show_get] at ho
      have hi : i < s1.next := by
        split at ho
        · exact hw _ _ ho
        · exact hw _ _ ho
      show i < s1.next + 1 + bs.length
      omega
end
section
set_option maxRecDepth 4000
theorem frz_u8 (id : Nat) (vs : List AV) (d : List Int) : frzL id vs (d.map u8) = d.map u8 := by
  rw [frzL_eq, List.map_map]
  congr 1
theorem frz_dv {id : Nat} {vs : List AV} {f : PF} (h : DV f) : frz id vs f.dv = f.dv := by
  rcases h with ⟨_, h⟩ | ⟨fl, h⟩
  · rw [h]; rfl
  · rw [h]; simp only [frz, frz_u8]
theorem frz_ent {id : Nat} {vs : List AV} {f : PF} (h : DV f) : ((frz id vs (ent f).1, frz id vs (ent f).2) : AV × AV) = ent f := by
  simp only [ent, frz, frzL, frz_dv h]
theorem frz_wf {id : Nat} {vs : List AV} {st : St} (hw : st.wf) : (frzSt id vs st).wf := fun i o ho => by
  rw [(frzSt_ok hw).get] at ho
  show i < st.next
  split at ho
  · cases ho
  · obtain ⟨p, hp, _⟩ := Option.map_eq_some_iff.1 ho
    exact hw _ _ hp
/-- the last lines of Append -/
theorem app_tail {st3 sb : St} {d m : Nat} {q0 fu0 : Int} {off0 : Bool} {L : List PF} (p3 : PD st3 d L q0 fu0 off0 m) (hw : st3.wf) (hl : st3.lock = []) (hg : ∀ f ∈ L, DV f) {n : ByteArray} {x : AV} {c : List Int} (hx : ArgB st3 x c) (hburn : obC 40 [.ptr d 0] sb FF st3)
    {k : Nat} {f : PF} (hfi : find n L = some k) (hk : L[k]? = some f) (hb : f.bytes.length + c.length ≤ big) :
    ∃ (cl nd : AV) (s4 s5 s6 s7 s8 : St), (obApp d m n x (.agg [f.dv, i64 f.last]) f.dv cl nd (.agg [nd, i64 f.last]) sb st3 s4 s5 s6 s7 s8).ok ∧ PD s8 d (L.set k ⟨n, nd, f.bytes ++ c, f.last⟩) q0 fu0 off0 m ∧ Rest st3 s8 [d, m] ∧ OwnB s8 nd (f.bytes ++ c) ∧ (nd = .nils ∨ ∃ i o l g, nd = .sl i 1 o l g ∧ st3.next ≤ i) := by
  have hdv := hg f (List.mem_of_getElem? hk)
  obtain ⟨bs, cc, hm⟩ := p3.map
  have o1 : obL st3 66 (.ptr d 0) (.mp m) := ⟨load_row p3.row (p101 rfl), rfl⟩
  have olk : obK st3 m n false (.agg [f.dv, i64 f.last]) := ⟨lookup_hit hm hfi hk false, rfl⟩
  obtain ⟨s4, a1, a2, a3, a4⟩ := local_ok hw hl f.dv (i64 f.last)
  have l4 : s4.lock = [] := a3.lock.trans hl
  have o4 : obL s4 33 (.ptr st3.next 0) f.dv := ⟨load_row a2 (p28 rfl), rfl⟩
  obtain ⟨cl, s5, c1, c2, c3, c4⟩ := clone_ok a3.wf l4 hdv (by omega)
  have l5 : s5.lock = [] := c3.lock.trans l4
  have x5 : ArgB s5 x c := hx.keep fun i h => c3.keep _ _ (by simp) (a3.keep _ _ (by simp) h)
  obtain ⟨nd, s6, e1, e2, e3, e4, e5, e6, e7, e8⟩ := app_own c2 c3.wf l5 x5.cells hb
  have clid : ∀ i o l, (∃ g, cl = .sl i 1 o l g) → s4.next ≤ i := fun i o l ⟨g, h⟩ => by
    rcases c4 with h' | ⟨i', o', l', g', h', hi'⟩
    · rw [h'] at h; cases h
    · rw [h'] at h; cases h; exact hi'
  have k46 : ∀ i p, s4.get i = some p → s6.get i = some p := fun i p h => by
    have hi := a3.wf _ _ h
    exact e3 i (fun o l g e => by have := clid i o l ⟨g, e⟩; omega) p (c3.keep _ _ (by simp) h)
  have r46 : Rest s4 s6 [] := ⟨fun i o _ h => k46 i o h, Nat.le_trans c3.next e4, e5.trans l4.symm, e6.trans c3.gl, e7⟩
  have g6 := k46 _ _ a2
  have l6 : s6.lock = [] := e5
  have hst := store28 g6 l6 e2.cell
  have w7 := set_wf e7 (e7 _ _ g6) (.row [nd, i64 f.last] 72)
  have n4 : st3.next < s4.next := by omega
  have r37 : Rest st3 (s6.set st3.next (.row [nd, i64 f.last] 72)) [] := ⟨fun i o _ h => by
    have := hw _ _ h
    rw [St.get_set, if_neg (by omega)]; exact k46 i o (a3.keep _ _ (by simp) h), Nat.le_trans a3.next r46.next, l6.trans hl.symm, e6.trans (c3.gl.trans a3.gl), w7⟩
  have p7 := p3.rest r37
  have ndid : nd = .nils ∨ ∃ i o l g, nd = .sl i 1 o l g ∧ s4.next ≤ i := by
    rcases e8 with ⟨h, _⟩ | ⟨l, g, h⟩
    · rw [h]; exact c4
    · exact .inr ⟨_, _, _, _, h, c3.next⟩
  have own7 : OwnB (s6.set st3.next (.row [nd, i64 f.last] 72)) nd (f.bytes ++ c) := by
    rcases e2 with h | ⟨h1, i, h2, h3⟩ | ⟨h1, i, h2, h3⟩
    · exact .inl h
    · refine .inr (.inl ⟨h1, i, h2, ?_⟩)
      rcases ndid with h | ⟨i', _, _, _, h, hi⟩
      · rw [h] at h2; cases h2
      · rw [h] at h2; cases h2
        rw [St.get_set, if_neg (by omega)]; exact h3
    · refine .inr (.inr ⟨h1, i, h2, ?_⟩)
      rcases ndid with h | ⟨i', _, _, _, h, hi⟩
      · rw [h] at h2; cases h2
      · rw [h] at h2; cases h2
        rw [St.get_set, if_neg (by omega)]; exact h3
  obtain ⟨s8, u1, u2, u3⟩ := upd_ok p7 w7 l6 ⟨n, nd, f.bytes ++ c, f.last⟩ (a := st3.next) (by rw [St.get_set, if_pos rfl])
  rw [putL_hit (show find n L = some k from hfi)] at u2
  refine ⟨cl, nd, s4, s5, s6, s6.set st3.next (.row [nd, i64 f.last] 72), s8, ?_, u2, (r37.weak (by simp)).trans u3, ?_, ?_⟩
  · unfold obApp
    rw [Ob.ok_append]
    refine ⟨?_, u1⟩
    simp only [Ob.ok_cons, Ob.ok_nil, and_true]
    exact ⟨hburn, o1, olk, a1, o4, c1, e1, hst⟩
  · rcases own7 with h | ⟨h1, i, h2, h3⟩ | ⟨h1, i, h2, h3⟩
    · exact .inl h
    · exact .inr (.inl ⟨h1, i, h2, u3.bytes p7 h3⟩)
    · exact .inr (.inr ⟨h1, i, h2, u3.bytes p7 h3⟩)
  · rcases ndid with h | ⟨i, o, l, g, h, hi⟩
    · exact .inl h
    · exact .inr ⟨i, o, l, g, h, by omega⟩
theorem frz_list {id : Nat} {vs : List AV} {L : List PF} (h : ∀ f ∈ L, DV f) : (L.map ent).map (fun p => (frz id vs p.1, frz id vs p.2)) = L.map ent := by
  rw [List.map_map]
  exact List.map_congr_left fun f hf => frz_ent (h f hf)
theorem freeze_disk {st s8 : St} {d m : Nat} {L : List PF} {q fu : Int} {off : Bool} {k : Nat} {n : ByteArray} {bs : List Int} {last j l : Nat} {g : Bool} {vs : List AV} {args : List AV} {f : Nat} {e : Int}
    (h : obC f args st (i64 e) s8) (hp : PD s8 d (L.set k ⟨n, .sl j 1 0 l g, bs, last⟩) q fu off m) (hr : Rest st s8 [d, m]) (hw : st.wf) (hl : st.lock = []) (hL : ∀ f ∈ L, DV f) (hj : s8.get j = some (.row vs 5)) (hvs : vs = bs.map u8) (hlb : l = bs.length) (hjn : st.next ≤ j) :
    ∃ st', obC f args st (i64 e) st' ∧ PD st' d (L.set k ⟨n, .imm 1 bs.length g (bs.map u8), bs, last⟩) q fu off m ∧ RestF st st' [d, m] := by
  subst hvs
  subst hlb
  have hF := frzSt_ok (id := j) (vs := bs.map u8) hr.wf
  obtain ⟨b1, c1, hm⟩ := hp.map
  have hd8 := hp.row
  have hjd : d ≠ j := fun e => by
    rw [← e, hd8] at hj
    simp only [Option.some.injEq, AObj.row.injEq] at hj
    exact absurd hj.2 (by decide)
  have hjm : m ≠ j := fun e => by rw [← e, hm] at hj; cases hj
  refine ⟨frzSt j (bs.map u8) s8, ?_, ⟨?_, b1, c1, ?_⟩, ⟨fun i o hi ho hs => ?_, hr.next, hr.lock, hr.gl, frz_wf hr.wf⟩⟩
  · refine ACalls.freeze h fun a s' ⟨e1, e2⟩ _ _ => ⟨j, bs.map u8, 5, by rw [e2]; exact hj, by rw [e2]; exact hr.lock.trans hl, by rw [e1]; rfl, by rw [e2]⟩
  · rw [hF.get, if_neg hjd, hd8]
    rfl
  · rw [hF.get, if_neg hjm, hm]
    simp only [Option.map_some, frzO]
    congr 2
    rw [List.map_set, List.map_set, frz_list hL, List.map_set]
    congr 1
    simp [ent, frz, frzL]
    rw [List.take_of_length_le (by simp)]
  · have := hr.keep i o hi ho
    have hii := hw _ _ ho
    rw [hF.get, if_neg (by omega), this, Option.map_some, hs j _ hjn]
/-- what is appended lies in the disk as a value -/
theorem settle {st s8 : St} {d m : Nat} {L : List PF} {q fu : Int} {off : Bool} {k : Nat} {n : ByteArray} {bs : List Int} {last : Nat} {nd : AV} {args : List AV} {f : Nat} {e : Int}
    (h : obC f args st (i64 e) s8) (hp : PD s8 d (L.set k ⟨n, nd, bs, last⟩) q fu off m) (hr : Rest st s8 [d, m]) (hw : st.wf) (hl : st.lock = []) (hL : ∀ f ∈ L, DV f) (ho : OwnB s8 nd bs) (hn : nd = .nils ∨ ∃ i o l g, nd = .sl i 1 o l g ∧ st.next ≤ i) :
    ∃ st' dv, obC f args st (i64 e) st' ∧ DV ⟨n, dv, bs, last⟩ ∧ PD st' d (L.set k ⟨n, dv, bs, last⟩) q fu off m ∧ RestF st st' [d, m] := by
  rcases ho with ⟨rfl, rfl⟩ | ⟨rfl, i, rfl, hg⟩ | ⟨hb, i, rfl, hg⟩
  · exact ⟨s8, .nils, h, .inl ⟨rfl, rfl⟩, hp, hr.f⟩
  · obtain ⟨st', a, b, c⟩ := freeze_disk h hp hr hw hl hL hg rfl rfl (by
      rcases hn with h | ⟨i', _, _, _, h, hi⟩
      · cases h
      · cases h; exact hi)
    exact ⟨st', _, a, .inr ⟨true, rfl⟩, b, c⟩
  · obtain ⟨st', a, b, c⟩ := freeze_disk h hp hr hw hl hL hg rfl rfl (by
      rcases hn with h | ⟨i', _, _, _, h, hi⟩
      · cases h
      · cases h; exact hi)
    exact ⟨st', _, a, .inr ⟨false, rfl⟩, b, c⟩
theorem append_ok {st : St} {d m : Nat} {s : PS} (hp : PDs st d m s) (hw : st.wf) (hl : st.lock = []) (hg : Good s) (hu : usedL s.L < 1000000000) (hq : 0 ≤ s.q ∧ s.q ≤ 9223372036854775807) (n : ByteArray) {x : AV} {c : List Int} (hx : ArgB st x c) (hc : c.length < 1000000000) :
    ∃ st' s', obC 24 [.ptr d 0, str n, x] st (i64 (appE s n c)) st' ∧ PDs st' d m s' ∧ RestF st st' [d, m] ∧ AppS s n c s' := by
  unfold appE AppS
  by_cases hr : rdE s.L s.off true n ≠ 0
  · rw [if_pos hr]
    obtain ⟨s1, r1, k1⟩ := rd_ok hp hw hl n true
    exact ⟨s1, s, ap_not hx r1 hr, PD.rest hp k1, (k1.weak (by simp)).f, by rw [if_pos hr]⟩
  rw [if_neg hr]
  obtain ⟨k, f, hfi, hk, hn⟩ := rd0_find hr
  obtain ⟨s1, r1, k1, p1, l1, o1⟩ := way0 hp hw hl hr
  have hoff := rd0_off hr
  have hsm : f.bytes.length ≤ usedL s.L := le_sum (List.mem_map.2 ⟨f, List.mem_of_getElem? hk, rfl⟩)
  have main : ∀ {sb : St}, Rest s1 sb [] → (∀ {s3 : St}, obC 40 [.ptr d 0] sb TT s3 → obC 24 [.ptr d 0, str n, x] st (i64 8) s3) → (∀ {v dv cl nd l : AV} {s3 s4 s5 s6 s7 s8 : St}, (obApp d m n x v dv cl nd l sb s3 s4 s5 s6 s7 s8).ok → obC 24 [.ptr d 0, str n, x] st (i64 0) s8) →
      ∃ st' s', obC 24 [.ptr d 0, str n, x] st (i64 (if burnB s.fu = true then 8 else 0)) st' ∧ PDs st' d m s' ∧ RestF st st' [d, m] ∧ (if burnB s.fu = true then s' = burnt s else ∃ k f dv, find n s.L = some k ∧ s.L[k]? = some f ∧ f.name = n ∧ DV ⟨n, dv, f.bytes ++ c, f.last⟩ ∧ s' = { burnt s with L := s.L.set k ⟨n, dv, f.bytes ++ c, f.last⟩ }) := fun {sb} rb hbT hok => by
    have pb : PD sb d s.L s.q s.fu false m := by have := PD.rest p1 rb; rw [hoff] at this; exact this
    obtain ⟨s3, b1, b2, b3⟩ := burns_ok pb rb.wf (rb.lock.trans l1) hg.fu
    have R3 : Rest st s3 [d, m] := ((k1.trans rb).weak (by simp)).trans (b3.weak (by simp))
    by_cases hb : burnB s.fu = true
    · rw [if_pos hb]
      rw [hb] at b1
      exact ⟨s3, burnt s, hbT b1, b2, R3.f, by rw [if_pos hb]⟩
    · rw [if_neg hb]
      rw [Bool.not_eq_true] at hb
      rw [hb] at b1
      have x3 : ArgB s3 x c := hx.keep fun i h => R3.bytes hp h
      obtain ⟨cl, nd, s4, s5, s6, s7, s8, u1, u2, u3, u4, u5⟩ := app_tail b2 b3.wf (b3.lock.trans (rb.lock.trans l1)) (fun f hf => (hg.dv f hf).1) x3 b1 hfi hk (by unfold big; omega)
      obtain ⟨st', dv, v1, v2, v3, v4⟩ := settle (hok u1) u2 (R3.trans u3) hw hl (fun f hf => (hg.dv f hf).1) u4 (by
        rcases u5 with h | ⟨i, o, l, g, h, hi⟩
        · exact .inl h
        · exact .inr ⟨i, o, l, g, h, Nat.le_trans R3.next hi⟩)
      refine ⟨st', { burnt s with L := s.L.set k ⟨n, dv, f.bytes ++ c, f.last⟩ }, v1, v3, v4, ?_⟩
      rw [if_neg (by rw [hb]; simp)]
      exact ⟨k, f, dv, hfi, hk, hn, v2, rfl⟩
  simp only [if_neg hr]
  by_cases hc0 : 0 < c.length
  · obtain ⟨s2, y, h1, h2, rfl⟩ := room_ok p1 k1.wf l1 hg hu hq hc0
    by_cases hroom : s.q - usedL s.L < c.length
    · simp only [if_pos (show 0 < c.length ∧ s.q - (usedL s.L : Int) < (c.length : Int) from ⟨hc0, hroom⟩)]
      exact ⟨_, s, ap_full hx hc0 r1 (h1 (gtP_T hroom)), PD.rest p1 h2, ((k1.trans h2).weak (by simp)).f, rfl⟩
    · simp only [if_neg (show ¬ (0 < c.length ∧ s.q - (usedL s.L : Int) < (c.length : Int)) from fun h => hroom h.2)]
      exact main h2 (fun h => ap_burn hx hc0 r1 (h1 (gtP_F (by omega))) h) (fun h => ap_ok hx hc0 r1 (h1 (gtP_F (by omega))) h)
  · simp only [if_neg (show ¬ (0 < c.length ∧ s.q - (usedL s.L : Int) < (c.length : Int)) from fun h => hc0 h.1)]
    exact main (Rest.refl k1.wf []) (fun h => ap_burn0 hx (by omega) r1 h) (fun h => ap_ok0 hx (by omega) r1 h)
end
section
set_option maxRecDepth 4000
open Go.RowKit Go.Maps Go.Shelf
end
section
set_option maxRecDepth 100000
def sitesK : Nat → List Nat
  | 14 => [5]
  | 12 => [8, 5000]
  | _ => []
noncomputable def cpEv (f : Nat) (args : List AV) (st : St) (o : List Or) := (evCallS Tryd.prog E0 noOv sitesK 100000 f args st o).map fun q => (q.1, q.2.1, q.2.2.2)
def zD : AObj := .row [.nilm, i64 0, i64 0, FF] 68
section
variable (d m m2 : Nat) (v : AV) (q k : Int) (st s1 s2 s3 : St)
theorem newBad : cpEv 14 [i64 q] st [TT] = some (.tup [.nilp, i64 1], st, [bo (ltN q 0) = TT]) := by kernel_rfl
theorem newOk : cpEv 14 [i64 q] st [FF] = some (.tup [.ptr (st.next + 1) 0, i64 0], (st.push (.map [] [] 0)).push (.row [.mp st.next, i64 q, i64 0, FF] 68), [bo (ltN q 0) = FF]) := by kernel_rfl
def maxN (a b : Int) : AV := match pureVal (Builtin.max_ #[] 0 #[.int .i64 a, .int .i64 b]) with | some x => x | none => .undef
theorem fuRun : cpEv 12 [.ptr d 0, i64 q] st [i64 k, .eff .undef (fun _ => s1)] = some (.tup [], s1, [maxN q 0 = i64 k, storeA E0 st 3 (.ptr d 2) (i64 k) = some s1]) := by kernel_rfl
end
theorem maxN_eq (a : Int) : maxN a 0 = i64 (if a < 0 then 0 else a) := rfl
theorem cp_run {f : Nat} {args : List AV} {a : AV} {st st' : St} {o : List Or} {ob : Ob} (h : cpEv f args st o = some (a, st', ob)) (hob : ob.ok) : obC f args st a st' := by
  obtain ⟨⟨a1, s1, x1, o1⟩, h1, h2⟩ := Option.map_eq_some_iff.1 h
  simp only [Prod.mk.injEq] at h2
  obtain ⟨rfl, rfl, rfl⟩ := h2
  exact ACalls.run hE (ov := noOv) noOv_ok h1 hob
theorem new_ok {st : St} (hw : st.wf) (q : Int) : (q < 0 → obC 14 [i64 q] st (.tup [.nilp, i64 1]) st) ∧ (0 ≤ q → ∃ st', obC 14 [i64 q] st (.tup [.ptr (st.next + 1) 0, i64 0]) st' ∧ PDs st' (st.next + 1) st.next ⟨[], q, 0, false⟩ ∧ Rest st st' []) := by
  refine ⟨fun h => cp_run (newBad q st) (by simp only [Ob.ok_cons, Ob.ok_nil, and_true]; exact lt_T h), fun h => ⟨_, cp_run (newOk q st) (by simp only [Ob.ok_cons, Ob.ok_nil, and_true]; exact lt_F h), ⟨by rw [St.get_push, if_pos (by simp)]; rfl, [], 0, ?_⟩, (Rest.push hw _ _).trans (Rest.push (push_wf hw _) _ _)⟩⟩
  rw [St.get_push, if_neg (by simp), St.get_push, if_pos rfl]
  rfl
def nn (a : Int) : Int := if a < 0 then 0 else a
theorem storeQ {st : St} {d : Nat} {a b c e : AV} {ty : Nat} (hg : st.get d = some (.row [a, b, c, e] ty)) (hl : st.lock = []) (x : Int) : storeA E0 st 3 (.ptr d 1) (i64 x) = some (st.set d (.row [a, i64 x, c, e] ty)) := by
  have hwg := St.wget_of hg (show d ∉ st.lock by rw [hl]; simp)
  simp [storeA, avCells, oneA, size3, hwg]
theorem fuse_ok {st : St} {d m : Nat} {s : PS} (hp : PDs st d m s) (hw : st.wf) (hl : st.lock = []) (k : Int) : ∃ st', obC 12 [.ptr d 0, i64 k] st (.tup []) st' ∧ PDs st' d m { s with fu := nn k } ∧ Rest st st' [d, m] := by
  obtain ⟨bs, c, hm⟩ := hp.map
  have hs := storeN hp.row hl (nn k)
  refine ⟨_, cp_run (fuRun d k (nn k) st (st.set d (.row [.mp m, i64 s.q, i64 (nn k), bo s.off] 68))) (by simp only [Ob.ok_cons, Ob.ok_nil, and_true]; exact ⟨maxN_eq k, hs⟩), ⟨by rw [St.get_set, if_pos rfl], bs, c, ?_⟩, Rest.set hw (hw _ _ hp.row) _ (by simp)⟩
  rw [St.get_set, if_neg (PD.ne hp).symm]; exact hm
theorem off_ok {st : St} {d m : Nat} {s : PS} (hp : PDs st d m s) : obC 16 [.ptr d 0] st (bo s.off) st :=
  bp_run (offEv d st s.off) (by simp only [Ob.ok_cons, Ob.ok_nil, and_true]; exact ⟨load_row hp.row (p4 rfl), rfl⟩)
theorem size103 : tySize E0 68 = some 4 := by kernel_rfl
theorem size101 : tySize E0 66 = some 1 := by kernel_rfl
theorem p103 {a b c e : AV} : partA E0 68 [a, b, c, e] 0 = some (.agg [a, b, c, e]) := by
  simp only [partA, ty103]
  rfl
end
section
set_option maxRecDepth 4000
/-- what ready answers to two names -/
def rd2E (L : List PF) (off : Bool) (n n2 : ByteArray) : Int :=
  if off = true then 8 else if ¬ mayS n then 1 else if ¬ mayS n2 then 1 else if find n L = none then 6 else 0
theorem ready2_ok {st : St} {d m : Nat} {L : List PF} {q fu : Int} {off : Bool} (hp : PD st d L q fu off m) (hw : st.wf) {i : Nat} {fl : Bool} {n n2 : ByteArray} {ty : Nat} (hi : st.get i = some (.row [str n, str n2] ty)) (hl : st.lock = []) :
    ∃ k, obC 31 [.ptr d 0, TT, .sl i 1 0 2 fl] st (i64 (rd2E L off n n2)) (bump st k) := by
  obtain ⟨bs, clock, hm⟩ := hp.map
  have o1 : obL st 66 (.ptr d 0) (.mp m) := ⟨load_row hp.row (p101 rfl), rfl⟩
  have b0 : bump st 0 = st := rfl
  cases off with
  | true =>
    refine ⟨0, ?_⟩
    rw [b0]
    have e : rd2E L true n n2 = 8 := by unfold rd2E; rw [if_pos rfl]
    rw [e]
    refine dk_run (rdOff d m st true _) ?_
    simp only [Ob.ok_cons, Ob.ok_nil, and_true]
    exact ⟨o1, load_row hp.row (p4 rfl), rfl⟩
  | false =>
    have o2 : obL st 4 (.ptr d 3) FF := ⟨load_row hp.row (p4 rfl), rfl⟩
    have o3 : obL st 9 (.ptr i 0) (str n) := ⟨load_row hi (p9 rfl), rfl⟩
    have o5 : obL st 9 (.ptr i 1) (str n2) := ⟨load_row hi (p9 rfl), rfl⟩
    have o4 := may_ok n st
    have o6 := may_ok n2 st
    by_cases hmay : mayS n
    · rw [decide_eq_true hmay] at o4
      by_cases hmay2 : mayS n2
      · rw [decide_eq_true hmay2] at o6
        have e : rd2E L false n n2 = if find n L = none then 6 else 0 := by unfold rd2E; rw [if_neg (by simp), if_neg (fun h => h hmay), if_neg (fun h => h hmay2)]
        rw [e]
        refine ⟨1, ?_⟩
        have hob : ∀ {o : Ob}, o.ok → Ob.ok ([obL st 66 (.ptr d 0) (.mp m), obL st 4 (.ptr d 3) FF, obL st 9 (.ptr i 0) (str n), obC 51 [str n] st TT st, obL st 9 (.ptr i 1) (str n2), obC 51 [str n2] st TT st] ++ o) := fun h => by
          rw [Ob.ok_append]
          simp only [Ob.ok_cons, Ob.ok_nil, and_true]
          exact ⟨⟨o1, o2, o3, o4, o5, o6⟩, h⟩
        cases hf : find n L with
        | none =>
          obtain ⟨f1, f2, k1, k2, k3, k4, k5⟩ := rd_end (x := .nils) (y := i64 0) hp.row hm hw hi hl (lookup_miss hm hf true)
          exact forget_bump (bp_run (rd2Miss d m i st.next n n2 (.agg [.nils, i64 0]) st fl f1 f2) (hob k1)) k2 k3 k4 k5
        | some k =>
          obtain ⟨f, hk, hn⟩ := find_some hf
          obtain ⟨f1, f2, k1, k2, k3, k4, k5⟩ := rd_end (x := f.dv) (y := i64 f.last) hp.row hm hw hi hl (lookup_hit hm hf hk true)
          exact forget_bump (bp_run (rd2Hit d m i st.next n n2 (.agg [f.dv, i64 f.last]) st fl f1 f2) (hob k1)) k2 k3 k4 k5
      · rw [decide_eq_false hmay2] at o6
        refine ⟨0, ?_⟩
        rw [b0]
        have e : rd2E L false n n2 = 1 := by unfold rd2E; rw [if_neg (by simp), if_neg (fun h => h hmay), if_pos hmay2]
        rw [e]
        refine bp_run (rd2Bad2 d m i n n2 st fl) ?_
        simp only [Ob.ok_cons, Ob.ok_nil, and_true]
        exact ⟨o1, o2, o3, o4, o5, o6⟩
    · rw [decide_eq_false hmay] at o4
      refine ⟨0, ?_⟩
      rw [b0]
      have e : rd2E L false n n2 = 1 := by unfold rd2E; rw [if_neg (by simp), if_pos hmay]
      rw [e]
      refine bp_run (rd2Bad d m i n st fl) ?_
      simp only [Ob.ok_cons, Ob.ok_nil, and_true]
      exact ⟨o1, o2, o3, o4⟩
def pRename (s : PS) (n n2 : ByteArray) : Int × PS :=
  if rd2E s.L s.off n n2 ≠ 0 then (rd2E s.L s.off n n2, s) else
  if burnB s.fu = true then (8, burnt s) else
  match find n s.L with
  | some k => match s.L[k]? with
    | some f => (0, { burnt s with L := putL (s.L.eraseIdx k) { f with name := n2 } })
    | none => (0, burnt s)
  | none => (0, burnt s)
theorem rd2_0 {L : List PF} {off : Bool} {n n2 : ByteArray} (h : ¬ rd2E L off n n2 ≠ 0) : off = false ∧ ∃ k f, find n L = some k ∧ L[k]? = some f ∧ f.name = n := by
  have hoff : off = false := by
    cases off with
    | false => rfl
    | true => exact absurd (show rd2E L true n n2 ≠ 0 by unfold rd2E; rw [if_pos rfl]; decide) h
  refine ⟨hoff, ?_⟩
  cases hf : find n L with
  | some k =>
    obtain ⟨f, h1, h2⟩ := find_some hf
    exact ⟨k, f, rfl, h1, h2⟩
  | none =>
    refine absurd ?_ h
    unfold rd2E
    rw [hf]
    split
    · decide
    · split
      · decide
      · split
        · decide
        · simp
end
section
set_option maxRecDepth 100000
/-- a file of the document's disk -/
structure RF where
  name : ByteArray
  lv : AV
  ov : AV
  lb : List Int
  ob : List Int
def cells : List RF → List AV
  | [] => []
  | f :: r => str f.name :: f.lv :: f.ov :: cells r
def ltS (a b : ByteArray) : Bool := boolI (binOp .lss 9 (.string a) (.string b))
def eqS (a b : ByteArray) : Bool := boolI (binOp .eql 9 (.string a) (.string b))
section
variable (d f len i j : Nat) (fl b : Bool) (n nm : ByteArray) (st : St)
abbrev atT (d : Nat) (n : ByteArray) (i : Nat) : List (Nat × AV) := [(0, .ptr d 0), (1, str n), (6, i64 i)]
def ltP (a b : Nat) (v : AV) : Prop := binA E0 .lss 3 (i64 a) (i64 b) = some v
def eqP (a b : ByteArray) (v : AV) : Prop := binA E0 .eql 9 (str a) (str b) = some v
end
end
section
set_option maxRecDepth 4000
theorem cells_at : ∀ (F : List RF) (i : Nat) (f : RF), F[i]? = some f → (cells F)[i * 3]? = some (str f.name) ∧ (cells F)[i * 3 + 1]? = some f.lv ∧ (cells F)[i * 3 + 2]? = some f.ov
  | [], i, f, h => by cases h
  | g :: r, 0, f, h => by
    obtain rfl : g = f := by simpa using h
    exact ⟨rfl, rfl, rfl⟩
  | g :: r, i + 1, f, h => by
    have := cells_at r i f (by simpa using h)
    have e : (i + 1) * 3 = i * 3 + 3 := by omega
    rw [e]
    exact this
theorem cells_length : ∀ F : List RF, (cells F).length = F.length * 3
  | [] => rfl
  | _ :: r => by simp only [cells, List.length_cons, cells_length r]; omega
/-- the files' slice -/
def FV (st : St) (fv : AV) (F : List RF) : Prop := (F = [] ∧ fv = .nils) ∨ (F ≠ [] ∧ ∃ f fl, fv = .sl f 3 0 F.length fl ∧ st.get f = some (.row (cells F) 171))
structure RS where
  F : List RF
  q : Int
  fu : Int
  off : Bool
/-- the document's disk -/
structure RD (st : St) (d : Nat) (fv : AV) (s : RS) : Prop where
  row : st.get d = some (.row [fv, i64 s.q, i64 s.fu, bo s.off] 76)
  fv : FV st fv s.F
def pos : ByteArray → List RF → Nat
  | _, [] => 0
  | n, f :: r => if ltS f.name n then pos n r + 1 else 0
def hit (n : ByteArray) (F : List RF) : Bool := match F[pos n F]? with
  | some f => eqS f.name n
  | none => false
theorem pos_le : ∀ (n : ByteArray) (F : List RF), pos n F ≤ F.length
  | _, [] => Nat.le_refl _
  | n, f :: r => by
    unfold pos
    have := pos_le n r
    split <;> simp <;> omega
theorem ty113 : E0.ty 74 = some ⟨.slice 171, 1, 24, some (.slice none 0 0)⟩ := by kernel_rfl
theorem size121 : tySize E0 171 = some 3 := by kernel_rfl
theorem p113 {vs : List AV} {off : Nat} {a : AV} (h : vs[off]? = some a) : partA E0 74 vs off = some a := plainT ty113 rfl h
theorem iA113 {f len : Nat} {fl : Bool} {i : Nat} (hi : i < len) : indexAddrA E0 74 (.sl f 3 0 len fl) (i64 i) = some (.ptr f (i * 3)) := by
  simp only [indexAddrA, ty113, size121]
  rw [if_pos (by refine ⟨trivial, ?_, ?_⟩ <;> omega), Nat.zero_add]; rfl
theorem RD.load {st : St} {d : Nat} {fv : AV} {s : RS} (h : RD st d fv s) : loadA E0 st 74 (.ptr d 0) = some fv := load_row h.row (p113 rfl)
theorem FV.of {st : St} {fv : AV} {F : List RF} (h : FV st fv F) {i : Nat} {f : RF} (hf : F[i]? = some f) : ∃ r fl, fv = .sl r 3 0 F.length fl ∧ st.get r = some (.row (cells F) 171) := by
  rcases h with ⟨rfl, _⟩ | ⟨_, r, fl, h1, h2⟩
  · cases hf
  · exact ⟨r, fl, h1, h2⟩
theorem ltP_T {a b : Nat} (h : a < b) : ltP a b TT := by
  have : ltP a b TT = (some (bo (ltN a b)) = some TT) := rfl
  rw [this]; exact congrArg some (lt_T (by omega))
theorem ltP_F {a b : Nat} (h : b ≤ a) : ltP a b FF := by
  have : ltP a b FF = (some (bo (ltN a b)) = some FF) := rfl
  rw [this]; exact congrArg some (lt_F (by omega))
theorem eqP_ok (a b : ByteArray) : eqP a b (bo (eqS a b)) := rfl
def GA (T : Tm) : List AV := [T.get 0, T.get 1, T.get 4, T.get 5, T.get 6]
theorem drop_at {F : List RF} {i : Nat} {f : RF} (h : F[i]? = some f) : F.drop i = f :: F.drop (i + 1) := by
  obtain ⟨h1, h2⟩ := List.getElem?_eq_some_iff.1 h
  rw [← h2]; exact List.drop_eq_getElem_cons h1
end
section
set_option maxRecDepth 100000
def sitesR : Nat → List Nat
  | 15 => [5]
  | _ => []
noncomputable def rfEv (f : Nat) (args : List AV) (st : St) (o : List Or) := (evCallS Tryd.prog E0 noOv sitesR 100000 f args st o).map fun q => (q.1, q.2.1, q.2.2.2)
section
variable (d f len i j p : Nat) (fl b : Bool) (n nm : ByteArray) (q fu fu2 : Int) (F v w a c o1 o2 o3 c2 bs lv ov : AV) (st s1 s2 s3 s4 s5 s6 : St)
theorem rnewBad : rfEv 15 [i64 q] st [TT] = some (.tup [.nilp, i64 1], st, [bo (ltN q 0) = TT]) := by kernel_rfl
theorem rnewOk : rfEv 15 [i64 q] st [FF] = some (.tup [.ptr st.next 0, i64 0], st.push (.row [.nils, i64 q, i64 0, FF] 76), [bo (ltN q 0) = FF]) := by kernel_rfl
abbrev usT (d : Nat) (u : Int) (i : Nat) : List (Nat × AV) := [(0, .ptr d 0), (3, i64 u), (4, i64 i)]
def addP (a b : Int) (v : AV) : Prop := binA E0 .add 3 (i64 a) (i64 b) = some v
def usO (d f len i j : Nat) (fl : Bool) (lv ov : AV) (x y : Int) (q z u : Int) (k : Nat) (st : St) : Ob :=
  [obL st 74 (.ptr d 0) (.sl f 3 0 len fl), bo (ltN i len) = TT, ∀ k ∈ [d, f, d, f], k < st.next, [d, f, d, f].contains d = true ∧ loadA E0 st 74 (.ptr d 0) = some (.sl f 3 0 len fl), indexAddrA E0 74 (.sl f 3 0 len fl) (i64 i) = some (.ptr f j), [d, f, d, f].contains f = true ∧ loadA E0 st 33 (.ptr f (j + 1)) = some lv, [d, f, d, f].contains d = true ∧ loadA E0 st 74 (.ptr d 0) = some (.sl f 3 0 len fl), indexAddrA E0 74 (.sl f 3 0 len fl) (i64 i) = some (.ptr f j), [d, f, d, f].contains f = true ∧ loadA E0 st 33 (.ptr f (j + 2)) = some ov, addP x y (i64 z), addP q z (i64 u), i64 (addN i 1) = i64 k]
section
variable (x y k : Nat) (g1 g2 : Bool) (z u : Int) (c1 c2 : List AV)
def usX (F lv ov pf : AV) (z u : Int) (k : Nat) : List Or := [.eff F id, TT, .eff F id, .eff pf id, .eff lv id, .eff F id, .eff pf id, .eff ov id, .eff (i64 z) id, .eff (i64 u) id, i64 k]
end
abbrev cuT (d k : Nat) (o : AV) (i : Nat) : List (Nat × AV) := [(0, .ptr d 0), (1, i64 k), (4, o), (5, i64 i)]
variable (k : Nat)
end
end
section
set_option maxRecDepth 4000
theorem rf_run {f : Nat} {args : List AV} {a : AV} {st st' : St} {o : List Or} {ob : Ob} (h : rfEv f args st o = some (a, st', ob)) (hob : ob.ok) : obC f args st a st' := by
  obtain ⟨⟨a1, s1, x1, o1⟩, h1, h2⟩ := Option.map_eq_some_iff.1 h
  simp only [Prod.mk.injEq] at h2
  obtain ⟨rfl, rfl, rfl⟩ := h2
  exact ACalls.run hE (ov := noOv) noOv_ok h1 hob
/-- the slice's objects -/
def fid : AV → List Nat
  | .sl f _ _ _ _ => [f]
  | _ => []
theorem FV.keep {st st' : St} {fv : AV} {F : List RF} (h : FV st fv F) (hk : ∀ i ∈ fid fv, ∀ o, st.get i = some o → st'.get i = some o) : FV st' fv F := by
  rcases h with h | ⟨h, f, fl, rfl, hg⟩
  · exact .inl h
  · exact .inr ⟨h, f, fl, rfl, hk f (by simp [fid]) _ hg⟩
theorem RD.rest {st st' : St} {d : Nat} {fv : AV} {s : RS} (h : RD st d fv s) {S : List Nat} (hr : Rest st st' S) (h1 : d ∉ S) (h2 : ∀ i ∈ fid fv, i ∉ S) : RD st' d fv s :=
  ⟨hr.keep _ _ h1 h.row, h.fv.keep fun i hi _ ho => hr.keep _ _ (h2 i hi) ho⟩
theorem row_ne {st : St} {a b : Nat} {v w : List AV} {t u : Nat} (h1 : st.get a = some (.row v t)) (h2 : st.get b = some (.row w u)) (h : t ≠ u) : a ≠ b := fun e => by
  rw [e, h2] at h1
  simp only [Option.some.injEq, AObj.row.injEq] at h1
  exact h h1.2.symm
theorem RD.ne {st : St} {d : Nat} {fv : AV} {s : RS} (h : RD st d fv s) : ∀ i ∈ fid fv, i ≠ d := fun i hi => by
  rcases h.fv with ⟨_, h⟩ | ⟨_, f, fl, e, hg⟩
  · rw [h] at hi; cases hi
  · rw [e] at hi
    obtain rfl := List.mem_singleton.1 hi
    exact row_ne hg h.row (by decide)
/-- the disk's row is written -/
theorem RD.set {st : St} {d : Nat} {fv : AV} {s s' : RS} (h : RD st d fv s) (hF : s'.F = s.F) : RD (st.set d (.row [fv, i64 s'.q, i64 s'.fu, bo s'.off] 76)) d fv s' :=
  ⟨by rw [St.get_set, if_pos rfl], by rw [hF]; exact h.fv.keep fun i hi o ho => by rw [St.get_set, if_neg (h.ne i hi)]; exact ho⟩
def rBurnt (s : RS) : RS := { s with fu := burnN s.fu, off := burnB s.fu }
/-- what there answers -/
def thE (s : RS) (n : ByteArray) : Int := if s.off = true then 8 else if ¬ mayS n then 1 else if hit n s.F = false then 6 else 0
theorem rnew_ok {st : St} (hw : st.wf) (q : Int) : (q < 0 → obC 15 [i64 q] st (.tup [.nilp, i64 1]) st) ∧ (0 ≤ q → ∃ st', obC 15 [i64 q] st (.tup [.ptr st.next 0, i64 0]) st' ∧ RD st' st.next .nils ⟨[], q, 0, false⟩ ∧ Rest st st' []) :=
  ⟨fun h => rf_run (rnewBad q st) (by simp only [Ob.ok_cons, Ob.ok_nil, and_true]; exact lt_T h), fun h => ⟨_, rf_run (rnewOk q st) (by simp only [Ob.ok_cons, Ob.ok_nil, and_true]; exact lt_F h), ⟨by rw [St.get_push, if_pos rfl]; rfl, .inl ⟨rfl, rfl⟩⟩, Rest.push hw _ _⟩⟩
end
section
set_option maxRecDepth 4000
/-- a slice that is bytes, or nil -/
def BV (v : AV) (bs : List Int) : Prop := (bs = [] ∧ v = .nils) ∨ ∃ fl, v = .imm 1 bs.length fl (bs.map u8)
theorem BV.cells {v : AV} {bs : List Int} (h : BV v bs) (st : St) : sliceCells st v = some (bs.length, bs.map u8) := by
  rcases h with ⟨h1, h2⟩ | ⟨fl, h2⟩
  · rw [h2, h1]; rfl
  · rw [h2]; rfl
def RGood (F : List RF) : Prop := ∀ f ∈ F, BV f.lv f.lb ∧ BV f.ov f.ob
def usedR (F : List RF) : Nat := (F.map fun f => f.lb.length + f.ob.length).sum
theorem addP_ok {a b : Int} (h : 0 ≤ a + b ∧ a + b ≤ 9223372036854775807) : addP a b (i64 (a + b)) := by
  have : addP a b (i64 (a + b)) = (some (i64 (addN a b)) = some (i64 (a + b))) := rfl
  rw [this, addN_eq _ _ h]
theorem usedR_take {F : List RF} {i : Nat} {f : RF} (h : F[i]? = some f) : usedR (F.take (i + 1)) = usedR (F.take i) + (f.lb.length + f.ob.length) := by
  obtain ⟨h1, h2⟩ := List.getElem?_eq_some_iff.1 h
  unfold usedR
  rw [List.take_add_one, h]
  simp
theorem usedR_le {F : List RF} (i : Nat) : usedR (F.take i) ≤ usedR F := by
  have : usedR F = usedR (F.take i) + usedR (F.drop i) := by
    unfold usedR
    conv => lhs; rw [← List.take_append_drop i F]
    rw [List.map_append, List.sum_append]
  omega
def GU (T : Tm) : List AV := [T.get 0, T.get 2, T.get 3, T.get 4]
theorem p28' {vs : List AV} {off : Nat} {a : AV} (h : vs[off]? = some a) : partA E0 33 vs off = some a := plainT ty28 rfl h
end
section
set_option maxRecDepth 4000
theorem cells_append : ∀ (F G : List RF), cells (F ++ G) = cells F ++ cells G
  | [], G => rfl
  | f :: r, G => by simp only [List.cons_append, cells, cells_append r G]
theorem cells_take : ∀ (F : List RF) (i : Nat), (cells F).take (i * 3) = cells (F.take i)
  | [], i => by simp [cells]
  | f :: r, 0 => rfl
  | f :: r, i + 1 => by
    have e : (i + 1) * 3 = i * 3 + 1 + 1 + 1 := by omega
    rw [e]
    simp only [cells, List.take_succ_cons, cells_take r i]
theorem cells_drop : ∀ (F : List RF) (i : Nat), (cells F).drop (i * 3) = cells (F.drop i)
  | [], i => by simp [cells]
  | f :: r, 0 => rfl
  | f :: r, i + 1 => by
    have e : (i + 1) * 3 = i * 3 + 1 + 1 + 1 := by omega
    rw [e]
    simp only [cells, List.drop_succ_cons, cells_drop r i]
theorem cells_ne {F : List RF} (h : F ≠ []) : 0 < F.length := List.length_pos_iff.2 h
theorem str113 : isStrTy E0 74 = false := by kernel_rfl
theorem src113 {st : St} {x : AV} : srcA E0 st 74 x = sliceCells st x := by simp only [srcA, ty113]
/-- files in a slice of one's own -/
def OwnF (st : St) (v : AV) (F : List RF) : Prop := (F = [] ∧ v = .nils) ∨ (F ≠ [] ∧ ∃ i, v = .sl i 3 0 F.length false ∧ st.get i = some (.row (cells F) 171))
theorem OwnF.fv {st : St} {v : AV} {F : List RF} (h : OwnF st v F) : FV st v F := by
  rcases h with h | ⟨h, i, h2⟩
  · exact .inl h
  · exact .inr ⟨h, i, false, h2⟩
theorem OwnF.cell {st : St} {v : AV} {F : List RF} (h : OwnF st v F) : avCells v = some [v] := by
  rcases h with ⟨_, rfl⟩ | ⟨_, i, rfl, _⟩ <;> rfl
theorem FV.cell {st : St} {v : AV} {F : List RF} (h : FV st v F) : avCells v = some [v] := by
  rcases h with ⟨_, rfl⟩ | ⟨_, i, fl, rfl, _⟩ <;> rfl
theorem Rest.old {a b c : St} {S : List Nat} (h : Rest a b []) (k : Rest b c S) (hS : ∀ i ∈ S, a.next ≤ i) (hw : a.wf) : Rest a c [] :=
  ⟨fun i o _ ho => k.keep i o (fun hi => by have := hS i hi; have := hw _ _ ho; omega) (h.keep i o (by simp) ho), Nat.le_trans h.next k.next, k.lock.trans h.lock, k.gl.trans h.gl, k.wf⟩
theorem natLe_ok {i len : Nat} (h : i ≤ len) : natLe (i64 i) len = some i := by
  show (if 0 ≤ (i : Int) ∧ (i : Int) ≤ len then some (i : Int).toNat else none) = some i
  rw [if_pos ⟨by omega, by omega⟩]; rfl
theorem boundsA_hi (len i : Nat) (h : i ≤ len) : boundsA len len none (some (i64 i)) none = some (0, i, len) := by
  delta boundsA
  simp only [natLe_ok h]
theorem boundsA_lo (len i : Nat) (h : i ≤ len) : boundsA len len (some (i64 i)) none none = some (i, len, len) := by
  delta boundsA
  simp only [natLe_ok h]
theorem sl_hi {st : St} {fv : AV} {F : List RF} (h : FV st fv F) {i : Nat} (hi : i ≤ F.length) : ∃ c, sliceA E0 st 74 fv none (some (i64 i)) none = some c ∧ sliceCells st c = some ((F.take i).length, cells (F.take i)) := by
  rcases h with ⟨rfl, rfl⟩ | ⟨hF, f, fl, rfl, hg⟩
  · have : i = 0 := by simpa using hi
    subst this
    exact ⟨.nils, by kernel_rfl, rfl⟩
  · simp only [sliceA, ty113, size121, if_true, boundsA_hi _ _ hi]
    by_cases h0 : i = 0
    · subst h0
      exact ⟨.imm 3 0 false [], rfl, rfl⟩
    · rw [if_neg h0]
      refine ⟨_, rfl, ?_⟩
      simp only [sliceCells, hg]
      rw [if_pos (by rw [cells_length]; omega)]
      simp only [Nat.zero_mul, Nat.add_zero, Nat.sub_zero, List.drop_zero, cells_take, List.length_take]
      rw [Nat.min_eq_left hi]
theorem sl_lo {st : St} {fv : AV} {F : List RF} (h : FV st fv F) {i : Nat} (hi : i ≤ F.length) : ∃ c, sliceA E0 st 74 fv (some (i64 i)) none none = some c ∧ sliceCells st c = some ((F.drop i).length, cells (F.drop i)) := by
  rcases h with ⟨rfl, rfl⟩ | ⟨hF, f, fl, rfl, hg⟩
  · have : i = 0 := by simpa using hi
    subst this
    exact ⟨.nils, by kernel_rfl, rfl⟩
  · simp only [sliceA, ty113, size121, if_true, boundsA_lo _ _ hi]
    by_cases h0 : F.length = i
    · subst h0
      rw [if_pos rfl]
      exact ⟨.imm 3 0 false [], rfl, by simp [sliceCells, cells]⟩
    · rw [if_neg h0]
      refine ⟨_, rfl, ?_⟩
      simp only [sliceCells, hg]
      rw [if_pos (by rw [cells_length]; omega)]
      simp only [Nat.zero_add, cells_drop, List.length_drop]
      rw [List.take_of_length_le (by rw [cells_length, List.length_drop]; omega)]
theorem bs113 (st : St) (x y z : AV) : buildSliceA E0 st 74 1 [(0, .agg [x, y, z])] = some (.sl st.next 3 0 1 true, st.push (.row [x, y, z] 171)) := by kernel_rfl
theorem p121 {x y z : AV} : partA E0 171 [x, y, z] 0 = some (.agg [x, y, z]) := by
  have h : (E0.ty 171).map (fun i => (isAggD i.desc, i.size)) = some (true, 3) := by kernel_rfl
  obtain ⟨i, h1, h2⟩ := Option.map_eq_some_iff.1 h
  simp only [Prod.mk.injEq] at h2
  simp only [partA, h1, h2.1, h2.2]
  rfl
/-- a file, written over another -/
theorem cells_set {F : List RF} {i : Nat} {f : RF} (hi : i < F.length) : (cells F).take (i * 3) ++ [str f.name, f.lv, f.ov] ++ (cells F).drop (i * 3 + 3) = cells (F.set i f) := by
  have e : i * 3 + 3 = (i + 1) * 3 := by omega
  rw [e, cells_take, cells_drop, List.set_eq_take_append_cons_drop, if_pos hi, cells_append]
  simp [cells]
theorem store121 {st : St} {r i : Nat} {F : List RF} (hg : st.get r = some (.row (cells F) 171)) (hl : st.lock = []) (hi : i < F.length) (f : RF) : storeA E0 st 171 (.ptr r (i * 3)) (.agg [str f.name, f.lv, f.ov]) = some (st.set r (.row (cells (F.set i f)) 171)) := by
  have hwg := St.wget_of hg (show r ∉ st.lock by rw [hl]; simp)
  simp only [storeA, avCells, hwg, size121, List.length_cons, List.length_nil]
  rw [if_pos ⟨trivial, by rw [cells_length]; omega⟩, ← cells_set hi]
theorem size113 : tySize E0 74 = some 1 := by kernel_rfl
theorem store113 {st : St} {d : Nat} {a b c e v : AV} {ty : Nat} (hg : st.get d = some (.row [a, b, c, e] ty)) (hl : st.lock = []) (hv : avCells v = some [v]) : storeA E0 st 74 (.ptr d 0) v = some (st.set d (.row [v, b, c, e] ty)) := by
  have hwg := St.wget_of hg (show d ∉ st.lock by rw [hl]; simp)
  simp [storeA, hv, size113, hwg]
end
section
set_option maxRecDepth 4000
theorem d121 : ∃ i, E0.ty 171 = some i ∧ isAggD i.desc = true ∧ i.size = 3 := by
  have h : (E0.ty 171).map (fun i => (isAggD i.desc, i.size)) = some (true, 3) := by kernel_rfl
  obtain ⟨i, h1, h2⟩ := Option.map_eq_some_iff.1 h
  simp only [Prod.mk.injEq] at h2
  exact ⟨i, h1, h2.1, h2.2⟩
def agg (f : RF) : AV := .agg [str f.name, f.lv, f.ov]
theorem p121' {F : List RF} {i : Nat} {f : RF} (hf : F[i]? = some f) : partA E0 171 (cells F) (i * 3) = some (agg f) := by
  obtain ⟨t, h1, h2, h3⟩ := d121
  have hi := (List.getElem?_eq_some_iff.1 hf).1
  simp only [partA, h1, h2, h3, if_true]
  rw [if_pos (by rw [cells_length]; omega), cells_drop, drop_at hf]
  rfl
def putF (F : List RF) (f : RF) : List RF := if hit f.name F = true then F.set (pos f.name F) f else F.take (pos f.name F) ++ f :: F.drop (pos f.name F)
theorem hit_lt {n : ByteArray} {F : List RF} (h : hit n F = true) : pos n F < F.length := by
  unfold hit at h
  split at h
  · rename_i f hf; exact (List.getElem?_eq_some_iff.1 hf).1
  · cases h
theorem one_cells (st : St) (f : RF) : sliceCells (st.push (.row [str f.name, f.lv, f.ov] 171)) (.sl st.next 3 0 1 true) = some ([f].length, cells [f]) := by
  simp only [sliceCells, St.get_push, if_true]
  rfl
end
section
set_option maxRecDepth 4000
def GC (T : Tm) : List AV := [T.get 0, T.get 1, T.get 4, T.get 5]
theorem er_take {F : List RF} {i : Nat} {f : RF} (h : F[i]? = some f) (k : Nat) : (F.take (i + 1)).eraseIdx k = if i = k then (F.take i).eraseIdx k else if i < k then (F.take i).eraseIdx k ++ [f] else (F.take i).eraseIdx k ++ [f] := by
  have hi := (List.getElem?_eq_some_iff.1 h).1
  rw [List.take_add_one, h]
  simp only [Option.toList_some]
  have hl : (F.take i).length = i := by simp; omega
  rcases Nat.lt_trichotomy i k with h1 | h1 | h1
  · rw [if_neg (by omega), if_pos h1, List.eraseIdx_of_length_le (by simp; omega), List.eraseIdx_of_length_le (by omega)]
  · rw [if_pos h1, List.eraseIdx_append_of_length_le (by omega), hl, ← h1, Nat.sub_self]
    rw [List.eraseIdx_of_length_le (l := F.take i) (by omega)]
    simp
  · rw [if_neg (by omega), if_neg (by omega), List.eraseIdx_append_of_lt_length (by omega)]
/-- what the loop makes, turn by turn -/
noncomputable def cuS (st : St) (F : List RF) (k : Nat) : Nat → AV × St
  | 0 => (.nils, st)
  | i + 1 => match F[i]? with
    | some g => if i = k then cuS st F k i else (appendA E0 ((cuS st F k i).2.push (.row [str g.name, g.lv, g.ov] 171)) 74 74 (cuS st F k i).1 (.sl (cuS st F k i).2.next 3 0 1 true)).getD (cuS st F k i)
    | none => cuS st F k i
/-- a slice of files that the store has anew -/
theorem OwnF.set {st : St} {d : Nat} {v : AV} {F : List RF} (h : OwnF st v F) {vs : List AV} (hd : st.get d = some (.row vs 76)) (o : AObj) : FV (st.set d o) v F := by
  refine h.fv.keep fun j hj p hp => ?_
  rw [St.get_set, if_neg fun e => ?_]
  · exact hp
  · rcases h with ⟨_, rfl⟩ | ⟨_, r, rfl, hg⟩
    · cases hj
    · simp only [fid, List.mem_singleton] at hj
      exact row_ne hg hd (by decide) (hj.symm.trans e)
end
section
set_option maxRecDepth 100000
def sitesQ : Nat → List Nat
  | _ => []
noncomputable def rqEv (f : Nat) (args : List AV) (st : St) (o : List Or) := (evCallS Tryd.prog E0 noOv sitesQ 100000 f args st o).map fun q => (q.1, q.2.1, q.2.2.2)
section
variable (d f len i j : Nat) (fl : Bool) (n n2 : ByteArray) (e q u y : Int) (v a x o1 o2 lv ov : AV) (st s1 s2 s3 s4 s5 s6 : St)
def zR (st : St) : St := st.push (.row [.val (.string ⟨#[]⟩), .nils, .nils] 171)
def shw (I : List Nat) (st s2 s3 : St) : St := s3.show (s2.show st I) I
def gtQ (a b : Int) (v : AV) : Prop := binA E0 .gtr 3 (i64 a) (i64 b) = some v
def obNoR (len : Nat) (st : St) : Ob := [∀ k ∈ ([] : List Nat), k < st.next, gtQ len 0 FF]
def tlX (F pf ov o1 o2 : AV) (s3 s4 s5 s6 : St) : List Or := [.eff FF (fun _ => s3), .eff F id, .eff F id, .eff pf id, .eff ov id, .eff o1 (fun _ => s4), .eff o2 (fun _ => s5), .eff pf id, .eff .undef (fun _ => s6)]
section
variable (c : List AV) (g : Bool) (k : Nat)
end
end
end
section
set_option maxRecDepth 4000
theorem show_rest {st s' : St} {I S : List Nat} (h : Rest (st.hide I) s' S) (hI : ∀ i ∈ I, i ∉ S) : Rest st (s'.show st I) S ∧ ∀ k, (s'.show st I).get k = s'.get k := by
  have hg : ∀ k, (s'.show st I).get k = s'.get k := fun k => by
    rw [St.show_get]
    split
    · rename_i hk
      obtain ⟨o, ho⟩ := Option.isSome_iff_exists.1 hk.2
      rw [ho, h.keep k o (hI k hk.1) ho]
    · rfl
  have hn : (s'.show st I).next = s'.next := by
    show (St.show1 _ _ _).next = _
    rw [St.show1_next]
  refine ⟨⟨fun i o hi ho => by rw [hg]; exact h.keep i o hi ho, by rw [hn]; exact h.next, rfl, ?_, fun i o ho => ?_⟩, hg⟩
  · show (St.show1 _ _ _).gl = _
    rw [St.show1_gl]; exact h.gl
  · rw [hg] at ho
    show i < (s'.show st I).next
    rw [hn]; exact h.wf _ _ ho
theorem OwnB.of_get {st st' : St} {v : AV} {bs : List Int} (h : OwnB st v bs) (hk : ∀ i ∈ fid v, ∀ o, st.get i = some o → st'.get i = some o) : OwnB st' v bs := by
  rcases h with h | ⟨h, i, rfl, hg⟩ | ⟨h, i, rfl, hg⟩
  · exact .inl h
  · exact .inr (.inl ⟨h, i, rfl, hk i (by simp [fid]) _ hg⟩)
  · exact .inr (.inr ⟨h, i, rfl, hk i (by simp [fid]) _ hg⟩)
theorem app_row2 {st : St} {id len n : Nat} {vs c : List AV} {x : AV} (hg : st.get id = some (.row vs 5)) (hl : id ∉ st.lock) (ho : len = vs.length) (hx : sliceCells st x = some (n, c)) (hc : c.length = n) (h0 : n ≠ 0) (hb : len + n ≤ big) :
    appendA E0 st 33 33 (.sl id 1 0 len false) x = some (.sl st.next 1 0 (len + n) false, (st.del id).push (.row (vs ++ c) 5)) := by
  unfold big at hb
  simp only [appendA, el28, src28, hx, str28, hg, Nat.mul_one]
  rw [if_pos ⟨hc, fun h => by cases h⟩, if_neg (fun h => h rfl), if_neg h0, if_pos ⟨by omega, by omega⟩, if_pos ⟨trivial, by omega⟩, if_neg (by simp), if_pos ⟨by omega, hl⟩, List.drop_zero]
/-- append behind one's own bytes, some objects locked -/
theorem app_own2 {st : St} {v x : AV} {bs c : List Int} (hv : OwnB st v bs) (hw : st.wf) (hl : ∀ i ∈ fid v, i ∉ st.lock) (hx : sliceCells st x = some (c.length, c.map u8)) (hb : bs.length + c.length ≤ big) :
    ∃ v' st', appendA E0 st 33 33 v x = some (v', st') ∧ OwnB st' v' (bs ++ c) ∧ Rest st st' (fid v) ∧ (v' = v ∧ st' = st ∨ ∃ l f, v' = .sl st.next 1 0 l f) := by
  by_cases h0 : c.length = 0
  · have hc : c = [] := List.eq_nil_of_length_eq_zero h0
    subst hc
    exact ⟨v, st, app_zero hv.kind hx rfl, by simpa using hv, Rest.refl hw _, .inl ⟨rfl, rfl⟩⟩
  have hne : bs ++ c ≠ [] := fun e => h0 (by rw [(List.append_eq_nil_iff.1 e).2]; rfl)
  rcases hv with ⟨rfl, rfl⟩ | ⟨rfl, i, rfl, hg⟩ | ⟨hbs, i, rfl, hg⟩
  · exact ⟨_, _, app_nil hx (by simp) h0 (by simpa using hb), .inr (.inr ⟨hne, st.next, by simp, by rw [St.get_push, if_pos rfl]; simp⟩), Rest.push hw _ _, .inr ⟨_, _, rfl⟩⟩
  · exact ⟨_, _, app_full hg (by simp) hx (by simp) h0 (by simpa using hb), .inr (.inr ⟨hne, st.next, by simp, by rw [St.get_push, if_pos rfl]; simp⟩), Rest.push hw _ _, .inr ⟨_, _, rfl⟩⟩
  · have hdw : (st.del i).wf := fun j p h => by
      rw [St.get_del] at h
      split at h
      · cases h
      · exact hw _ _ h
    refine ⟨_, _, app_row2 hg (hl i (by simp [fid])) (by simp) hx (by simp) h0 hb, .inr (.inr ⟨hne, st.next, by simp, by rw [St.get_push, if_pos (by simp)]; simp⟩), ⟨fun j p hj h => ?_, by simp, rfl, rfl, push_wf hdw _⟩, .inr ⟨_, _, rfl⟩⟩
    have := hw _ _ h
    rw [St.get_push, if_neg (by simp; omega), St.get_del, if_neg (fun e => hj (by simp [fid, e]))]; exact h
theorem hide_wf {st : St} (hw : st.wf) (I : List Nat) : (st.hide I).wf := fun i o h => hw i o h
theorem frz_bv {id : Nat} {vs : List AV} {v : AV} {bs : List Int} (h : BV v bs) : frz id vs v = v := frz_dv (f := ⟨⟨#[]⟩, v, bs, 0⟩) h
def frzF (id : Nat) (vs : List AV) (f : RF) : RF := { f with lv := frz id vs f.lv, ov := frz id vs f.ov }
theorem frz_cells (id : Nat) (vs : List AV) : ∀ F : List RF, frzL id vs (cells F) = cells (F.map (frzF id vs))
  | [] => rfl
  | f :: r => by simp only [cells, List.map_cons, frzL, frz_cells id vs r]; rfl
theorem frzF_good {F : List RF} (h : RGood F) (id : Nat) (vs : List AV) : F.map (frzF id vs) = F := by
  conv => rhs; rw [← List.map_id F]
  refine List.map_congr_left fun f hf => ?_
  obtain ⟨h1, h2⟩ := h f hf
  simp only [frzF, frz_bv h1, frz_bv h2]
  rfl
theorem freeze_ref {st s8 : St} {d j : Nat} {fv a : AV} {s : RS} {S : List Nat} {vs : List AV} {args : List AV} {f : Nat} (h : obC f args st a s8) (ha : frz j vs a = a) (hp : RD s8 d fv s) (hr : Rest st s8 S) (hw : st.wf) (hl : st.lock = []) (hj : s8.get j = some (.row vs 5)) (hjn : st.next ≤ j) :
    ∃ st', obC f args st a st' ∧ RD st' d fv { s with F := s.F.map (frzF j vs) } ∧ RestF st st' S := by
  have hF := frzSt_ok (id := j) (vs := vs) hr.wf
  have hjd : d ≠ j := row_ne hp.row hj (by decide)
  refine ⟨frzSt j vs s8, ?_, ⟨?_, ?_⟩, ⟨fun i o hi ho hs => ?_, hr.next, hr.lock, hr.gl, frz_wf hr.wf⟩⟩
  · refine ACalls.freeze h fun b s' ⟨e1, e2⟩ _ _ => ⟨j, vs, 5, by rw [e2]; exact hj, by rw [e2]; exact hr.lock.trans hl, by rw [e1]; exact ha, by rw [e2]⟩
  · rw [hF.get, if_neg hjd, hp.row]
    simp only [Option.map_some, frzO, frzL]
    rcases hp.fv with ⟨_, e⟩ | ⟨_, r, fl, e, hg⟩
    · rw [e]; rfl
    · have hjr : r ≠ j := row_ne hg hj (by decide)
      rw [e]
      simp only [frz, if_neg hjr]
      rfl
  · rcases hp.fv with ⟨e1, e⟩ | ⟨h0, r, fl, e, hg⟩
    · exact .inl ⟨by show s.F.map _ = []; rw [e1]; rfl, e⟩
    · have hjr : r ≠ j := row_ne hg hj (by decide)
      refine .inr ⟨by simpa using h0, r, fl, by simpa using e, ?_⟩
      rw [hF.get, if_neg hjr, hg]
      simp only [Option.map_some, frzO, frz_cells]
  · have := hr.keep i o hi ho
    have hii := hw _ _ ho
    rw [hF.get, if_neg (by omega), this, Option.map_some, hs j _ hjn]
end
section
set_option maxRecDepth 4000
theorem rq_run {f : Nat} {args : List AV} {a : AV} {st st' : St} {o : List Or} {ob : Ob} (h : rqEv f args st o = some (a, st', ob)) (hob : ob.ok) : obC f args st a st' := by
  obtain ⟨⟨a1, s1, x1, o1⟩, h1, h2⟩ := Option.map_eq_some_iff.1 h
  simp only [Prod.mk.injEq] at h2
  obtain ⟨rfl, rfl, rfl⟩ := h2
  exact ACalls.run hE (ov := noOv) noOv_ok h1 hob
theorem neN_T {a : Int} (h : a ≠ 0) : bo (neN a 0) = TT := ob_T (by show (a != 0) = true; simpa using h)
theorem neN_F : bo (neN 0 0) = FF := ob_F rfl
def rCreate (s : RS) (n : ByteArray) : Int × RS :=
  if s.off = true then (8, s) else if ¬ mayS n then (1, s) else if hit n s.F = false ∧ 4096 ≤ s.F.length then (7, s) else
  if burnB s.fu = true then (8, rBurnt s) else (0, { rBurnt s with F := putF s.F ⟨n, .nils, .nils, [], []⟩ })
def rRemove (s : RS) (n : ByteArray) : Int × RS :=
  if thE s n ≠ 0 then (thE s n, s) else if burnB s.fu = true then (8, rBurnt s) else (0, { rBurnt s with F := s.F.eraseIdx (pos n s.F) })
theorem thE_off {s : RS} {n : ByteArray} (h : thE s n = 0) : s.off = false ∧ mayS n ∧ hit n s.F = true := by
  unfold thE at h
  split at h
  · cases h
  · rename_i h1
    split at h
    · cases h
    · rename_i h2
      split at h
      · cases h
      · rename_i h3
        exact ⟨by simpa using h1, Classical.not_not.1 h2, by simpa using h3⟩
def rRename (s : RS) (n n2 : ByteArray) : Int × RS :=
  if s.off = true then (8, s) else if ¬ mayS n ∨ ¬ mayS n2 then (1, s) else if hit n s.F = false then (6, s) else
  if burnB s.fu = true then (8, rBurnt s) else match s.F[pos n s.F]? with
    | some g => (0, { rBurnt s with F := putF (s.F.eraseIdx (pos n s.F)) { g with name := n2 } })
    | none => (0, rBurnt s)
theorem hit_get {n : ByteArray} {F : List RF} (h : hit n F = true) : ∃ f, F[pos n F]? = some f ∧ eqS f.name n = true := by
  unfold hit at h
  split at h
  · rename_i f hf; exact ⟨f, hf, h⟩
  · cases h
theorem store9 {st : St} {a : Nat} {x y z : AV} {ty : Nat} (hg : st.get a = some (.row [x, y, z] ty)) (hl : st.lock = []) (n : ByteArray) : storeA E0 st 9 (.ptr a 0) (str n) = some (st.set a (.row [str n, y, z] ty)) := by
  have hwg := St.wget_of hg (show a ∉ st.lock by rw [hl]; simp)
  have sz : tySize E0 9 = some 1 := by kernel_rfl
  simp [storeA, avCells, oneA, sz, hwg]
theorem Rest.old2 {a b c : St} {S S' : List Nat} (h : Rest a b S) (k : Rest b c S') (hS : ∀ i ∈ S', i ∈ S ∨ a.next ≤ i) (hw : a.wf) : Rest a c S :=
  ⟨fun i o hi ho => k.keep i o (fun hi' => by
      rcases hS i hi' with h1 | h1
      · exact hi h1
      · have := hw _ _ ho; omega) (h.keep i o hi ho), Nat.le_trans h.next k.next, k.lock.trans h.lock, k.gl.trans h.gl, k.wf⟩
end
section
set_option maxRecDepth 4000
theorem cells_split {F : List RF} {i : Nat} {g : RF} (hg : F[i]? = some g) : cells F = cells (F.take i) ++ ([str g.name, g.lv, g.ov] ++ cells (F.drop (i + 1))) := by
  have hlt := (List.getElem?_eq_some_iff.1 hg).1
  conv => lhs; rw [← List.take_append_drop i F, cells_append, drop_at hg]
  rfl
theorem cells_put {F : List RF} {i : Nat} (hi : i < F.length) (f : RF) : cells (F.set i f) = cells (F.take i) ++ ([str f.name, f.lv, f.ov] ++ cells (F.drop (i + 1))) := by
  rw [List.set_eq_take_append_cons_drop, if_pos hi, cells_append]
  rfl
theorem take_len {F : List RF} {i : Nat} (hi : i < F.length) : (cells (F.take i)).length = i * 3 := by
  rw [cells_length, List.length_take, Nat.min_eq_left (by omega)]
theorem size28' : tySize E0 33 = some 1 := by kernel_rfl
theorem storeL {st : St} {r i : Nat} {F : List RF} {g : RF} {v : AV} (hg : st.get r = some (.row (cells F) 171)) (hl : st.lock = []) (hF : F[i]? = some g) (hv : avCells v = some [v]) : storeA E0 st 33 (.ptr r (i * 3 + 1)) v = some (st.set r (.row (cells (F.set i { g with lv := v })) 171)) := by
  have hwg := St.wget_of hg (show r ∉ st.lock by rw [hl]; simp)
  have hlt := (List.getElem?_eq_some_iff.1 hF).1
  simp only [storeA, hv, hwg, size28', List.length_cons, List.length_nil]
  rw [if_pos ⟨trivial, by rw [cells_length]; omega⟩, cells_put hlt, cells_split hF]
  have h1 : i * 3 + 1 = (cells (F.take i)).length + 1 := by rw [take_len hlt]
  have h2 : i * 3 + 1 + (0 + 1) = (cells (F.take i)).length + 2 := by rw [take_len hlt]
  rw [h2, h1, List.take_length_add_append, List.drop_length_add_append]
  simp
theorem storeO {st : St} {r i : Nat} {F : List RF} {g : RF} {v : AV} (hg : st.get r = some (.row (cells F) 171)) (hl : st.lock = []) (hF : F[i]? = some g) (hv : avCells v = some [v]) : storeA E0 st 33 (.ptr r (i * 3 + 2)) v = some (st.set r (.row (cells (F.set i { g with ov := v })) 171)) := by
  have hwg := St.wget_of hg (show r ∉ st.lock by rw [hl]; simp)
  have hlt := (List.getElem?_eq_some_iff.1 hF).1
  simp only [storeA, hv, hwg, size28', List.length_cons, List.length_nil]
  rw [if_pos ⟨trivial, by rw [cells_length]; omega⟩, cells_put hlt, cells_split hF]
  have h1 : i * 3 + 2 = (cells (F.take i)).length + 2 := by rw [take_len hlt]
  have h2 : i * 3 + 2 + (0 + 1) = (cells (F.take i)).length + 3 := by rw [take_len hlt]
  rw [h2, h1, List.take_length_add_append, List.drop_length_add_append]
  simp
theorem settle_ref {st s8 : St} {d i : Nat} {fv a o2 : AV} {s : RS} {g' : RF} {bs : List Int} {S : List Nat} {args : List AV} {f : Nat} (h : obC f args st a s8) (ha : ∀ j vs, frz j vs a = a) (hp : RD s8 d fv { s with F := s.F.set i g' }) (hg : RGood s.F) (hr : Rest st s8 S) (hw : st.wf) (hl : st.lock = [])
    (hlv : BV g'.lv g'.lb ∨ (g'.lv = o2 ∧ g'.lb = bs)) (hov : BV g'.ov g'.ob ∨ (g'.ov = o2 ∧ g'.ob = bs)) (ho : OwnB s8 o2 bs) (hn : ∀ i ∈ fid o2, st.next ≤ i) :
    ∃ st' g'', obC f args st a st' ∧ g''.name = g'.name ∧ g''.lb = g'.lb ∧ g''.ob = g'.ob ∧ BV g''.lv g''.lb ∧ BV g''.ov g''.ob ∧ RD st' d fv { s with F := s.F.set i g'' } ∧ RestF st st' S := by
  have main : ∀ j fl, o2 = .sl j 1 0 bs.length fl → s8.get j = some (.row (bs.map u8) 5) → ∃ st' g'', obC f args st a st' ∧ g''.name = g'.name ∧ g''.lb = g'.lb ∧ g''.ob = g'.ob ∧ BV g''.lv g''.lb ∧ BV g''.ov g''.ob ∧ RD st' d fv { s with F := s.F.set i g'' } ∧ RestF st st' S := fun j fl e hj => by
    obtain ⟨st', h1, h2, h3⟩ := freeze_ref h (ha j _) hp hr hw hl hj (hn j (by rw [e]; simp [fid]))
    have hb : ∀ {v : AV} {b : List Int}, BV v b ∨ (v = o2 ∧ b = bs) → BV (frz j (bs.map u8) v) b := fun {v b} hv => by
      rcases hv with hv | ⟨rfl, rfl⟩
      · rw [frz_bv hv]; exact hv
      · refine .inr ⟨fl, ?_⟩
        rw [e]
        simp only [frz, if_true]
        rw [if_pos (by simp)]
        simp
        exact List.take_of_length_le (by simp)
    refine ⟨st', frzF j (bs.map u8) g', h1, rfl, rfl, rfl, hb hlv, hb hov, ?_, h3⟩
    simp only [List.map_set, frzF_good hg] at h2
    exact h2
  rcases ho with ⟨rfl, rfl⟩ | ⟨rfl, j, rfl, hj⟩ | ⟨_, j, rfl, hj⟩
  · refine ⟨s8, g', h, rfl, rfl, rfl, ?_, ?_, hp, hr.f⟩
    · rcases hlv with h | ⟨h, h'⟩
      · exact h
      · exact .inl ⟨h', h⟩
    · rcases hov with h | ⟨h, h'⟩
      · exact h
      · exact .inl ⟨h', h⟩
  · exact main j true rfl hj
  · exact main j false rfl hj
theorem get_in {F : List RF} (hg : RGood F) {i : Nat} {g : RF} (h : F[i]? = some g) : BV g.lv g.lb ∧ BV g.ov g.ob := hg g (List.mem_of_getElem? h)
theorem used_get {F : List RF} {i : Nat} {g : RF} (h : F[i]? = some g) : g.lb.length + g.ob.length ≤ usedR F := le_sum (List.mem_map.2 ⟨g, List.mem_of_getElem? h, rfl⟩)
def rLoose (s : RS) (n : ByteArray) : Int := if thE s n ≠ 0 then 0 else match s.F[pos n s.F]? with
  | some g => (g.ob.length : Int)
  | none => 0
end
section
set_option maxRecDepth 4000
theorem OwnB.cell2 {st : St} {v : AV} {bs : List Int} (h : OwnB st v bs) : avCells v = some [v] := h.cell
theorem OwnB.set_row {st : St} {v : AV} {bs : List Int} (h : OwnB st v bs) {r : Nat} {vs : List AV} {ty : Nat} (hg : st.get r = some (.row vs ty)) (ht : ty ≠ 5) (o : AObj) : OwnB (st.set r o) v bs :=
  h.of_get fun i hi p hp => by
    rw [St.get_set, if_neg fun e => ?_]
    · exact hp
    · rcases h with ⟨_, rfl⟩ | ⟨_, j, rfl, hj⟩ | ⟨_, j, rfl, hj⟩
      · cases hi
      · simp only [fid, List.mem_singleton] at hi
        rw [← e, hi, hj] at hg
        simp only [Option.some.injEq, AObj.row.injEq] at hg
        exact ht hg.2.symm
      · simp only [fid, List.mem_singleton] at hi
        rw [← e, hi, hj] at hg
        simp only [Option.some.injEq, AObj.row.injEq] at hg
        exact ht hg.2.symm
/-- the files' row is written -/
theorem RD.setF {st : St} {d r : Nat} {fl : Bool} {s : RS} {F2 : List RF} (h : RD st d (.sl r 3 0 s.F.length fl) s) (hl : F2.length = s.F.length) (h0 : F2 ≠ []) : RD (st.set r (.row (cells F2) 171)) d (.sl r 3 0 s.F.length fl) { s with F := F2 } := by
  have hrd : r ≠ d := h.ne r (by simp [fid])
  exact ⟨by rw [St.get_set, if_neg hrd.symm]; exact h.row, .inr ⟨h0, r, fl, by rw [hl], by rw [St.get_set, if_pos rfl]⟩⟩
theorem frz_i64 (j : Nat) (vs : List AV) (e : Int) : frz j vs (i64 e) = i64 e := rfl
def rSyncE (s : RS) (n : ByteArray) : Int := if thE s n ≠ 0 then thE s n else if burnB s.fu = true then 8 else 0
def RSync (s : RS) (n : ByteArray) (s' : RS) : Prop :=
  if thE s n ≠ 0 then s' = s else if burnB s.fu = true then s' = rBurnt s else ∃ g g', s.F[pos n s.F]? = some g ∧ g'.name = g.name ∧ g'.lb = g.lb ++ g.ob ∧ g'.ob = [] ∧ BV g'.lv g'.lb ∧ BV g'.ov g'.ob ∧ s' = { rBurnt s with F := s.F.set (pos n s.F) g' }
theorem set_ne {F : List RF} {i : Nat} {g : RF} (h : i < F.length) : F.set i g ≠ [] := fun e => by
  have : (F.set i g).length = 0 := by rw [e]; rfl
  rw [List.length_set] at this; omega
end
section
set_option maxRecDepth 4000
theorem gtQ_T {a b : Int} (h : b < a) : gtQ a b TT := gtP_T h
theorem gtQ_F {a b : Int} (h : a ≤ b) : gtQ a b FF := gtP_F h
def rAppE (s : RS) (n : ByteArray) (c : List Int) : Int := if thE s n ≠ 0 then thE s n else if 0 < c.length ∧ s.q < usedR s.F + c.length then 7 else if burnB s.fu = true then 8 else 0
def RApp (s : RS) (n : ByteArray) (c : List Int) (s' : RS) : Prop :=
  if thE s n ≠ 0 then s' = s else if 0 < c.length ∧ s.q < usedR s.F + c.length then s' = s else if burnB s.fu = true then s' = rBurnt s else
  ∃ g g', s.F[pos n s.F]? = some g ∧ g'.name = g.name ∧ g'.lb = g.lb ∧ g'.ob = g.ob ++ c ∧ BV g'.lv g'.lb ∧ BV g'.ov g'.ob ∧ s' = { rBurnt s with F := s.F.set (pos n s.F) g' }
theorem hide_RD {st : St} {d : Nat} {fv : AV} {s : RS} (h : RD st d fv s) (I : List Nat) : RD (st.hide I) d fv s := ⟨h.row, h.fv.keep fun _ _ _ ho => ho⟩
end
section
set_option maxRecDepth 100000
section
variable (d e f len i j k : Nat) (fl b : Bool) (n : ByteArray) (q fu : Int) (G lv ov o1 o2 bs w : AV) (st s1 s2 s3 s4 s5 : St)
abbrev cyT (d e i : Nat) : List (Nat × AV) := [(0, .ptr d 0), (3, .ptr e 0), (4, i64 i)]
def hd1 (I : List Nat) (st s : St) : St := s.show st I
def cyI (d e f : Nat) : List Nat := [e, d, f, d, f, d, f]
def cyX (f len j k : Nat) (fl : Bool) (n : ByteArray) (G lv ov o1 o2 bs w : AV) (s1 s2 s3 s4 s5 : St) : List Or := [.eff (.sl f 3 0 len fl) id, TT, .eff G id, .eff (.sl f 3 0 len fl) id, .eff (.ptr f j) id, .eff (str n) id, .eff (.sl f 3 0 len fl) id, .eff (.ptr f j) id, .eff lv id, .eff (.sl f 3 0 len fl) id, .eff (.ptr f j) id, .eff ov id, .eff o1 (fun _ => s1), .eff o2 (fun _ => s2), .eff bs (fun _ => s3), .eff w (fun _ => s4), .eff .undef (fun _ => s5), i64 k]
variable (x y : Nat) (g1 g2 : Bool) (c1 c2 : List AV)
end
end
section
set_option maxRecDepth 4000
theorem freeze_step2 {g : G} {st st2 : St} {w : World} (hok : OK g st w) {id : Nat} {vs : List AV} {ty : Nat} (hg : st.get id = some (.row vs ty)) (hnl : id ∉ st.lock) (hfr : ∀ i ∈ st.lock, ∀ o, st.get i = some o → frzO id vs o = o) (hF : Frozen id vs st st2) :
    ∃ g2, Step g st w g2 st2 w ∧ ∀ a v, VR g a v → VR g2 (frz id vs a) v := by
  obtain ⟨hlt, c, fr, us, h1, h2, h3, h4, h5, h6⟩ := hok.obj id _ hg
  have hn : id < g.n := by rw [hok.n]; exact hlt
  have h0 := hok.sep id _ hg
  let g2 : G := { n := g.n, blk := g.blk, base := g.base, siz := g.siz, M := fun b => if b = g.blk id then c.toList else g.M b }
  have le : g.le g2 := ⟨Nat.le_refl _, fun _ _ => rfl, fun _ _ => rfl, fun _ _ => rfl, fun b => by
    show g.M b <+: if b = g.blk id then c.toList else g.M b
    split
    · rename_i e; rw [e, h0]; exact List.nil_prefix
    · exact List.prefix_refl _⟩
  have hFG : FG g g2 id vs us c.toList := ⟨le, by show (if g.blk id = g.blk id then _ else _) = _; rw [if_pos rfl], h5, h3, h4⟩
  have back : ∀ i o, st2.get i = some o → i ≠ id ∧ ∃ o0, st.get i = some o0 ∧ o = frzO id vs o0 := fun i o ho => by
    rw [hF.get] at ho
    split at ho
    · cases ho
    · rename_i hne
      obtain ⟨o0, h7, h8⟩ := Option.map_eq_some_iff.1 ho
      exact ⟨hne, o0, h7, h8.symm⟩
  refine ⟨g2, ⟨le, ⟨fun b hb => ?_, fun i o ho => ?_, fun i o j o' hi hj he => ?_, fun i o ho => ?_, hok.n.trans hF.next.symm, fun p hp => (hok.glob p (by rw [← hF.gl]; exact hp)).mono le⟩, rfl, rfl, rfl, Nat.le_refl _, fun _ _ _ => rfl, fun i o ho _ => ?_, fun b hb hn' => ?_, hF.lock, hF.gl⟩, fun a v hv => hv.frz hFG⟩
  · by_cases e : b = g.blk id
    · subst e
      exact ⟨c, ty, fr, h1, by rw [hFG.M]; exact List.prefix_refl _⟩
    · have : g2.M b = g.M b := by show (if b = g.blk id then _ else _) = _; rw [if_neg e]
      rw [this] at hb ⊢
      exact hok.imm b hb
  · obtain ⟨hne, o0, h7, rfl⟩ := back i o ho
    have := hok.obj i o0 h7
    exact ⟨by rw [hF.next]; exact this.1, ObjR.frz hFG (by rw [hok.n]; exact this.1) this.2⟩
  · obtain ⟨_, o0, h7, _⟩ := back i o hi
    obtain ⟨_, o1, h8, _⟩ := back j o' hj
    exact hok.inj i o0 j o1 h7 h8 he
  · obtain ⟨hne, o0, h7, _⟩ := back i o ho
    show (if g.blk i = g.blk id then _ else _) = _
    rw [if_neg fun e => hne (hok.inj i o0 id _ h7 hg e)]
    exact hok.sep i o0 h7
  · obtain ⟨hne, o0, h7, h8⟩ := back i o ho
    exact ⟨i, o0, h7, rfl, fun hc => ⟨rfl, by rw [h8, hfr i hc o0 h7]⟩⟩
  · show (if b = g.blk id then _ else _) = _
    rw [if_neg fun e => hn' id _ (St.wget_of hg hnl) e.symm]
theorem ACalls.freeze2 {P : Program} {f : Nat} {args : List AV} {Q Q' : AV → St → Prop} {st : St} (h : ACalls P f args Q st)
    (hq : ∀ a st', Q a st' → st'.lock = st.lock → st'.wf → ∃ id vs ty, st'.get id = some (.row vs ty) ∧ id ∉ st'.lock ∧ (∀ i ∈ st'.lock, ∀ o, st'.get i = some o → frzO id vs o = o) ∧ Q' (frz id vs a) (frzSt id vs st')) : ACalls P f args Q' st :=
  fun g w us hok hv => (h g w us hok hv).mono fun e w' ⟨g', st', r, v, h1, k1, h3, k3⟩ => by
    have hwf : st'.wf := fun id o ho => (k1.ok.obj id o ho).1
    obtain ⟨id, vs, ty, hg, hl, hf, hq'⟩ := hq r st' k3 k1.lock hwf
    obtain ⟨g2, hs, hv2⟩ := freeze_step2 k1.ok hg hl hf (frzSt_ok hwf)
    exact ⟨g2, frzSt id vs st', frz id vs r, v, h1, k1.trans hs, hv2 _ _ h3, hq'⟩
/-- what no later row changes by being frozen -/
def Calm (n : Nat) (o : AObj) : Prop := ∀ id vs, n ≤ id → frzO id vs o = o
theorem RestF.refl {st : St} (hw : st.wf) (S : List Nat) : RestF st st S := (Rest.refl hw S).f
theorem RestF.trans {a b c : St} {S : List Nat} (h : RestF a b S) (k : RestF b c S) : RestF a c S :=
  ⟨fun i o hi ho hc => k.keep i o hi (h.keep i o hi ho hc) (fun id vs hid => hc id vs (Nat.le_trans h.next hid)), Nat.le_trans h.next k.next, k.lock.trans h.lock, k.gl.trans h.gl, k.wf⟩
theorem RestF.weak {a b : St} {S S' : List Nat} (h : RestF a b S) (hs : ∀ i ∈ S, i ∈ S') : RestF a b S' :=
  ⟨fun i o hi ho => h.keep i o (fun e => hi (hs i e)) ho, h.next, h.lock, h.gl, h.wf⟩
theorem RestF.old {a b c : St} {S S' : List Nat} (h : RestF a b S) (k : RestF b c S') (hS : ∀ i ∈ S', i ∈ S ∨ a.next ≤ i) (hw : a.wf) : RestF a c S :=
  ⟨fun i o hi ho hc => k.keep i o (fun hi' => by
      rcases hS i hi' with h1 | h1
      · exact hi h1
      · have := hw _ _ ho; omega) (h.keep i o hi ho hc) (fun id vs hid => hc id vs (Nat.le_trans h.next hid)), Nat.le_trans h.next k.next, k.lock.trans h.lock, k.gl.trans h.gl, k.wf⟩
theorem calm_cells {F : List RF} (hg : RGood F) (n : Nat) (ty : Nat) : Calm n (.row (cells F) ty) := fun id vs _ => by
  show AObj.row (frzL id vs (cells F)) ty = _
  rw [frz_cells, frzF_good hg]
theorem FV.lt {st : St} {fv : AV} {F : List RF} (h : FV st fv F) (hw : st.wf) : ∀ i ∈ fid fv, i < st.next := fun i hi => by
  rcases h with ⟨_, rfl⟩ | ⟨_, f, fl, rfl, hg⟩
  · cases hi
  · simp only [fid, List.mem_singleton] at hi
    rw [hi]; exact hw _ _ hg
theorem frz_fv {fv : AV} {st : St} {F : List RF} (h : FV st fv F) {id : Nat} {vs : List AV} (hid : id ∉ fid fv) : frz id vs fv = fv := by
  rcases h with ⟨_, rfl⟩ | ⟨_, f, fl, rfl, _⟩
  · rfl
  · simp only [frz]
    rw [if_neg (fun e => hid (by simp [fid, e]))]
theorem calm_row {st : St} {d : Nat} {fv : AV} {s : RS} (hp : RD st d fv s) (hw : st.wf) : Calm st.next (.row [fv, i64 s.q, i64 s.fu, bo s.off] 76) := fun id vs hid => by
  show AObj.row (frzL id vs _) 76 = _
  simp only [frzL]
  rw [frz_fv hp.fv (fun h => by have := hp.fv.lt hw _ h; omega)]
  rfl
theorem RD.restF {st st' : St} {d : Nat} {fv : AV} {s : RS} (h : RD st d fv s) (hw : st.wf) (hg : RGood s.F) {S : List Nat} (hr : RestF st st' S) (h1 : d ∉ S) (h2 : ∀ i ∈ fid fv, i ∉ S) : RD st' d fv s := by
  refine ⟨hr.keep _ _ h1 h.row (calm_row h hw), ?_⟩
  rcases h.fv with h | ⟨h0, f, fl, rfl, hgf⟩
  · exact .inl h
  · exact .inr ⟨h0, f, fl, rfl, hr.keep _ _ (h2 f (by simp [fid])) hgf (calm_cells hg _ _)⟩
end
section
set_option maxRecDepth 4000
theorem chain_seq {σ : Type} (Inv : Nat → σ → Prop) (R : Nat → σ → σ → Prop) (n : Nat) (s0 : σ) (h0 : Inv 0 s0) (turn : ∀ i s, i < n → Inv i s → ∃ s', Inv (i + 1) s' ∧ R i s s') : ∃ f : Nat → σ, f 0 = s0 ∧ (∀ i, i ≤ n → Inv i (f i)) ∧ ∀ i, i < n → R i (f i) (f (i + 1)) := by
  classical
  let f : Nat → σ := fun k => Nat.rec s0 (fun i s => if h : ∃ s', Inv (i + 1) s' ∧ R i s s' then Classical.choose h else s) k
  have step : ∀ i, i < n → Inv i (f i) → Inv (i + 1) (f (i + 1)) ∧ R i (f i) (f (i + 1)) := fun i hi hI => by
    have h := turn i (f i) hi hI
    have e : f (i + 1) = Classical.choose h := by
      show (if h : ∃ s', Inv (i + 1) s' ∧ R i (f i) s' then Classical.choose h else f i) = _
      rw [dif_pos h]
    rw [e]
    exact Classical.choose_spec h
  have inv : ∀ i, i ≤ n → Inv i (f i) := fun i => by
    induction i with
    | zero => exact fun _ => h0
    | succ i ih => exact fun hi => (step i hi (ih (by omega))).1
  exact ⟨f, rfl, inv, fun i hi => (step i hi (inv i (by omega))).2⟩
theorem show_restF {st s' : St} {I S : List Nat} (h : RestF (st.hide I) s' S) (hI : ∀ i ∈ I, i ∉ S ∧ ∀ o, st.get i = some o → Calm st.next o) : RestF st (s'.show st I) S ∧ ∀ k, (s'.show st I).get k = s'.get k := by
  have hg : ∀ k, (s'.show st I).get k = s'.get k := fun k => by
    rw [St.show_get]
    split
    · rename_i hk
      obtain ⟨o, ho⟩ := Option.isSome_iff_exists.1 hk.2
      rw [ho, h.keep k o (hI k hk.1).1 ho (fun id vs hid => (hI k hk.1).2 o ho id vs hid)]
    · rfl
  have hn : (s'.show st I).next = s'.next := by
    show (St.show1 _ _ _).next = _
    rw [St.show1_next]
  refine ⟨⟨fun i o hi ho hc => by rw [hg]; exact h.keep i o hi ho hc, by rw [hn]; exact h.next, rfl, ?_, fun i o ho => ?_⟩, hg⟩
  · show (St.show1 _ _ _).gl = _
    rw [St.show1_gl]; exact h.gl
  · rw [hg] at ho
    show i < (s'.show st I).next
    rw [hn]; exact h.wf _ _ ho
theorem OwnF.of_get {st st' : St} {v : AV} {F : List RF} (h : OwnF st v F) (hk : ∀ i ∈ fid v, ∀ o, st.get i = some o → Calm i.succ o → st'.get i = some o) (hg : RGood F) : OwnF st' v F := by
  rcases h with h | ⟨h, i, rfl, hgt⟩
  · exact .inl h
  · exact .inr ⟨h, i, rfl, hk i (by simp [fid]) _ hgt (calm_cells hg _ _)⟩
def key (f : RF) : ByteArray × List Int × List Int := (f.name, f.lb, f.ob)
end
section
set_option maxRecDepth 4000
theorem Calm.mono {n m : Nat} {o : AObj} (h : Calm n o) (hm : n ≤ m) : Calm m o := fun id vs hid => h id vs (by omega)
structure CyI (s0 : St) (e : Nat) (s : RS) (i : Nat) (p : St × AV × List RF) : Prop where
  rest : RestF s0 p.1 [e]
  rd : RD p.1 e p.2.1 { s with F := p.2.2 }
  own : OwnF p.1 p.2.1 p.2.2
  good : RGood p.2.2
  keys : p.2.2.map key = (s.F.take i).map key
  ids : ∀ j ∈ fid p.2.1, s0.next ≤ j
def GY (T : Tm) : List AV := [T.get 0, T.get 2, T.get 3, T.get 4]
end
section
set_option maxRecDepth 4000
end
section
set_option maxRecDepth 100000
abbrev rkT (d : Nat) (x : AV) (k i : Nat) : List (Nat × AV) := [(0, .ptr d 0), (1, x), (4, i64 k), (5, i64 i)]
section
variable (d f len i j k m : Nat) (fl g : Bool) (x lv ov o1 o2 c : AV) (cs ps : List AV) (v l1 w : Int) (st s1 s2 s3 s4 : St)
def rkH (d f len i : Nat) (fl : Bool) (ov : AV) (st : St) : Ob := [obL st 74 (.ptr d 0) (.sl f 3 0 len fl), bo (ltN i len) = TT, obL st 74 (.ptr d 0) (.sl f 3 0 len fl), 0 ≤ (i : Int) ∧ (i : Int) < len, obL st 33 (.ptr f (0 + i * 3 + 2)) ov]
def rkI (d f : Nat) : List Nat := [d, d, f, d, f]
def rkX (F pf lv ov o1 o2 c : AV) (k1 i1 : Nat) (s1 s2 s3 s4 : St) : List Or := [i64 k1, .eff F id, .eff F id, .eff pf id, .eff lv id, .eff F id, .eff pf id, .eff ov id, .eff c id, .eff o1 (fun _ => s1), .eff o2 (fun _ => s2), .eff pf id, .eff .undef (fun _ => s3), .eff F id, .eff .undef (fun _ => s4), i64 i1]
variable (k1 i1 np : Nat) (gp : Bool)
def remP (a b : Int) (v : AV) (st : St) : Prop := binA E0 .rem 3 (i64 a) (i64 b) = some v ∧ st = st
end
end
section
set_option maxRecDepth 4000
theorem freeze_rd {st s8 : St} {d j : Nat} {fv : AV} {s : RS} {S : List Nat} {vs : List AV} (hp : RD s8 d fv s) (hr : Rest st s8 S) (hw : st.wf) (hj : s8.get j = some (.row vs 5)) (hjn : st.next ≤ j) :
    RD (frzSt j vs s8) d fv { s with F := s.F.map (frzF j vs) } ∧ RestF st (frzSt j vs s8) S := by
  have hF := frzSt_ok (id := j) (vs := vs) hr.wf
  have hjd : d ≠ j := row_ne hp.row hj (by decide)
  refine ⟨⟨?_, ?_⟩, ⟨fun i o hi ho hs => ?_, hr.next, hr.lock, hr.gl, frz_wf hr.wf⟩⟩
  · rw [hF.get, if_neg hjd, hp.row]
    simp only [Option.map_some, frzO, frzL]
    rcases hp.fv with ⟨_, e⟩ | ⟨_, r, fl, e, hg⟩
    · rw [e]; rfl
    · have hjr : r ≠ j := row_ne hg hj (by decide)
      rw [e]
      simp only [frz, if_neg hjr]
      rfl
  · rcases hp.fv with ⟨e1, e⟩ | ⟨h0, r, fl, e, hg⟩
    · exact .inl ⟨by show s.F.map _ = []; rw [e1]; rfl, e⟩
    · have hjr : r ≠ j := row_ne hg hj (by decide)
      refine .inr ⟨by simpa using h0, r, fl, by simpa using e, ?_⟩
      rw [hF.get, if_neg hjr, hg]
      simp only [Option.map_some, frzO, frz_cells]
  · have := hr.keep i o hi ho
    have hii := hw _ _ ho
    rw [hF.get, if_neg (by omega), this, Option.map_some, hs j _ hjn]
theorem settle_aw {st s8 : St} {d i n : Nat} {fv o2 : AV} {s : RS} {g' : RF} {bs : List Int} {S : List Nat} {code : Code} {tmIn : Tm → Prop} {Gf : Tm → List AV} {L : List AV} (hGf : ∀ j vs T, Gf (frzT j vs T) = frzL j vs (Gf T)) (hL : ∀ j vs, frzL j vs L = L)
    (h : ∀ T, tmIn T → AW Tryd.prog code (fun e T' st' => e = .normal ∧ T'.n = n ∧ Gf T' = L ∧ st' = s8) T st) (hp : RD s8 d fv { s with F := s.F.set i g' }) (hg : RGood s.F) (hr : Rest st s8 S) (hw : st.wf) (hl : st.lock = [])
    (hlv : BV g'.lv g'.lb ∨ (g'.lv = o2 ∧ g'.lb = bs)) (hov : BV g'.ov g'.ob ∨ (g'.ov = o2 ∧ g'.ob = bs)) (ho : OwnB s8 o2 bs) (hn : ∀ i ∈ fid o2, st.next ≤ i) :
    ∃ st' g'', (∀ T, tmIn T → AW Tryd.prog code (fun e T' st2 => e = .normal ∧ T'.n = n ∧ Gf T' = L ∧ st2 = st') T st) ∧ g''.name = g'.name ∧ g''.lb = g'.lb ∧ g''.ob = g'.ob ∧ BV g''.lv g''.lb ∧ BV g''.ov g''.ob ∧ RD st' d fv { s with F := s.F.set i g'' } ∧ RestF st st' S := by
  have main : ∀ j fl, o2 = .sl j 1 0 bs.length fl → s8.get j = some (.row (bs.map u8) 5) → ∃ st' g'', (∀ T, tmIn T → AW Tryd.prog code (fun e T' st2 => e = .normal ∧ T'.n = n ∧ Gf T' = L ∧ st2 = st') T st) ∧ g''.name = g'.name ∧ g''.lb = g'.lb ∧ g''.ob = g'.ob ∧ BV g''.lv g''.lb ∧ BV g''.ov g''.ob ∧ RD st' d fv { s with F := s.F.set i g'' } ∧ RestF st st' S := fun j fl e hj => by
    obtain ⟨h2, h3⟩ := freeze_rd hp hr hw hj (hn j (by rw [e]; simp [fid]))
    have hb : ∀ {v : AV} {b : List Int}, BV v b ∨ (v = o2 ∧ b = bs) → BV (frz j (bs.map u8) v) b := fun {v b} hv => by
      rcases hv with hv | ⟨rfl, rfl⟩
      · rw [frz_bv hv]; exact hv
      · refine .inr ⟨fl, ?_⟩
        rw [e]
        simp only [frz, if_true]
        rw [if_pos (by simp), List.drop_zero, List.take_of_length_le (by simp)]
    refine ⟨frzSt j (bs.map u8) s8, frzF j (bs.map u8) g', fun T hT => ?_, rfl, rfl, rfl, hb hlv, hb hov, ?_, h3⟩
    · refine AW.freeze (h T hT) fun e' T' s' ⟨q1, q2, q3, q4⟩ _ _ => ⟨j, bs.map u8, 5, by rw [q4]; exact hj, by rw [q4]; exact hr.lock.trans hl, q1, q2, by rw [hGf, q3, hL], by rw [q4]⟩
    · simp only [List.map_set, frzF_good hg] at h2
      exact h2
  rcases ho with ⟨rfl, rfl⟩ | ⟨rfl, j, rfl, hj⟩ | ⟨_, j, rfl, hj⟩
  · refine ⟨s8, g', h, rfl, rfl, rfl, ?_, ?_, hp, hr.f⟩
    · rcases hlv with h | ⟨h, h'⟩
      · exact h
      · exact .inl ⟨h', h⟩
    · rcases hov with h | ⟨h, h'⟩
      · exact h
      · exact .inl ⟨h', h⟩
  · exact main j true rfl hj
  · exact main j false rfl hj
theorem slice_bv {st : St} {v : AV} {bs : List Int} (h : BV v bs) {w : Nat} (hw : w ≤ bs.length) : ∃ c, sliceA E0 st 33 v none (some (i64 w)) none = some c ∧ BV c (bs.take w) := by
  have sz5 : tySize E0 5 = some 1 := by kernel_rfl
  rcases h with ⟨rfl, rfl⟩ | ⟨fl, rfl⟩
  · have : w = 0 := by simpa using hw
    subst this
    exact ⟨.nils, by kernel_rfl, .inl ⟨by simp, rfl⟩⟩
  · simp only [sliceA, ty28, sz5, if_true, boundsA_hi _ _ hw]
    exact ⟨_, rfl, .inr ⟨fullOf none (0, w, bs.length) fl bs.length, by simp only [Nat.sub_zero, Nat.mul_one, List.drop_zero, List.length_take, Nat.min_eq_left hw, List.map_take]⟩⟩
end
section
set_option maxRecDepth 4000
abbrev K := ByteArray × List Int × List Int
def pk (ps : List Int) (k n : Nat) : Nat := match ps[k]? with
  | some v => v.toNat % (n + 1)
  | none => 0
def crK (ps : List Int) (k : Nat) (f : K) : K × Nat := if f.2.2 = [] then (f, k) else ((f.1, f.2.1 ++ f.2.2.take (pk ps k f.2.2.length), []), k + 1)
def crL (ps : List Int) : Nat → List K → List K
  | _, [] => []
  | k, f :: r => (crK ps k f).1 :: crL ps (crK ps k f).2 r
def crN (ps : List Int) : Nat → List K → Nat
  | k, [] => k
  | k, f :: r => crN ps (crK ps k f).2 r
theorem crL_snoc (ps : List Int) (f : K) : ∀ (l : List K) (k : Nat), crL ps k (l ++ [f]) = crL ps k l ++ [(crK ps (crN ps k l) f).1] ∧ crN ps k (l ++ [f]) = (crK ps (crN ps k l) f).2
  | [], k => ⟨rfl, rfl⟩
  | g :: r, k => by
    obtain ⟨h1, h2⟩ := crL_snoc ps f r (crK ps k g).2
    exact ⟨by simp only [List.cons_append, crL, crN, h1], by simp only [List.cons_append, crN, h2]⟩
theorem crL_length (ps : List Int) : ∀ (l : List K) (k : Nat), (crL ps k l).length = l.length
  | [], _ => rfl
  | f :: r, k => by simp only [crL, List.length_cons, crL_length ps r]
theorem crN_le (ps : List Int) : ∀ (l : List K) (k : Nat), crN ps k l ≤ k + l.length
  | [], _ => by simp [crN]
  | f :: r, k => by
    have := crN_le ps r (crK ps k f).2
    have h : (crK ps k f).2 ≤ k + 1 := by unfold crK; split <;> simp
    simp only [crN, List.length_cons]; omega
/-- picks, as the document's disk is given them -/
def BP (x : AV) (ps : List Int) : Prop := (ps = [] ∧ x = .nils) ∨ ∃ fl, x = .imm 1 ps.length fl (ps.map u16)
def PicksOk (ps : List Int) : Prop := ps.length ≤ 1000000000 ∧ ∀ v ∈ ps, 0 ≤ v ∧ v ≤ 65535
theorem remP_ok {v : Int} {m : Nat} (hv : 0 ≤ v) (st : St) : remP v ((m + 1 : Nat) : Int) (i64 ((v.toNat % (m + 1) : Nat) : Int)) st := by
  refine ⟨?_, rfl⟩
  show pureVal (binOp .rem 3 (.int .i64 v) (.int .i64 ((m + 1 : Nat) : Int))) = _
  have e : binOp .rem 3 (.int .i64 v) (.int .i64 ((m + 1 : Nat) : Int)) = .pure (.int .i64 (((v.toNat % (m + 1) : Nat)) : Int)) := by
    show Op.intDiv .rem .i64 v ((m + 1 : Nat) : Int) = _
    unfold Op.intDiv
    rw [if_neg (by omega)]
    have h1 : v.tmod ((m + 1 : Nat) : Int) = ((v.toNat % (m + 1) : Nat) : Int) := by
      obtain ⟨n, rfl⟩ := Int.eq_ofNat_of_zero_le hv
      rfl
    rw [h1]; rfl
  rw [e]; rfl
theorem frz_bp {x : AV} {ps : List Int} (h : BP x ps) (id : Nat) (vs : List AV) : frz id vs x = x := by
  rcases h with ⟨_, rfl⟩ | ⟨fl, rfl⟩
  · rfl
  · simp only [frz]
    congr 1
    rw [frzL_eq, List.map_map]
    congr 1
theorem ty50 : ∃ i, E0.ty 73 = some i ∧ isAggD i.desc = false := by
  have h : (E0.ty 73).map (fun i => isAggD i.desc) = some false := by kernel_rfl
  obtain ⟨i, h1, h2⟩ := Option.map_eq_some_iff.1 h
  exact ⟨i, h1, h2⟩
theorem load50 {st : St} {ps : List Int} {k : Nat} {v : Int} (h : ps[k]? = some v) : loadA E0 st 73 (.iptr ((ps.map u16).drop (k * 1))) = some (u16 v) := by
  obtain ⟨i, h1, h2⟩ := ty50
  simp only [loadA]
  refine plainT h1 h2 ?_
  rw [List.getElem?_drop, Nat.mul_one, Nat.add_zero, List.getElem?_map, h]
  rfl
structure CrI (st0 : St) (d : Nat) (fv : AV) (s : RS) (ps : List Int) (i : Nat) (p : St × List RF) : Prop where
  rest : RestF st0 p.1 (d :: fid fv)
  rd : RD p.1 d fv { s with F := p.2 }
  good : RGood p.2
  keys : p.2.map key = crL ps 0 ((s.F.take i).map key) ++ (s.F.drop i).map key
  used : usedR p.2 ≤ usedR s.F
def GK (T : Tm) : List AV := [T.get 0, T.get 1, T.get 4, T.get 5]
theorem used_set {F : List RF} {i : Nat} {g g' : RF} (h : F[i]? = some g) (hle : g'.lb.length + g'.ob.length ≤ g.lb.length + g.ob.length) : usedR (F.set i g') ≤ usedR F := by
  have hlt := (List.getElem?_eq_some_iff.1 h).1
  have e1 : F = F.take i ++ g :: F.drop (i + 1) := by
    conv => lhs; rw [← List.take_append_drop i F, drop_at h]
  have e2 : F.set i g' = F.take i ++ g' :: F.drop (i + 1) := by rw [List.set_eq_take_append_cons_drop, if_pos hlt]
  rw [e2]
  conv => rhs; rw [e1]
  unfold usedR
  simp only [List.map_append, List.map_cons, List.sum_append, List.sum_cons]
  omega
end
section
set_option maxRecDepth 4000
end
section
set_option maxRecDepth 100000
noncomputable def pcP (i : Nat) : Code := match Tryd.f13.body with
  | some (.seq (.seq r0 c0) (.seq r1 (.seq (.seq r2 (.block 0 (.loop b))) r16))) => [r0, c0, r1, r2, b, r16].getD i .skip
  | _ => .skip
theorem body30 : Tryd.f13.body = some (.seq (.seq (pcP 0) (pcP 1)) (.seq (pcP 2) (.seq (.seq (pcP 3) (.block 0 (.loop (pcP 4)))) (pcP 5)))) := by kernel_rfl
noncomputable def pcEv (i : Nat) (l : List (Nat × AV)) (st : St) (x : List Or) := (evS Tryd.prog E0 noOv noS 100000 [6027, 16, 2017, 2018, 2022, 2024, 5000, 2026, 2029, 30, 32, 36, 2039, 2040, 41, 43, 2044, 46, 2048, 2050, 52, 2054, 56, 2057, 2060, 8000, 69] (pcP i) ⟨76, l, []⟩ st x).map fun q => (q.1, q.2.1.n, [q.2.1.get 0, q.2.1.get 1, q.2.1.get 4, q.2.1.get 11, q.2.1.get 13, q.2.1.get 14, q.2.1.get 15], q.2.2.1, q.2.2.2.2)
abbrev pcT (d : Nat) (x : AV) (k : Nat) (nv : AV) (len i : Nat) : List (Nat × AV) := [(0, .ptr d 0), (1, x), (4, i64 k), (13, nv), (14, i64 len), (15, i64 i)]
section
variable (d m r len i k k1 i1 np a w rl : Nat) (fl rf g2 gp : Bool) (x nv v l : AV) (cs c2 ps : List AV) (n : ByteArray) (last y e p l1 w0 : Int) (st s1 s2 s3 s4 : St)
theorem pc_0 : pcEv 0 [(0, .ptr d 0), (1, x)] st [] = some (.normal, 76, [.ptr d 0, x, .undef, FF, .undef, .undef, .undef], st, []) := by kernel_rfl
theorem pc_1 : pcEv 1 [(0, .ptr d 0), (1, x), (11, FF)] st [] = some (.normal, 76, [.ptr d 0, x, .undef, FF, .undef, .undef, .undef], st, []) := by kernel_rfl
theorem pc_2 : pcEv 2 [(0, .ptr d 0), (1, x)] st [] = some (.normal, 76, [.ptr d 0, x, i64 0, .undef, .undef, .undef, .undef], st, []) := by kernel_rfl
theorem pc_3N : pcEv 3 [(0, .ptr d 0), (1, x), (4, i64 0)] st [.eff .nils (fun _ => s1)] = some (.normal, 76, [.ptr d 0, x, i64 0, .undef, .nils, i64 0, i64 0], s1, [obC 27 [.ptr d 0] st .nils s1]) := by kernel_rfl
theorem pc_3S : pcEv 3 [(0, .ptr d 0), (1, x), (4, i64 0)] st [.eff (.sl r 1 0 len rf) (fun _ => s1)] = some (.normal, 76, [.ptr d 0, x, i64 0, .undef, .sl r 1 0 len rf, i64 len, i64 0], s1, [obC 27 [.ptr d 0] st (.sl r 1 0 len rf) s1]) := by kernel_rfl
theorem pc_5 : pcEv 5 [(0, .ptr d 0)] st [.eff .undef (fun _ => s1), .eff .undef (fun _ => s2)] = some (.normal, 76, [.ptr d 0, .undef, .undef, .undef, .undef, .undef, .undef], s2, [storeA E0 st 3 (.ptr d 2) (i64 0) = some s1, storeA E0 s1 4 (.ptr d 3) FF = some s2]) := by kernel_rfl
theorem pc_end : pcEv 4 (pcT d x k nv len i) st [FF] = some (.exit 0, 76, [.ptr d 0, x, i64 k, .undef, nv, i64 len, i64 i], st, [bo (ltN i len) = FF]) := by kernel_rfl
def pcH (d m r len i : Nat) (n : ByteArray) (v dv : AV) (x last y : Int) (st s1 : St) : Ob := [bo (ltN i len) = TT, 0 ≤ (i : Int) ∧ (i : Int) < len, obL st 9 (.ptr r (0 + i * 1)) (str n), obL st 66 (.ptr d 0) (.mp m), obK st m n false v, storeA E0 (zSt st) 72 (.ptr st.next 0) v = some s1, obL s1 33 (.ptr st.next 0) dv, obL s1 3 (.ptr st.next 1) (i64 last), i64 (subN x last) = i64 y]
def pcX (m : Nat) (n : ByteArray) (v dv : AV) (last y : Int) (s1 : St) : List Or := [TT, .eff (str n) id, .eff (.mp m) id, .eff v id, .eff .undef (fun _ => s1), .eff dv id, .eff (i64 last) id, i64 y]
theorem pc_skipN : pcEv 4 (pcT d x k (.sl r 1 0 len rf) len i) st (pcX m n v .nils last y s1 ++ [.av TT, .av (i64 i1)]) = some (.normal, 76, [.ptr d 0, x, i64 k, .undef, .sl r 1 0 len rf, i64 len, i64 i1], s1, pcH d m r len i n v .nils 0 last y st s1 ++ [bo (eqN y 0) = TT, i64 (addN i 1) = i64 i1]) := by kernel_rfl
theorem pc_skipI : pcEv 4 (pcT d x k (.sl r 1 0 len rf) len i) st (pcX m n v (.imm 1 a fl cs) last y s1 ++ [.av TT, .av (i64 i1)]) = some (.normal, 76, [.ptr d 0, x, i64 k, .undef, .sl r 1 0 len rf, i64 len, i64 i1], s1, pcH d m r len i n v (.imm 1 a fl cs) a last y st s1 ++ [bo (eqN y 0) = TT, i64 (addN i 1) = i64 i1]) := by kernel_rfl
def pcO (d m k1 i1 a0 : Nat) (n : ByteArray) (dv dv2 l : AV) (w : Nat) (k i last w0 e : Int) (s1 s2 s3 s4 : St) : Ob := [i64 (addN k 1) = i64 k1, obL s1 33 (.ptr a0 0) dv, obL s1 3 (.ptr a0 1) (i64 last), i64 (addN last w0) = i64 e, obL s1 3 (.ptr a0 1) (i64 last), i64 (addN last w0) = i64 e, sliceA E0 s1 33 dv none (some (i64 e)) (some (i64 e)) = some dv2 ∧ s1 = s1, storeA E0 s1 33 (.ptr a0 0) dv2 = some s2, obL s2 33 (.ptr a0 0) dv2, storeA E0 s2 3 (.ptr a0 1) (i64 w) = some s3] ++ obU d a0 m s3 n l s4 ++ [i64 (addN i 1) = i64 i1]
def pcY (m k1 i1 : Nat) (dv dv2 l : AV) (last e : Int) (s2 s3 s4 : St) : List Or := [i64 k1, .eff dv id, .eff (i64 last) id, i64 e, .eff (i64 last) id, i64 e, .eff dv2 id, .eff .undef (fun _ => s2), .eff dv2 id, .eff .undef (fun _ => s3), .eff (.mp m) id, .eff l id, .eff .undef (fun _ => s4), i64 i1]
theorem pc_noN : pcEv 4 (pcT d .nils k (.sl r 1 0 len rf) len i) st (pcX m n v (.imm 1 a fl cs) last y s1 ++ [.av FF, .av FF] ++ pcY m k1 i1 (.imm 1 a fl cs) (.imm 1 w g2 c2) l last e s2 s3 s4) = some (.normal, 76, [.ptr d 0, .nils, i64 k1, .undef, .sl r 1 0 len rf, i64 len, i64 i1], s4, pcH d m r len i n v (.imm 1 a fl cs) a last y st s1 ++ [bo (eqN y 0) = FF, bo (ltN k 0) = FF] ++ pcO d m k1 i1 st.next n (.imm 1 a fl cs) (.imm 1 w g2 c2) l w k i last 0 e s1 s2 s3 s4) := by kernel_rfl
theorem pc_noI : pcEv 4 (pcT d (.imm 1 np gp ps) k (.sl r 1 0 len rf) len i) st (pcX m n v (.imm 1 a fl cs) last y s1 ++ [.av FF, .av FF] ++ pcY m k1 i1 (.imm 1 a fl cs) (.imm 1 w g2 c2) l last e s2 s3 s4) = some (.normal, 76, [.ptr d 0, .imm 1 np gp ps, i64 k1, .undef, .sl r 1 0 len rf, i64 len, i64 i1], s4, pcH d m r len i n v (.imm 1 a fl cs) a last y st s1 ++ [bo (eqN y 0) = FF, bo (ltN k np) = FF] ++ pcO d m k1 i1 st.next n (.imm 1 a fl cs) (.imm 1 w g2 c2) l w k i last 0 e s1 s2 s3 s4) := by kernel_rfl
theorem pc_noS : pcEv 4 (pcT d (.sl rl 1 0 np gp) k (.sl r 1 0 len rf) len i) st (pcX m n v (.imm 1 a fl cs) last y s1 ++ [.av FF, .av FF] ++ pcY m k1 i1 (.imm 1 a fl cs) (.imm 1 w g2 c2) l last e s2 s3 s4) = some (.normal, 76, [.ptr d 0, .sl rl 1 0 np gp, i64 k1, .undef, .sl r 1 0 len rf, i64 len, i64 i1], s4, pcH d m r len i n v (.imm 1 a fl cs) a last y st s1 ++ [bo (eqN y 0) = FF, bo (ltN k np) = FF] ++ pcO d m k1 i1 st.next n (.imm 1 a fl cs) (.imm 1 w g2 c2) l w k i last 0 e s1 s2 s3 s4) := by kernel_rfl
theorem pc_pickI : pcEv 4 (pcT d (.imm 1 np gp ps) k (.sl r 1 0 len rf) len i) st (pcX m n v (.imm 1 a fl cs) last y s1 ++ [.av FF, .av TT, .eff (u16 p) id, .av (i64 p), .av (i64 l1), .eff (i64 w0) id] ++ pcY m k1 i1 (.imm 1 a fl cs) (.imm 1 w g2 c2) l last e s2 s3 s4) = some (.normal, 76, [.ptr d 0, .imm 1 np gp ps, i64 k1, .undef, .sl r 1 0 len rf, i64 len, i64 i1], s4, pcH d m r len i n v (.imm 1 a fl cs) a last y st s1 ++ [bo (eqN y 0) = FF, bo (ltN k np) = TT, 0 ≤ (k : Int) ∧ (k : Int) < np, obL s1 73 (.iptr (ps.drop (k * 1))) (u16 p), i64 (IntKind.i64.wrap p) = i64 p, i64 (addN y 1) = i64 l1, remP p l1 (i64 w0) s1] ++ pcO d m k1 i1 st.next n (.imm 1 a fl cs) (.imm 1 w g2 c2) l w k i last w0 e s1 s2 s3 s4) := by kernel_rfl
theorem pc_pickS : pcEv 4 (pcT d (.sl rl 1 0 np gp) k (.sl r 1 0 len rf) len i) st (pcX m n v (.imm 1 a fl cs) last y s1 ++ [.av FF, .av TT, .eff (u16 p) id, .av (i64 p), .av (i64 l1), .eff (i64 w0) id] ++ pcY m k1 i1 (.imm 1 a fl cs) (.imm 1 w g2 c2) l last e s2 s3 s4) = some (.normal, 76, [.ptr d 0, .sl rl 1 0 np gp, i64 k1, .undef, .sl r 1 0 len rf, i64 len, i64 i1], s4, pcH d m r len i n v (.imm 1 a fl cs) a last y st s1 ++ [bo (eqN y 0) = FF, bo (ltN k np) = TT, 0 ≤ (k : Int) ∧ (k : Int) < np, obL s1 73 (.ptr rl (0 + k * 1)) (u16 p), i64 (IntKind.i64.wrap p) = i64 p, i64 (addN y 1) = i64 l1, remP p l1 (i64 w0) s1] ++ pcO d m k1 i1 st.next n (.imm 1 a fl cs) (.imm 1 w g2 c2) l w k i last w0 e s1 s2 s3 s4) := by kernel_rfl
end
end
section
set_option maxRecDepth 4000
open Go.Sort
/-! ### names in order -/
def nb (n : ByteArray) : List UInt8 := n.data.toList
theorem nb_inj {a b : ByteArray} (h : nb a = nb b) : a = b := by
  cases a with
  | mk x => cases b with
    | mk y =>
      have : x.toList = y.toList := h
      rw [Array.toList_inj.1 this]
theorem nb_ba (n : ByteArray) : (⟨(nb n).toArray⟩ : ByteArray) = n := by
  cases n with
  | mk x => show (⟨x.toList.toArray⟩ : ByteArray) = _; rw [Array.toArray_toList]
theorem keysB_ent : ∀ L : List PF, keysB (L.map ent) = some (L.map fun f => nb f.name)
  | [] => rfl
  | f :: r => by
    simp only [List.map_cons, ent, keysB, keysB_ent r, Option.map_some]
    rfl
theorem insB_sorted (a : List UInt8) : ∀ l : List (List UInt8), l.Pairwise (fun a b => Go.leB a b = true) → (insB a l).Pairwise (fun a b => Go.leB a b = true)
  | [], _ => by simp [insB]
  | b :: r, h => by
    obtain ⟨h1, h2⟩ := List.pairwise_cons.1 h
    unfold insB
    split
    · rename_i hab
      refine List.pairwise_cons.2 ⟨fun c hc => ?_, h⟩
      rcases List.mem_cons.1 hc with rfl | hc
      · exact hab
      · have := h1 c hc
        simp only [Go.leB, decide_eq_true_eq] at hab this ⊢
        exact List.le_trans hab this
    · rename_i hab
      refine List.pairwise_cons.2 ⟨fun c hc => ?_, insB_sorted a r h2⟩
      rcases List.mem_cons.1 ((insB_perm a r).mem_iff.1 hc) with rfl | hc
      · simp only [Go.leB, decide_eq_true_eq] at hab ⊢
        exact (List.le_total _ _).resolve_left hab
      · exact h1 c hc
theorem sortB_sorted : ∀ l : List (List UInt8), (sortB l).Pairwise (fun a b => Go.leB a b = true)
  | [] => .nil
  | a :: r => insB_sorted a _ (sortB_sorted r)
theorem pairB_of : ∀ l : List (List UInt8), l.Pairwise (fun a b => Go.leB a b = true) → pairB l = true
  | [], _ => rfl
  | a :: r, h => by
    obtain ⟨h1, h2⟩ := List.pairwise_cons.1 h
    simp only [pairB, Bool.and_eq_true, List.all_eq_true]
    exact ⟨h1, pairB_of r h2⟩
/-- names in order, each once -/
def Ord (R : List ByteArray) : Prop := R.Pairwise fun a b => nb a < nb b
theorem Ord.le {R : List ByteArray} (h : Ord R) : (R.map nb).Pairwise (fun a b => Go.leB a b = true) := by
  refine List.Pairwise.map nb (fun a b hab => ?_) h
  simp only [Go.leB, decide_eq_true_eq]
  exact List.le_of_lt hab
theorem Ord.nodup {R : List ByteArray} (h : Ord R) : (R.map nb).Nodup :=
  List.Pairwise.map nb (fun a b hab e => by rw [e] at hab; exact List.lt_irrefl _ hab) h
theorem sort_eq {L : List PF} {R : List ByteArray} (hp : (L.map PF.name).Perm R) (ho : Ord R) : sortB (L.map fun f => nb f.name) = R.map nb := by
  have h1 : (L.map fun f => nb f.name).Perm (R.map nb) := by
    have := hp.map nb
    rw [List.map_map] at this
    exact this
  refine List.Perm.eq_of_pairwise (le := fun a b => Go.leB a b = true) (fun a b _ _ h1 h2 => ?_) (sortB_sorted _) ho.le ((sortB_perm _).trans h1)
  simp only [Go.leB, decide_eq_true_eq] at h1 h2
  exact List.le_antisymm h1 h2
def namesV (st : St) (R : List ByteArray) : AV := match R with | [] => .nils | _ => .sl st.next 1 0 R.length false
def namesS (st : St) (R : List ByteArray) : St := match R with | [] => st | _ => st.push (.row (R.map str) 9)
theorem names_ok {st : St} {d m : Nat} {s : PS} (hp : PDs st d m s) {R : List ByteArray} (hperm : (s.L.map PF.name).Perm R) (ho : Ord R) (hlen : R.length ≤ 1000000) (hmay : ∀ n ∈ R, mayS n) : obC 27 [.ptr d 0] st (namesV st R) (namesS st R) := by
  obtain ⟨bs, c, hm⟩ := hp.map
  have hs := sort_eq hperm ho
  have hL : s.L.length = R.length := by have := hperm.length_eq; simpa using this
  have hnd : (s.L.map fun f => nb f.name).Nodup := by
    have h1 : (s.L.map fun f => nb f.name).Perm (R.map nb) := by
      have := hperm.map nb
      rw [List.map_map] at this
      exact this
    exact h1.nodup_iff.2 ho.nodup
  have hall : ((s.L.map fun f => nb f.name).all fun l => decide (l.length ≤ 1000000)) = true := by
    simp only [List.all_eq_true, List.mem_map, decide_eq_true_eq]
    rintro l ⟨f, hf, rfl⟩
    have := (hmay f.name (hperm.mem_iff.1 (List.mem_map.2 ⟨f, hf, rfl⟩))).2.1
    show f.name.data.toList.length ≤ _
    rw [Array.length_toList]
    have : f.name.data.size = f.name.size := rfl
    omega
  have hov : namesOv [.ptr d 0] st = some (namesV st R, namesS st R) := by
    have hrow := hp.row
    simp only [namesOv, hrow, hm, keysB_ent, hs]
    rw [if_pos ⟨pairB_of _ ho.le, hnd, hall, by simp; omega⟩]
    · cases R with
      | nil => rfl
      | cons a r =>
        simp only [List.map_cons, namesV, namesS, List.length_map]
        rw [hL]
        have e : List.map (fun l => (AV.val (.string ⟨l.toArray⟩))) (List.map nb r) = r.map str := by
          rw [List.map_map]
          exact List.map_congr_left fun x _ => by simp only [Function.comp, nb_ba]
        rw [e, nb_ba]
  refine (namesOv_ok namesC hov).mono fun a st' h => ?_
  simp only [Prod.mk.injEq] at h
  exact ⟨h.1, h.2⟩
end
end Go.Proofs.YtalchcdenhfmiaaDoor.E
