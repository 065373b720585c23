/- wal.Split over the abstract machine: the reader's runs and contracts, and that it comes to the records that the bytes begin with. No condition beyond those that the lemmas name. -/
import Derived.Test.YtemakfepcogeiaaDoorGl
import Derived.Test.YtemakfepcogeiaaDoorEs
namespace Go.Proofs.YtemakfepcogeiaaDoor.E
open Go Go.Proofs
set_option maxRecDepth 100000
theorem crcMoreI_ok (c : Int) (len : Nat) (full : Bool) (st : St) (cells : List AV) (xs : List Int) (hlen : len = xs.length) (hl0 : len < 1000000000)
    (hxs : ∀ i, i < len → cells[i]? = some (.val (.int .u8 (xs.getD i 0)))) :
    ACalls Tryd.prog 22 [.val (.int .u32 c), .imm 1 len full cells] (fun r st' => (r, st') = (.val (.int .u32 (crcMore c xs)), st)) st := by
  have hE := envOf_ok (P := Tryd.prog) rfl
  refine ACalls.body (E := E0) hE Tryd.func22 rfl ?_
  have step : ∀ {id : Nat} {ops : Array Oper} {y : Code} {Q : Exit → Tm → St → Prop} {T : Tm} {st : St}, AOps Tryd.prog E0 ops (thenA (AW Tryd.prog y Q) Q) ops.toList T st → AW Tryd.prog (.seq (.region id ops false) y) Q T st := fun h => .seq (.region hE h)
  have f81 : Tryd.f22.ntmps = 33 := rfl
  have hla : lenA E0 24 (.imm 1 len full cells) = some (.val (.int .i64 (len : Nat))) := by
    unfold lenA; rw [ty28]
  refine step ?_
  simp [AOps, wantedA, evOp, pureA, Tm.eval, cv, cv0, thenA, enterT, zipT, Tm.fits]
  refine step ?_
  simp [AOps, wantedA, evOp, pureA, Tm.eval, thenA, Tm.fits, Tm.put, Tm.get, E.look, u_xor]
  refine .seq (step ?_)
  simp [AOps, wantedA, evOp, pureA, Tm.eval, cv, cv0, thenA, Tm.fits, Tm.put, Tm.get, E.look, hla]
  refine .block (.loop (fun n T' st' => st' = st ∧ T'.n = 33 ∧ T'.get 10 = .imm 1 len full cells ∧ T'.get 11 = .val (.int .i64 (len : Nat)) ∧
      ∃ k : Nat, k ≤ len ∧ n = len - k ∧ T'.get 12 = .val (.int .i64 (k : Nat)) ∧ T'.get 5 = .val (.int .u32 ((xs.take k).foldl crcByte (valI (Op.intBits .xor .u32 IntKind.u32.max c))))) len ?_ ?_)
  · exact ⟨rfl, rfl, rfl, rfl, 0, Nat.zero_le _, rfl, rfl, rfl⟩
  · rintro n T' st' ⟨rfl, hTn, hT10, hT11, k, hk, rfl, hT12, hT5⟩
    refine step ?_
    simp [AOps, wantedA, evOp, pureA, Tm.eval, hT12, hT11, b_lss, Tm.fits, hTn, thenA]
    by_cases hlt : k < len
    · refine .seq (.cond (b := true) (by simp [Tm.eval, hlt]) ?_)
      simp only [if_true]
      refine .skip ?_
      simp only [thenA]
      have hx := hxs k hlt
      refine .seq (.block (step ?_))
      have hload : loadA E0 st' 5 (.iptr (cells.drop k)) = some (.val (.int .u8 (xs.getD k 0))) := by
        simp only [loadA, partA, ty5, isAggD, Bool.false_eq_true, if_false, List.getElem?_drop]
        exact hx
      simp [-List.getD_eq_getElem?_getD, AOps, wantedA, evOp, pureA, Tm.eval, hT12, hT10, Tm.fits, hTn, thenA, indexAddrA, ty28, tySize, ty5, hlt, hload]
      refine step ?_
      simp [-List.getD_eq_getElem?_getD, AOps, wantedA, evOp, pureA, Tm.eval, hT5, Tm.fits, hTn, thenA, ty5, ty88, b_xor]
      refine step ?_
      simp [-List.getD_eq_getElem?_getD, AOps, wantedA, evOp, pureA, Tm.eval, cv, cv0, Tm.fits, hTn, thenA]
      generalize hnk : (List.foldl crcByte (valI (Op.intBits BinOp.xor IntKind.u32 IntKind.u32.max c)) (List.take k xs)) = nk
      refine .block (.loop (fun m T2 st2 => st2 = st' ∧ T2.n = 33 ∧ T2.get 10 = .imm 1 len full cells ∧ T2.get 11 = .val (.int .i64 (len : Nat)) ∧ T2.get 12 = .val (.int .i64 (k : Nat)) ∧
        ∃ (v : Int) (j : Nat), j ≤ 8 ∧ m = 8 - j ∧ T2.get 20 = .val (.int .i64 (j : Nat)) ∧ T2.get 5 = .val (.int .u32 v) ∧ iter8 crcBit (8 - j) v = crcByte nk (xs.getD k 0)) 8 ?_ ?_)
      · exact ⟨rfl, hTn, hT10, hT11, hT12, _, 0, by omega, rfl, rfl, rfl, rfl⟩
      · rintro m T2 st2 ⟨rfl, hn2, h10, h11, h12, v, j, hj, rfl, h20, h5, hit⟩
        refine step ?_
        simp [-List.getD_eq_getElem?_getD, AOps, wantedA, evOp, pureA, Tm.eval, cv, cv0, h20, b_lss, Tm.fits, hn2, thenA]
        by_cases hj8 : j < 8
        · refine .seq (.cond (b := true) (by simp [Tm.eval]; omega) ?_)
          simp only [if_true]
          refine .skip ?_
          simp only [thenA]
          refine .seq (.block (.region hE ?_))
          simp [-List.getD_eq_getElem?_getD, AOps, wantedA, evOp, pureA, Tm.eval, cv, cv0, h5, b_xor, b_and, b_shr, u_neg, Tm.fits, hn2, thenA, blockA]
          refine .region hE ?_
          have hadd : binA E0 .add 3 (.val (.int .i64 (j : Nat))) (.val (.int .i64 1)) = some (.val (.int .i64 ((j + 1 : Nat) : Int))) := b_add j 1 (by omega)
          simp [-List.getD_eq_getElem?_getD, -Int.natCast_add, AOps, wantedA, evOp, pureA, Tm.eval, cv, cv0, h20, hadd, Tm.fits, hn2, thenA]
          refine ⟨8 - (j + 1), by omega, h10, h11, h12, _, j + 1, by omega, rfl, by simp, rfl, ?_⟩
          rw [← hit, show 8 - j = (8 - (j + 1)) + 1 by omega]
          rfl
        · refine .seq (.cond (b := false) (by simp [Tm.eval]; omega) ?_)
          simp only [Bool.false_eq_true, if_false]
          refine .exit ?_
          obtain rfl : j = 8 := by omega
          simp only [Nat.sub_self, iter8] at hit
          simp only [thenA, blockA, if_true]
          refine .region hE ?_
          have hadd : binA E0 .add 3 (.val (.int .i64 (k : Nat))) (.val (.int .i64 1)) = some (.val (.int .i64 ((k + 1 : Nat) : Int))) := b_add k 1 (by omega)
          simp [-List.getD_eq_getElem?_getD, -Int.natCast_add, AOps, wantedA, evOp, pureA, Tm.eval, cv, cv0, h12, hadd, Tm.fits, hn2, thenA]
          refine ⟨len - (k + 1), by omega, h10, h11, k + 1, by omega, rfl, by simp, ?_⟩
          rw [h5, hit, List.take_add_one, List.foldl_append, hnk]
          rw [List.getD_eq_getElem?_getD]
          have : k < xs.length := by omega
          rw [List.getElem?_eq_getElem this]
          rfl
    · refine .seq (.cond (b := false) (by simp [Tm.eval, hlt]) ?_)
      simp only [Bool.false_eq_true, if_false]
      refine .exit ?_
      simp only [thenA, blockA, if_true]
      obtain rfl : k = len := by omega
      refine step ?_
      simp [AOps, wantedA, evOp, pureA, Tm.eval, Tm.fits, thenA, hTn, hT5, u_xor]
      refine .ret ?_
      refine ⟨[_], rfl, ?_⟩
      simp only [oneOrTup]
      have : xs.take k = xs := by rw [hlen]; exact List.take_length
      rw [this]
      exact ⟨rfl, trivial⟩

abbrev u8 (n : Int) : AV := .val (.int .u8 n)
abbrev u16 (n : Int) : AV := .val (.int .u16 n)
abbrev u32 (n : Int) : AV := .val (.int .u32 n)
abbrev u64 (n : Int) : AV := .val (.int .u64 n)
abbrev i64 (n : Int) : AV := .val (.int .i64 n)
abbrev TT : AV := .val (.bool true)
abbrev FF : AV := .val (.bool false)
def bo (b : Bool) : AV := .val (.bool b)
def boolI (s : Sem Value) : Bool := match s with | .pure (.bool b) => b | _ => false
def ltN (a b : Int) : Bool := boolI (binOp .lss 3 (.int .i64 a) (.int .i64 b))
def gtN (a b : Int) : Bool := boolI (binOp .gtr 3 (.int .i64 a) (.int .i64 b))
def ltU (a b : Int) : Bool := boolI (binOp .lss 33 (.int .u64 a) (.int .u64 b))
def gtU (a b : Int) : Bool := boolI (binOp .gtr 33 (.int .u64 a) (.int .u64 b))
def neU (a b : Int) : Bool := boolI (binOp .neq 33 (.int .u64 a) (.int .u64 b))
def shlU (a b : Int) : Int := valI (binOp .shl 33 (.int .u64 a) (.int .u64 b))
def orU (a b : Int) : Int := valI (binOp .or 33 (.int .u64 a) (.int .u64 b))
def shrU (a b : Int) : Int := valI (binOp .shr 33 (.int .u64 a) (.int .u64 b))
def foldN (l : List Int) : Int := l.foldl (fun n b => orU (shlU n 8) (IntKind.u64.wrap b)) 0
def noOv : OvP := fun _ _ _ => none
def sitesT : Nat → List Nat
  | 4 => [1006, 1010, 2031, 6008, 6009]
  | 8 => [1014, 2036]
  | 11 => [6012, 2037, 41]
  | 12 => [2015, 2020, 2021, 2026, 2028, 5000]
  | 21 => [2007]
  | 23 => [2012, 2023, 1015, 1018]
  | _ => []
def obL (st : St) (t : Nat) (p a : AV) : Prop := loadA E0 st t p = some a ∧ st = st
noncomputable def takeEv (r : Nat) (n : Int) (st : St) (x : List Or) := (evCallS Tryd.prog E0 noOv sitesT 100000 12 [.ptr r 0, i64 n] st x).map fun q => (q.1, q.2.1, q.2.2.2)
theorem takeRun (r idb off len : Nat) (full : Bool) (n m : Int) (st : St) (a7 : AV) (f1 f2 f3 : St → St) (lf : AV) : takeEv r n st [.eff TT id, FF, .eff (.sl idb 1 off len full) id, FF, .eff a7 f1, .eff (.sl idb 1 off len full) id, .eff (i64 m) f2, .eff (.sl idb 1 off len full) id, .eff lf id, .eff (.tup []) f3]
   = some (.tup [a7, i64 0], f3 (f2 (f1 st)), [obL st 4 (.ptr r 1) TT, bo (ltN n 0) = FF, obL st 24 (.ptr r 0) (.sl idb 1 off len full), bo (gtN n len) = FF, makeSliceA E0 st 24 (i64 n) (i64 n) = some (a7, f1 st), obL (f1 st) 24 (.ptr r 0) (.sl idb 1 off len full),
     copyA E0 (f1 st) 24 24 a7 (.sl idb 1 off len full) = some (i64 m, f2 (f1 st)), obL (f2 (f1 st)) 24 (.ptr r 0) (.sl idb 1 off len full), sliceA E0 (f2 (f1 st)) 24 (.sl idb 1 off len full) (some (i64 n)) none none = some lf ∧ f2 (f1 st) = f2 (f1 st), storeA E0 (f2 (f1 st)) 24 (.ptr r 0) lf = some (f3 (f2 (f1 st)))]) := by kernel_rfl
theorem takeShort (r idb off len : Nat) (full : Bool) (n : Int) (st : St) : takeEv r n st [.eff TT id, FF, .eff (.sl idb 1 off len full) id, TT] = some (.tup [.nils, i64 4], st, [obL st 4 (.ptr r 1) TT, bo (ltN n 0) = FF, obL st 24 (.ptr r 0) (.sl idb 1 off len full), bo (gtN n len) = TT]) := by kernel_rfl
theorem takeShortI (r : Nat) (full : Bool) (n : Int) (st : St) : takeEv r n st [.eff TT id, FF, .eff (.imm 1 0 full []) id, TT] = some (.tup [.nils, i64 4], st, [obL st 4 (.ptr r 1) TT, bo (ltN n 0) = FF, obL st 24 (.ptr r 0) (.imm 1 0 full []), bo (gtN n 0) = TT]) := by kernel_rfl
theorem takeShortN (r : Nat) (n : Int) (st : St) : takeEv r n st [.eff TT id, FF, .eff .nils id, TT] = some (.tup [.nils, i64 4], st, [obL st 4 (.ptr r 1) TT, bo (ltN n 0) = FF, obL st 24 (.ptr r 0) .nils, bo (gtN n 0) = TT]) := by kernel_rfl
noncomputable def numEv (r : Nat) (st : St) (x : List Or) := (evCallS Tryd.prog E0 noOv sitesT 100000 11 [.ptr r 0, i64 4] st x).map fun q => (q.1, q.2.1, q.2.2.2)
/-- ready(0) in it -/
def obR (st : St) (r : Nat) (left : AV) (len : Int) : Ob := [obL st 4 (.ptr r 1) TT, bo (ltN 0 0) = FF, obL st 24 (.ptr r 0) left, bo (gtN 0 len) = FF]
def obC (f : Nat) (args : List AV) (st : St) (a : AV) (st' : St) : Prop := ACalls Tryd.prog f args (fun r s => r = a ∧ s = st') st
theorem numRun (r idb off len new : Nat) (full : Bool) (st : St) (f : St → St) (b0 b1 b2 b3 s : Int) : numEv r st [.eff TT id, FF, .eff (.sl idb 1 off len full) id, FF, .eff (.tup [.sl new 1 0 4 true, i64 0]) f, .eff (u8 b0) id, .eff (u8 b1) id, .eff (u8 b2) id, .eff (u8 b3) id, u64 s]
   = some (.tup [u64 s, i64 0], f st, obR st r (.sl idb 1 off len full) len ++ [obC 12 [.ptr r 0, i64 4] st (.tup [.sl new 1 0 4 true, i64 0]) (f st), obL (f st) 5 (.ptr new 0) (u8 b0), obL (f st) 5 (.ptr new 1) (u8 b1), obL (f st) 5 (.ptr new 2) (u8 b2), obL (f st) 5 (.ptr new 3) (u8 b3), u64 (foldN [b0, b1, b2, b3]) = u64 s]) := by kernel_rfl
theorem numShort (r idb off len : Nat) (full : Bool) (st : St) : numEv r st [.eff TT id, FF, .eff (.sl idb 1 off len full) id, FF, .eff (.tup [.nils, i64 4]) id]
   = some (.tup [u64 0, i64 4], st, obR st r (.sl idb 1 off len full) len ++ [obC 12 [.ptr r 0, i64 4] st (.tup [.nils, i64 4]) st]) := by kernel_rfl
theorem numShortI (r : Nat) (full : Bool) (st : St) : numEv r st [.eff TT id, FF, .eff (.imm 1 0 full []) id, FF, .eff (.tup [.nils, i64 4]) id]
   = some (.tup [u64 0, i64 4], st, obR st r (.imm 1 0 full []) 0 ++ [obC 12 [.ptr r 0, i64 4] st (.tup [.nils, i64 4]) st]) := by kernel_rfl
theorem numShortN (r : Nat) (st : St) : numEv r st [.eff TT id, FF, .eff .nils id, FF, .eff (.tup [.nils, i64 4]) id]
   = some (.tup [u64 0, i64 4], st, obR st r .nils 0 ++ [obC 12 [.ptr r 0, i64 4] st (.tup [.nils, i64 4]) st]) := by kernel_rfl
/-! ### operations on bytes, at any store -/
theorem el24 : elemA E0 24 = some (5, ⟨.int .u8, 1, 1, some (.int .u8 0)⟩, [u8 0]) := by kernel_rfl
theorem str24 : isStrTy E0 24 = false := by kernel_rfl
theorem size5 : tySize E0 5 = some 1 := by kernel_rfl
theorem make_ok (st : St) (n : Nat) (h : n ≤ 140737488355328) : makeSliceA E0 st 24 (i64 n) (i64 n) = some (.sl st.next 1 0 n true, st.push (.row (zerosA [u8 0] n) 5)) := by
  simp only [makeSliceA, el24]
  rw [if_pos ⟨by omega, by omega, by omega, by omega⟩]
  simp
theorem load_row {st : St} {id : Nat} {vs : List AV} {ty : Nat} (hg : st.get id = some (.row vs ty)) {t off : Nat} {a : AV} (h : partA E0 t vs off = some a) : loadA E0 st t (.ptr id off) = some a := by
  simp only [loadA, hg, h]
theorem part24 {vs : List AV} {off : Nat} {a : AV} (h : vs[off]? = some a) : partA E0 24 vs off = some a := by
  simp only [partA, ty28, isAggD, Bool.false_eq_true, if_false, h]
theorem part4 {vs : List AV} {off : Nat} {a : AV} (h : vs[off]? = some a) : partA E0 4 vs off = some a := by
  simp only [partA, ty4, isAggD, Bool.false_eq_true, if_false, h]
theorem part5 {vs : List AV} {off : Nat} {a : AV} (h : vs[off]? = some a) : partA E0 5 vs off = some a := by
  simp only [partA, ty5, isAggD, Bool.false_eq_true, if_false, h]
theorem zeros_len (n : Nat) : (zerosA [u8 0] n).length = n := by simp [zerosA]
theorem cells_sl {st : St} {id off len : Nat} {full : Bool} {A : List AV} {ty : Nat} (hg : st.get id = some (.row A ty)) (h : off + len ≤ A.length) : sliceCells st (.sl id 1 off len full) = some (len, (A.drop off).take len) := by
  simp only [sliceCells, hg, Nat.mul_one]
  rw [if_pos h]
theorem src_of {st : St} {x : AV} : srcA E0 st 24 x = sliceCells st x := by simp only [srcA, ty28]
theorem copy_ok {st : St} {i idb off len n : Nat} {f2 full : Bool} {A Z : List AV} {ty : Nat} (hi : st.get i = some (.row Z 5)) (hz : Z.length = n) (hl : i ∉ st.lock) (hb : st.get idb = some (.row A ty)) (ho : off + len ≤ A.length) (hn : n ≤ len) :
    copyA E0 st 24 24 (.sl i 1 0 n f2) (.sl idb 1 off len full) = some (i64 n, st.set i (.row ((A.drop off).take n) 5)) := by
  simp only [copyA, el24, src_of, cells_sl hb ho, str24, St.wget_of hi hl]
  have hlen : ((A.drop off).take len).length = len := by simp; omega
  rw [if_pos ⟨by rw [hlen]; omega, fun h => by cases h⟩, if_pos ⟨trivial, by omega⟩]
  have h1 : min len n = n := by omega
  have h2 : List.take n (List.take len (List.drop off A)) = List.take n (List.drop off A) := by rw [List.take_take, Nat.min_eq_left hn]
  have h3 : (List.take n (List.drop off A)).length = n := by simp; omega
  simp only [h1, Nat.mul_one, h2, List.take_zero, List.nil_append, h3, Nat.zero_add]
  have h4 : List.drop n Z = [] := List.drop_eq_nil_of_le (by omega)
  rw [h4, List.append_nil]
theorem slice_ok (st : St) (id off len n : Nat) (full : Bool) (hn : n ≤ len) : sliceA E0 st 24 (.sl id 1 off len full) (some (i64 n)) none none = some (if n = len then .imm 1 0 false [] else .sl id 1 (off + n) (len - n) full) := by
  have e1 : natLe (i64 n) len = some n := by
    show (if 0 ≤ (n : Int) ∧ (n : Int) ≤ len then some (n : Int).toNat else none) = some n
    rw [if_pos ⟨by omega, by omega⟩]; rfl
  have hb : boundsA len len (some (i64 n)) none none = some (n, len, len) := by
    delta boundsA
    simp only [e1]
  simp only [sliceA, ty28, size5, hb, if_true, Nat.mul_one, fullOf]
  by_cases h : n = len
  · rw [if_pos h.symm, if_pos h]
  · rw [if_neg fun e => h e.symm, if_neg h]; simp
theorem store_ok {st : St} {r : Nat} {v w b : AV} {ty : Nat} (hg : st.get r = some (.row [v, b] ty)) (hl : r ∉ st.lock) (hw : avCells w = some [w]) : storeA E0 st 24 (.ptr r 0) w = some (st.set r (.row [w, b] ty)) := by
  simp only [storeA, hw, St.wget_of hg hl, size28]
  simp
theorem ob_T {b : Bool} (h : b = true) : bo b = TT := by rw [h]; rfl
theorem ob_F {b : Bool} (h : b = false) : bo b = FF := by rw [h]; rfl
theorem ltN_eq (a b : Int) : ltN a b = decide (a < b) := rfl
theorem gtN_eq (a b : Int) : gtN a b = decide (a > b) := rfl
theorem lt_F {a b : Int} (h : b ≤ a) : bo (ltN a b) = FF := ob_F (by rw [ltN_eq]; simp; omega)
theorem lt_T {a b : Int} (h : a < b) : bo (ltN a b) = TT := ob_T (by rw [ltN_eq]; simp; omega)
theorem gt_F {a b : Int} (h : a ≤ b) : bo (gtN a b) = FF := ob_F (by rw [gtN_eq]; simp; omega)
theorem gt_T {a b : Int} (h : b < a) : bo (gtN a b) = TT := ob_T (by rw [gtN_eq]; simp; omega)
theorem run_of {o : Option (AV × St × List Or × Ob)} {a : AV} {st' : St} {ob : Ob} (h : (o.map fun q => (q.1, q.2.1, q.2.2.2)) = some (a, st', ob)) : ∃ x, o = some (a, st', x, ob) := by
  obtain ⟨⟨a1, s1, x1, o1⟩, h1, h2⟩ := Option.map_eq_some_iff.1 h
  simp only [Prod.mk.injEq] at h2
  obtain ⟨rfl, rfl, rfl⟩ := h2
  exact ⟨x1, h1⟩
theorem hE : EOK' Tryd.prog E0 := envOf_ok (P := Tryd.prog) rfl
theorem take_run {r : Nat} {n : Int} {st st' : St} {x : List Or} {a : AV} {ob : Ob} (h : takeEv r n st x = some (a, st', ob)) (hob : ob.ok) : obC 12 [.ptr r 0, i64 n] st a st' := by
  obtain ⟨x1, h1⟩ := run_of h
  exact ACalls.run hE (ov := noOv) noOv_ok h1 hob
theorem num_run {r : Nat} {st st' : St} {x : List Or} {a : AV} {ob : Ob} (h : numEv r st x = some (a, st', ob)) (hob : ob.ok) : obC 11 [.ptr r 0, i64 4] st a st' := by
  obtain ⟨x1, h1⟩ := run_of h
  exact ACalls.run hE (ov := noOv) noOv_ok h1 hob
/-- a reader's bytes: what is left -/
def LeftR (st : St) (v : AV) (bs : List AV) : Prop :=
  (bs = [] ∧ (v = .nils ∨ ∃ f, v = .imm 1 0 f [])) ∨ (bs ≠ [] ∧ ∃ id off full, ∃ B : List Int, v = .sl id 1 off bs.length full ∧ st.get id = some (.row (B.map u8) 5) ∧ (B.map u8).drop off = bs)
def takeSt (st : St) (r : Nat) (ty : Nat) (bs : List AV) (n : Nat) (lf : AV) : St := ((st.push (.row (zerosA [u8 0] n) 5)).set st.next (.row (bs.take n) 5)).set r (.row [lf, TT] ty)
theorem take_ok {st : St} {r ty : Nat} {left : AV} {bs : List AV} {n : Nat} (hw : st.wf) (hl : st.lock = []) (hr : st.get r = some (.row [left, TT] ty)) (hL : LeftR st left bs) (h0 : 0 < n) (hn : n ≤ bs.length) (hb : n ≤ 1000000) (hty : ty ≠ 5) :
    ∃ lf, obC 12 [.ptr r 0, i64 n] st (.tup [.sl st.next 1 0 n true, i64 0]) (takeSt st r ty bs n lf) ∧ LeftR (takeSt st r ty bs n lf) lf (bs.drop n) ∧ ∀ i sz o l f, lf = .sl i sz o l f → i < st.next := by
  rcases hL with ⟨rfl, _⟩ | ⟨hne, id, off, full, B, rfl, hg, hd⟩
  · simp at hn; omega
  have hav : ∀ a : AV, (a = .imm 1 0 false [] ∨ ∃ i o l f, a = .sl i 1 o l f) → avCells a = some [a] := by
    rintro a (rfl | ⟨i, o, l, f, rfl⟩) <;> rfl
  generalize hA : B.map u8 = A at hg hd
  have hlen : off + bs.length ≤ A.length := by
    have := congrArg List.length hd
    simp at this
    have : 0 < bs.length := List.length_pos_iff.2 hne
    omega
  have hid := hw _ _ hg
  have hrl := hw _ _ hr
  have hrid : r ≠ id := fun e => by
    rw [e, hg] at hr
    simp only [Option.some.injEq, AObj.row.injEq] at hr
    exact hty hr.2.symm
  refine ⟨if n = bs.length then .imm 1 0 false [] else .sl id 1 (off + n) (bs.length - n) full, ?_, ?_, ?_⟩
  · refine take_run (takeRun r id off bs.length full n n st (.sl st.next 1 0 n true) (fun s => s.push (.row (zerosA [u8 0] n) 5)) (fun s => s.set st.next (.row (bs.take n) 5)) (fun s => s.set r (.row [if n = bs.length then .imm 1 0 false [] else .sl id 1 (off + n) (bs.length - n) full, TT] ty)) (if n = bs.length then .imm 1 0 false [] else .sl id 1 (off + n) (bs.length - n) full)) ?_
    have g1 : (st.push (.row (zerosA [u8 0] n) 5)).get r = some (.row [.sl id 1 off bs.length full, TT] ty) := by rw [St.get_push, if_neg (by omega)]; exact hr
    have g2 : (st.push (.row (zerosA [u8 0] n) 5)).get id = some (.row A 5) := by rw [St.get_push, if_neg (by omega)]; exact hg
    have g3 : (st.push (.row (zerosA [u8 0] n) 5)).get st.next = some (.row (zerosA [u8 0] n) 5) := by rw [St.get_push, if_pos rfl]
    have g4 : ((st.push (.row (zerosA [u8 0] n) 5)).set st.next (.row (bs.take n) 5)).get r = some (.row [.sl id 1 off bs.length full, TT] ty) := by rw [St.get_set, if_neg (by omega)]; exact g1
    simp only [Ob.ok_cons, Ob.ok_nil, and_true]
    refine ⟨⟨load_row hr (part4 rfl), rfl⟩, lt_F (by omega), ⟨load_row hr (part24 rfl), rfl⟩, gt_F (by omega), make_ok st n (by omega), ⟨load_row g1 (part24 rfl), rfl⟩, ?_, ⟨load_row g4 (part24 rfl), rfl⟩, slice_ok _ id off bs.length n full hn, ?_⟩
    · have := copy_ok (f2 := true) (full := full) g3 (zeros_len n) (by rw [St.lock_push, hl]; simp) g2 hlen hn
      rw [hd] at this
      exact this
    · exact store_ok g4 (by simp [hl]) (by split <;> rfl)
  · by_cases he : n = bs.length
    · rw [if_pos he]
      exact .inl ⟨by rw [he]; exact List.drop_length, .inr ⟨false, rfl⟩⟩
    · rw [if_neg he]
      refine .inr ⟨fun e => ?_, id, off + n, full, B, by rw [List.length_drop], ?_, by rw [hA, ← hd, List.drop_drop]⟩
      · have := congrArg List.length e
        simp at this; omega
      · unfold takeSt
        rw [St.get_set, if_neg (fun e => hrid e.symm), St.get_set, if_neg (by omega), St.get_push, if_neg (by omega)]
        rw [hA]; exact hg
  · intro i sz o l f e
    split at e
    · cases e
    · cases e; exact hid
theorem take_short {st : St} {r ty : Nat} {left : AV} {bs : List AV} {n : Nat} (hr : st.get r = some (.row [left, TT] ty)) (hL : LeftR st left bs) (hn : bs.length < n) :
    obC 12 [.ptr r 0, i64 n] st (.tup [.nils, i64 4]) st := by
  rcases hL with ⟨rfl, rfl | ⟨f, rfl⟩⟩ | ⟨hne, id, off, full, A, rfl, hg, hd⟩
  · refine take_run (takeShortN r n st) ?_
    simp only [Ob.ok_cons, Ob.ok_nil, and_true]
    exact ⟨⟨load_row hr (part4 rfl), rfl⟩, lt_F (by omega), ⟨load_row hr (part24 rfl), rfl⟩, gt_T (by simp at hn; omega)⟩
  · refine take_run (takeShortI r f n st) ?_
    simp only [Ob.ok_cons, Ob.ok_nil, and_true]
    exact ⟨⟨load_row hr (part4 rfl), rfl⟩, lt_F (by omega), ⟨load_row hr (part24 rfl), rfl⟩, gt_T (by simp at hn; omega)⟩
  · refine take_run (takeShort r id off bs.length full n st) ?_
    simp only [Ob.ok_cons, Ob.ok_nil, and_true]
    exact ⟨⟨load_row hr (part4 rfl), rfl⟩, lt_F (by omega), ⟨load_row hr (part24 rfl), rfl⟩, gt_T (by omega)⟩
theorem takeSt_get {st : St} {r ty : Nat} {bs : List AV} {n : Nat} {lf : AV} (i : Nat) : (takeSt st r ty bs n lf).get i = if i = r then some (.row [lf, TT] ty) else if i = st.next then some (.row (bs.take n) 5) else st.get i := by
  unfold takeSt
  rw [St.get_set, St.get_set, St.get_push]
  by_cases h : i = r
  · rw [if_pos h, if_pos h]
  · rw [if_neg h, if_neg h]
    by_cases h2 : i = st.next
    · rw [if_pos h2, if_pos h2]
    · rw [if_neg h2, if_neg h2, if_neg h2]
def num4 (bs : List Int) : Int := foldN (bs.take 4)
theorem num_ok {st : St} {r ty : Nat} {left : AV} {bs : List Int} (hw : st.wf) (hl : st.lock = []) (hr : st.get r = some (.row [left, TT] ty)) (hL : LeftR st left (bs.map u8)) (hn : 4 ≤ bs.length) (hty : ty ≠ 5) :
    ∃ lf, obC 11 [.ptr r 0, i64 4] st (.tup [u64 (num4 bs), i64 0]) (takeSt st r ty (bs.map u8) 4 lf) ∧ LeftR (takeSt st r ty (bs.map u8) 4 lf) lf ((bs.drop 4).map u8) ∧ ∀ i sz o l f, lf = .sl i sz o l f → i < st.next := by
  obtain ⟨lf, k1, k2, k3⟩ := take_ok (n := 4) hw hl hr hL (by omega) (by simpa using hn) (by omega) hty
  rw [← List.map_drop] at k2
  refine ⟨lf, ?_, k2, k3⟩
  rcases hL with ⟨h, _⟩ | ⟨hne, id, off, full, A, rfl, hg, hd⟩
  · simp at h; rw [h] at hn; simp at hn
  match bs, hn with
  | b0 :: b1 :: b2 :: b3 :: rest, _ =>
  have hrn := hw _ _ hr
  have g : (takeSt st r ty ((b0 :: b1 :: b2 :: b3 :: rest).map u8) 4 lf).get st.next = some (.row [u8 b0, u8 b1, u8 b2, u8 b3] 5) := by
    rw [takeSt_get, if_neg (by omega), if_pos rfl]; simp
  refine num_run (numRun r id off ((b0 :: b1 :: b2 :: b3 :: rest).map u8).length st.next full st (fun s => takeSt s r ty ((b0 :: b1 :: b2 :: b3 :: rest).map u8) 4 lf) b0 b1 b2 b3 (num4 (b0 :: b1 :: b2 :: b3 :: rest))) ?_
  simp only [obR, List.cons_append, List.nil_append, Ob.ok_cons, Ob.ok_nil, and_true]
  exact ⟨⟨load_row hr (part4 rfl), rfl⟩, lt_F (by omega), ⟨load_row hr (part24 rfl), rfl⟩, gt_F (by omega), k1, ⟨load_row g (part5 rfl), rfl⟩, ⟨load_row g (part5 rfl), rfl⟩, ⟨load_row g (part5 rfl), rfl⟩, ⟨load_row g (part5 rfl), rfl⟩, rfl⟩
theorem num_short {st : St} {r ty : Nat} {left : AV} {bs : List AV} (hr : st.get r = some (.row [left, TT] ty)) (hL : LeftR st left bs) (hn : bs.length < 4) :
    obC 11 [.ptr r 0, i64 4] st (.tup [u64 0, i64 4]) st := by
  have k := take_short (n := 4) hr hL hn
  rcases hL with ⟨rfl, rfl | ⟨f, rfl⟩⟩ | ⟨hne, id, off, full, A, rfl, hg, hd⟩
  · refine num_run (numShortN r st) ?_
    simp only [obR, List.cons_append, List.nil_append, Ob.ok_cons, Ob.ok_nil, and_true]
    exact ⟨⟨load_row hr (part4 rfl), rfl⟩, lt_F (by omega), ⟨load_row hr (part24 rfl), rfl⟩, gt_F (by omega), k⟩
  · refine num_run (numShortI r f st) ?_
    simp only [obR, List.cons_append, List.nil_append, Ob.ok_cons, Ob.ok_nil, and_true]
    exact ⟨⟨load_row hr (part4 rfl), rfl⟩, lt_F (by omega), ⟨load_row hr (part24 rfl), rfl⟩, gt_F (by omega), k⟩
  · refine num_run (numShort r id off bs.length full st) ?_
    simp only [obR, List.cons_append, List.nil_append, Ob.ok_cons, Ob.ok_nil, and_true]
    exact ⟨⟨load_row hr (part4 rfl), rfl⟩, lt_F (by omega), ⟨load_row hr (part24 rfl), rfl⟩, gt_F (by omega), k⟩
noncomputable def splC : Nat → Code := fun i => match Tryd.f5.body with
  | some (.seq r0 (.scope (.seq r1 (.seq r2 (.seq lab (.seq (.block 0 (.loop c)) (.seq r10 _))))))) => [r0, r1, r2, lab, c, r10].getD i .skip
  | _ => .skip
theorem body5 : Tryd.f5.body = some (.seq (splC 0) (.scope (.seq (splC 1) (.seq (splC 2) (.seq (splC 3) (.seq (.block 0 (.loop (splC 4))) (.seq (splC 5) .ret))))))) := by kernel_rfl
def ssS : List Nat := [6010, 6011, 6012, 6009, 20, 24, 36, 47, 2052]
noncomputable def splEv (i : Nat) (l : List (Nat × AV)) (st : St) (x : List Or) := (evS Tryd.prog E0 noOv sitesT 100000 ssS (splC i) ⟨54, l, []⟩ st x).map fun q => (q.1, q.2.1.n, [q.2.1.get 2, q.2.1.get 3, q.2.1.get 4], q.2.2.1, q.2.2.2.2)
def e4 (n : Int) : AV := .tup [u64 n, i64 0]
def eS : AV := .tup [u64 0, i64 4]
section
variable (l l' : AV) (r : Nat) (st : St) (n s m c : Int) (new : Nat) (f1 f2 f3 f4 : St → St)
theorem spA : splEv 4 [(3, l), (4, .ptr r 0)] st [.eff eS id] = some (.exit 0, 54, [.undef, l, .ptr r 0], st, [obC 11 [.ptr r 0, i64 4] st eS st]) := by kernel_rfl
theorem spB : splEv 4 [(3, l), (4, .ptr r 0)] st [.eff (e4 n) f1, TT] = some (.exit 0, 54, [.undef, l, .ptr r 0], f1 st, [obC 11 [.ptr r 0, i64 4] st (e4 n) (f1 st), bo (ltU n 1) = TT]) := by kernel_rfl
theorem spB2 : splEv 4 [(3, l), (4, .ptr r 0)] st [.eff (e4 n) f1, FF, TT] = some (.exit 0, 54, [.undef, l, .ptr r 0], f1 st, [obC 11 [.ptr r 0, i64 4] st (e4 n) (f1 st), bo (ltU n 1) = FF, bo (gtU n 4096) = TT]) := by kernel_rfl
theorem spC : splEv 4 [(3, l), (4, .ptr r 0)] st [.eff (e4 n) f1, FF, FF, .eff eS id] = some (.exit 0, 54, [.undef, l, .ptr r 0], f1 st, [obC 11 [.ptr r 0, i64 4] st (e4 n) (f1 st), bo (ltU n 1) = FF, bo (gtU n 4096) = FF, obC 11 [.ptr r 0, i64 4] (f1 st) eS (f1 st)]) := by kernel_rfl
theorem spD : splEv 4 [(3, l), (4, .ptr r 0)] st [.eff (e4 n) f1, FF, FF, .eff (e4 s) f2, i64 m, .eff (.tup [.nils, i64 4]) id] = some (.exit 0, 54, [.undef, l, .ptr r 0], f2 (f1 st), [obC 11 [.ptr r 0, i64 4] st (e4 n) (f1 st), bo (ltU n 1) = FF, bo (gtU n 4096) = FF, obC 11 [.ptr r 0, i64 4] (f1 st) (e4 s) (f2 (f1 st)), i64 (IntKind.i64.wrap n) = i64 m, obC 12 [.ptr r 0, i64 m] (f2 (f1 st)) (.tup [.nils, i64 4]) (f2 (f1 st))]) := by kernel_rfl
def dS (new : Nat) (k : Nat) : AV := .sl new 1 0 k true
theorem spE (k : Nat) : splEv 4 [(3, l), (4, .ptr r 0)] st [.eff (e4 n) f1, FF, FF, .eff (e4 s) f2, i64 m, .eff (.tup [dS new k, i64 0]) f3, .eff (u32 c) id, TT] = some (.exit 0, 54, [.undef, l, .ptr r 0], f3 (f2 (f1 st)), [obC 11 [.ptr r 0, i64 4] st (e4 n) (f1 st), bo (ltU n 1) = FF, bo (gtU n 4096) = FF, obC 11 [.ptr r 0, i64 4] (f1 st) (e4 s) (f2 (f1 st)), i64 (IntKind.i64.wrap n) = i64 m, obC 12 [.ptr r 0, i64 m] (f2 (f1 st)) (.tup [dS new k, i64 0]) (f3 (f2 (f1 st))), obC 9 [dS new k] (f3 (f2 (f1 st))) (u32 c) (f3 (f2 (f1 st))), bo (neU (IntKind.u64.wrap c) s) = TT]) := by kernel_rfl
theorem spF (k : Nat) : splEv 4 [(3, l), (4, .ptr r 0)] st [.eff (e4 n) f1, FF, FF, .eff (e4 s) f2, i64 m, .eff (.tup [dS new k, i64 0]) f3, .eff (u32 c) id, FF, .eff l' f4] = some (.normal, 54, [.undef, l', .ptr r 0], f4 ((f3 (f2 (f1 st))).push (.row [dS new k] 24)), [obC 11 [.ptr r 0, i64 4] st (e4 n) (f1 st), bo (ltU n 1) = FF, bo (gtU n 4096) = FF, obC 11 [.ptr r 0, i64 4] (f1 st) (e4 s) (f2 (f1 st)), i64 (IntKind.i64.wrap n) = i64 m, obC 12 [.ptr r 0, i64 m] (f2 (f1 st)) (.tup [dS new k, i64 0]) (f3 (f2 (f1 st))), obC 9 [dS new k] (f3 (f2 (f1 st))) (u32 c) (f3 (f2 (f1 st))), bo (neU (IntKind.u64.wrap c) s) = FF, appendA E0 ((f3 (f2 (f1 st))).push (.row [dS new k] 24)) 22 22 l (.sl (f3 (f2 (f1 st))).next 1 0 1 true) = some (l', f4 ((f3 (f2 (f1 st))).push (.row [dS new k] 24)))]) := by kernel_rfl
theorem sp0 : splEv 0 [] st [] = some (.normal, 54, [.nils, .undef, .undef], st, []) := by kernel_rfl
theorem sp1 : splEv 1 [] st [] = some (.normal, 54, [.undef, .nils, .undef], st, []) := by kernel_rfl
theorem sp2 (b : AV) : splEv 2 [(0, b), (3, .nils)] st [.eff (.ptr r 0) f1] = some (.normal, 54, [.undef, .nils, .ptr r 0], f1 st, [obC 10 [b] st (.ptr r 0) (f1 st)]) := by kernel_rfl
theorem sp3 : splEv 3 [(3, .nils), (4, .ptr r 0)] st [] = some (.normal, 54, [.undef, .nils, .ptr r 0], st, []) := by kernel_rfl
theorem sp5 : splEv 5 [(3, l)] st [] = some (.normal, 54, [l, l, .undef], st, []) := by kernel_rfl
noncomputable def sumEv (x : AV) (st : St) (o : List Or) := (evCallS Tryd.prog E0 noOv (fun | 9 => [6022] | _ => []) 100000 9 [x] st o).map fun q => (q.1, q.2.1, q.2.2.2)
theorem sumRun (x : AV) : sumEv x st [.eff (u32 c) id] = some (u32 c, st, [obC 22 [u32 0, x] st (u32 c) st]) := by kernel_rfl
noncomputable def newEv (x : AV) (st : St) (o : List Or) := (evCallS Tryd.prog E0 noOv sitesT 100000 10 [x] st o).map fun q => (q.1, q.2.1, q.2.2.2)
theorem newRun (i off len j nb : Nat) (full : Bool) : newEv (.sl i 1 off len full) st [.eff (.sl j 1 0 nb false) f1] = some (.ptr (f1 (st.push (.row [] 5))).next 0, (f1 (st.push (.row [] 5))).push (.row [.sl j 1 0 nb false, TT] 60), [appendA E0 (st.push (.row [] 5)) 24 24 (.sl st.next 1 0 0 true) (.sl i 1 off len full) = some (.sl j 1 0 nb false, f1 (st.push (.row [] 5)))]) := by kernel_rfl
theorem newRunN : newEv .nils st [] = some (.ptr st.next 0, st.push (.row [.nils, TT] 60), []) := by kernel_rfl
end
theorem ty22 : E0.ty 22 = some ⟨.slice 24, 1, 24, some (.slice none 0 0)⟩ := by kernel_rfl
theorem el22 : elemA E0 22 = some (24, ⟨.slice 5, 1, 24, some (.slice none 0 0)⟩, [.nils]) := by kernel_rfl
theorem str22 : isStrTy E0 22 = false := by kernel_rfl
theorem src22 {st : St} {x : AV} : srcA E0 st 22 x = sliceCells st x := by simp only [srcA, ty22]
/-- append of bytes behind a slice that has no room -/
theorem app_full {st : St} {id off len n : Nat} {vs c : List AV} {x : AV} (hg : st.get id = some (.row vs 5)) (ho : off + len ≤ vs.length) (hx : sliceCells st x = some (n, c)) (hc : c.length = n) (h0 : n ≠ 0) (hb : len + n ≤ 1000000) :
    appendA E0 st 24 24 (.sl id 1 off len true) x = some (.sl st.next 1 0 (len + n) false, st.push (.row ((vs.drop off).take len ++ c) 5)) := by
  simp only [appendA, el24, src_of, hx, str24, hg, Nat.mul_one]
  rw [if_pos ⟨hc, fun h => by cases h⟩, if_neg (fun h => h rfl), if_neg h0, if_pos ⟨by omega, by omega⟩, if_pos ⟨trivial, ho⟩, if_pos trivial]
/-- append of bytes behind a whole row -/
theorem app_row {st : St} {id len n : Nat} {vs c : List AV} {x : AV} (hg : st.get id = some (.row vs 5)) (hl : st.lock = []) (ho : len = vs.length) (hx : sliceCells st x = some (n, c)) (hc : c.length = n) (h0 : n ≠ 0) (hb : len + n ≤ 1000000) :
    appendA E0 st 24 24 (.sl id 1 0 len false) x = some (.sl st.next 1 0 (len + n) false, (st.del id).push (.row (vs ++ c) 5)) := by
  simp only [appendA, el24, src_of, hx, str24, hg, Nat.mul_one]
  rw [if_pos ⟨hc, fun h => by cases h⟩, if_neg (fun h => h rfl), if_neg h0, if_pos ⟨by omega, by omega⟩, if_pos ⟨trivial, by omega⟩, if_neg (by simp), if_pos ⟨by omega, by rw [hl]; simp⟩, List.drop_zero]
theorem app_nil {st : St} {n : Nat} {c : List AV} {x : AV} (hx : sliceCells st x = some (n, c)) (hc : c.length = n) (h0 : n ≠ 0) (hb : n ≤ 1000000) :
    appendA E0 st 24 24 .nils x = some (.sl st.next 1 0 n false, st.push (.row c 5)) := by
  simp only [appendA, el24, src_of, hx, str24, Nat.mul_one]
  rw [if_pos ⟨hc, fun h => by cases h⟩, if_neg h0, if_pos ⟨by omega, by omega⟩]
/-- the same for lists of slices -/
theorem lapp_nil {st : St} {n : Nat} {c : List AV} {x : AV} (hx : sliceCells st x = some (n, c)) (hc : c.length = n) (h0 : n ≠ 0) (hb : n ≤ 1000000) :
    appendA E0 st 22 22 .nils x = some (.sl st.next 1 0 n false, st.push (.row c 24)) := by
  simp only [appendA, el22, src22, hx, str22, Nat.mul_one]
  rw [if_pos ⟨hc, fun h => by cases h⟩, if_neg h0, if_pos ⟨by omega, by omega⟩]
theorem lapp_row {st : St} {id len n : Nat} {vs c : List AV} {x : AV} (hg : st.get id = some (.row vs 24)) (hl : st.lock = []) (ho : len = vs.length) (hx : sliceCells st x = some (n, c)) (hc : c.length = n) (h0 : n ≠ 0) (hb : len + n ≤ 1000000) :
    appendA E0 st 22 22 (.sl id 1 0 len false) x = some (.sl st.next 1 0 (len + n) false, (st.del id).push (.row (vs ++ c) 24)) := by
  simp only [appendA, el22, src22, hx, str22, hg, Nat.mul_one]
  rw [if_pos ⟨hc, fun h => by cases h⟩, if_neg (fun h => h rfl), if_neg h0, if_pos ⟨by omega, by omega⟩, if_pos ⟨trivial, by omega⟩, if_neg (by simp), if_pos ⟨by omega, by rw [hl]; simp⟩, List.drop_zero]
def crcU (d : List Int) : Int := IntKind.u64.wrap (crcMore 0 d)
/-- the first record of a segment's bytes, and what is left -/
def parse1 (bs : List Int) : Option (List Int × List Int) :=
  if bs.length < 4 then none else
  if num4 bs < 1 then none else
  if 4096 < num4 bs then none else
  if (bs.drop 4).length < 4 then none else
  if (bs.drop 8).length < (num4 bs).toNat then none else
  if crcU ((bs.drop 8).take (num4 bs).toNat) ≠ num4 (bs.drop 4) then none else
  some ((bs.drop 8).take (num4 bs).toNat, (bs.drop 8).drop (num4 bs).toNat)
def splitN : Nat → List Int → List (List Int)
  | 0, _ => []
  | k + 1, bs => match parse1 bs with
    | none => []
    | some p => p.1 :: splitN k p.2
theorem parse1_len {bs : List Int} {p : List Int × List Int} (h : parse1 bs = some p) : p.2.length + 8 < bs.length ∧ p.1.length + p.2.length + 8 = bs.length := by
  unfold parse1 at h
  split at h
  · cases h
  split at h
  · cases h
  split at h
  · cases h
  split at h
  · cases h
  split at h
  · cases h
  split at h
  · cases h
  cases h
  simp only [List.length_drop, List.length_take] at *
  omega
theorem splitN_more : ∀ (k j : Nat) (bs : List Int), bs.length ≤ k → bs.length ≤ j → splitN k bs = splitN j bs
  | 0, 0, _, _, _ => rfl
  | 0, j + 1, bs, h, _ => by
    have : bs = [] := List.eq_nil_of_length_eq_zero (by omega)
    subst this
    simp [splitN, parse1]
  | k + 1, 0, bs, _, h => by
    have : bs = [] := List.eq_nil_of_length_eq_zero (by omega)
    subst this
    simp [splitN, parse1]
  | k + 1, j + 1, bs, h1, h2 => by
    simp only [splitN]
    cases hp : parse1 bs with
    | none => rfl
    | some p =>
      have := parse1_len hp
      show p.1 :: splitN k p.2 = p.1 :: splitN j p.2
      rw [splitN_more k j p.2 (by omega) (by omega)]
def recA (d : List Int) : AV := .imm 1 d.length true (d.map u8)
/-- an object without places in it -/
def Plain (o : AObj) : Prop := ∀ id vs, frzO id vs o = o
def Keep (st st' : St) : Prop := ∀ i o, st.get i = some o → Plain o → st'.get i = some o
theorem Keep.refl (st : St) : Keep st st := fun _ _ h _ => h
theorem Keep.trans {a b c : St} (h : Keep a b) (k : Keep b c) : Keep a c := fun i o ho hp => k i o (h i o ho hp) hp
/-- a list of records -/
def LR (st : St) (l : AV) (R : List (List Int)) : Prop := (R = [] ∧ l = .nils) ∨ (R ≠ [] ∧ ∃ id, l = .sl id 1 0 R.length false ∧ st.get id = some (.row (R.map recA) 24))
theorem frz_u8 (id : Nat) (vs : List AV) (d : List Int) : frzL id vs (d.map u8) = d.map u8 := by
  rw [frzL_eq, List.map_map]
  congr 1
theorem frz_rec (id : Nat) (vs : List AV) (d : List Int) : frz id vs (recA d) = recA d := by
  simp only [recA, frz, frz_u8]
theorem frz_recs (id : Nat) (vs : List AV) (R : List (List Int)) : frzL id vs (R.map recA) = R.map recA := by
  rw [frzL_eq, List.map_map]
  apply List.map_congr_left
  intro d _
  exact frz_rec id vs d
theorem plain_u8 (d : List Int) (ty : Nat) : Plain (.row (d.map u8) ty) := fun id vs => by simp only [frzO, frz_u8]
theorem ltU_eq (a b : Int) : ltU a b = decide (a < b) := rfl
theorem gtU_eq (a b : Int) : gtU a b = decide (a > b) := rfl
theorem neU_eq (a b : Int) : neU a b = (a != b) := rfl
theorem sum_ok {st : St} {id n : Nat} {f : Bool} {d : List Int} (hg : st.get id = some (.row (d.map u8) 5)) (hn : n = d.length) (hb : n < 1000000000) : obC 9 [.sl id 1 0 n f] st (u32 (crcMore 0 d)) st := by
  obtain ⟨x1, h1⟩ := run_of (sumRun st (crcMore 0 d) (.sl id 1 0 n f))
  refine ACalls.run hE (ov := noOv) noOv_ok h1 ?_
  simp only [Ob.ok_cons, Ob.ok_nil, and_true]
  refine (crcMore_ok 0 id 1 0 n f st (d.map u8) 5 d rfl hg hn hb fun i hi => ?_).mono fun a s e => ?_
  · rw [Nat.zero_add, List.getElem?_map, List.getD_eq_getElem?_getD, List.getElem?_eq_getElem (by omega)]; rfl
  · cases e; exact ⟨rfl, rfl⟩
theorem sum_imm (st : St) {n : Nat} {f : Bool} {d : List Int} (hn : n = d.length) (hb : n < 1000000000) : obC 9 [.imm 1 n f (d.map u8)] st (u32 (crcMore 0 d)) st := by
  obtain ⟨x1, h1⟩ := run_of (sumRun st (crcMore 0 d) (.imm 1 n f (d.map u8)))
  refine ACalls.run hE (ov := noOv) noOv_ok h1 ?_
  simp only [Ob.ok_cons, Ob.ok_nil, and_true]
  refine (crcMoreI_ok 0 n f st (d.map u8) d hn hb fun i hi => ?_).mono fun a s e => ?_
  · rw [List.getElem?_map, List.getD_eq_getElem?_getD, List.getElem?_eq_getElem (by omega)]; rfl
  · cases e; exact ⟨rfl, rfl⟩
/-- what a run of a piece gives -/
theorem spl_run {i : Nat} {l : List (Nat × AV)} {st st1 : St} {x : List Or} {e : Exit} {n : Nat} {a2 a3 a4 : AV} {ob : Ob} (h : splEv i l st x = some (e, n, [a2, a3, a4], st1, ob)) (hob : ob.ok) {T : Tm} (hn : T.n = 54) (hT : ∀ p ∈ l, T.get p.1 = p.2) :
    AW Tryd.prog (splC i) (fun e' T' st' => e' = e ∧ T'.n = n ∧ T'.get 2 = a2 ∧ T'.get 3 = a3 ∧ T'.get 4 = a4 ∧ st' = st1) T st := by
  obtain ⟨⟨e1, T1, s1, x1, o1⟩, h1, h2⟩ := Option.map_eq_some_iff.1 h
  simp only [Prod.mk.injEq, List.cons.injEq] at h2
  obtain ⟨rfl, h3, ⟨h4, h5, h6, _⟩, rfl, rfl⟩ := h2
  refine (AW.run hE (ov := noOv) noOv_ok h1 hob hn hT).mono fun e' T' st' hp => ?_
  obtain ⟨rfl, rfl, rfl⟩ := hp
  exact ⟨rfl, h3, h4, h5, h6, rfl⟩
structure SplI (A : List Int) (st0 : St) (r : Nat) (R : List (List Int)) (bs : List Int) (T : Tm) (st : St) : Prop where
  n : T.n = 54
  r4 : T.get 4 = .ptr r 0
  rd : ∃ left, st.get r = some (.row [left, TT] 60) ∧ LeftR st left (bs.map u8)
  ls : LR st (T.get 3) R
  lock : st.lock = []
  keep : Keep st0 st
  next : st0.next ≤ st.next
  law : R ++ splitN bs.length bs = splitN A.length A
  len : R.length + bs.length ≤ A.length
  lid : ∀ i sz o k f, T.get 3 = .sl i sz o k f → st0.next ≤ i
theorem keep_take {st0 st : St} (hk : Keep st0 st) (hn : st0.next ≤ st.next) (hw0 : st0.wf) {r ty n : Nat} {bs : List AV} {lf : AV} (hr : st0.next ≤ r) : Keep st0 (takeSt st r ty bs n lf) := fun i o ho hp => by
  have := hw0 _ _ ho
  rw [takeSt_get, if_neg (by omega), if_neg (by omega)]
  exact hk i o ho hp
structure DoneI (A : List Int) (st0 : St) (T : Tm) (st : St) : Prop where
  n : T.n = 54
  ls : LR st (T.get 3) (splitN A.length A)
  lock : st.lock = []
  keep : Keep st0 st
  next : st0.next ≤ st.next
theorem lt_FU {a b : Int} (h : b ≤ a) : bo (ltU a b) = FF := ob_F (by rw [ltU_eq]; simp; omega)
theorem lt_TU {a b : Int} (h : a < b) : bo (ltU a b) = TT := ob_T (by rw [ltU_eq]; simp; omega)
theorem gt_FU {a b : Int} (h : a ≤ b) : bo (gtU a b) = FF := ob_F (by rw [gtU_eq]; simp; omega)
theorem gt_TU {a b : Int} (h : b < a) : bo (gtU a b) = TT := ob_T (by rw [gtU_eq]; simp; omega)
theorem split_none {bs : List Int} (h : parse1 bs = none) : splitN bs.length bs = [] := by
  cases hb : bs.length with
  | zero => rfl
  | succ k => simp only [splitN, h]
theorem split_some {bs : List Int} {p : List Int × List Int} (h : parse1 bs = some p) : splitN bs.length bs = p.1 :: splitN p.2.length p.2 := by
  have hl := parse1_len h
  cases hb : bs.length with
  | zero => omega
  | succ k =>
    simp only [splitN, h]
    rw [splitN_more k p.2.length p.2 (by omega) (Nat.le_refl _)]
theorem SplI.done {A : List Int} {st0 : St} {r : Nat} {R : List (List Int)} {bs : List Int} {T : Tm} {st : St} (h : SplI A st0 r R bs T st) (hp : parse1 bs = none) {T' : Tm} {st' : St} (hn : T'.n = 54) (h3 : T'.get 3 = T.get 3)
    (hls : ∀ l, LR st l R → LR st' l R) (hl : st'.lock = []) (hk : Keep st0 st') (hx : st0.next ≤ st'.next) : DoneI A st0 T' st' :=
  ⟨hn, by
    have := h.law
    rw [split_none hp, List.append_nil] at this
    rw [← this, h3]; exact hls _ h.ls, hl, hk, hx⟩
theorem LR_take {st : St} {l : AV} {R : List (List Int)} (h : LR st l R) {left : AV} {r : Nat} (hr : st.get r = some (.row [left, TT] 60)) (hw : st.wf) (bs : List AV) (n : Nat) (lf : AV) : LR (takeSt st r 60 bs n lf) l R := by
  rcases h with ⟨rfl, rfl⟩ | ⟨hne, id, rfl, hg⟩
  · exact .inl ⟨rfl, rfl⟩
  · refine .inr ⟨hne, id, rfl, ?_⟩
    have := hw _ _ hg
    rw [takeSt_get, if_neg (fun e => ?_), if_neg (by omega)]
    · exact hg
    · rw [e, hr] at hg
      simp only [Option.some.injEq, AObj.row.injEq] at hg
      exact absurd hg.2 (by decide)
theorem takeSt_wf {st : St} (hw : st.wf) {r ty n : Nat} {bs : List AV} {lf : AV} (hr : r < st.next) : (takeSt st r ty bs n lf).wf := fun i o ho => by
  rw [takeSt_get] at ho
  show i < st.next + 1
  split at ho
  · omega
  · split at ho
    · omega
    · have := hw _ _ ho; omega
theorem takeSt_lock {st : St} {r ty n : Nat} {bs : List AV} {lf : AV} : (takeSt st r ty bs n lf).lock = st.lock := rfl
theorem takeSt_next {st : St} {r ty n : Nat} {bs : List AV} {lf : AV} : (takeSt st r ty bs n lf).next = st.next + 1 := rfl
theorem takeSt_r {st : St} {r ty n : Nat} {bs : List AV} {lf : AV} : (takeSt st r ty bs n lf).get r = some (.row [lf, TT] ty) := by rw [takeSt_get, if_pos rfl]
/-- a record more -/
theorem app_rec {st3 : St} {l : AV} {R : List (List Int)} (hls : LR st3 l R) (hw : st3.wf) (hl : st3.lock = []) (hb : R.length + 1 ≤ 1000000) (x : AV) :
    ∃ st5, appendA E0 (st3.push (.row [x] 24)) 22 22 l (.sl st3.next 1 0 1 true) = some (.sl (st3.next + 1) 1 0 (R.length + 1) false, st5) ∧ st5.get (st3.next + 1) = some (.row (R.map recA ++ [x]) 24) ∧ st5.lock = [] ∧ st5.next = st3.next + 2 ∧
      ∀ i o, st3.get i = some o → l ≠ .sl i 1 0 R.length false → st5.get i = some o := by
  have hx : sliceCells (st3.push (.row [x] 24)) (.sl st3.next 1 0 1 true) = some (1, [x]) := by
    rw [cells_sl (by rw [St.get_push, if_pos rfl]) (by simp)]
    rfl
  rcases hls with ⟨rfl, rfl⟩ | ⟨hne, id, rfl, hg⟩
  · refine ⟨_, lapp_nil hx rfl (by omega) (by omega), ?_, by simpa using hl, rfl, fun i o ho _ => ?_⟩
    · rw [St.get_push, if_pos (by simp)]; rfl
    · have := hw _ _ ho
      rw [St.get_push, if_neg (by rw [St.next_push]; omega), St.get_push, if_neg (by omega)]; exact ho
  · have hid := hw _ _ hg
    have hg' : (st3.push (.row [x] 24)).get id = some (.row (R.map recA) 24) := by rw [St.get_push, if_neg (by omega)]; exact hg
    refine ⟨_, lapp_row hg' (by simpa using hl) (by simp) hx rfl (by omega) hb, ?_, by simpa using hl, rfl, fun i o ho hne' => ?_⟩
    · rw [St.get_push, if_pos (by simp)]
    · have := hw _ _ ho
      rw [St.get_push, if_neg (by rw [St.next_del, St.next_push]; omega), St.get_del, if_neg (fun e => hne' (by rw [e])), St.get_push, if_neg (by omega)]; exact ho
theorem spl_turn {A : List Int} {st0 : St} {r : Nat} {R : List (List Int)} {bs : List Int} {T : Tm} {st : St} (hI : SplI A st0 r R bs T st) (hA : A.length ≤ 1000000) (hw0 : st0.wf) (hr0 : st0.next ≤ r) :
    AW Tryd.prog (splC 4) (fun e T' st' => (e = .exit 0 ∧ DoneI A st0 T' st') ∨ (e = .normal ∧ ∃ R' bs', bs'.length < bs.length ∧ SplI A st0 r R' bs' T' st')) T st := by
  refine AW.wf fun hw => ?_
  obtain ⟨left, hrd, hL⟩ := hI.rd
  have hrn := hw _ _ hrd
  have hT : ∀ p ∈ [(3, T.get 3), (4, AV.ptr r 0)], T.get p.1 = p.2 := fun p hp => by
    rcases List.mem_cons.1 hp with rfl | hp
    · rfl
    · obtain rfl := List.mem_singleton.1 hp; exact hI.r4
  by_cases h4 : bs.length < 4
  · have hp : parse1 bs = none := by unfold parse1; rw [if_pos h4]
    refine (spl_run (spA (T.get 3) r st) ?_ hI.n hT).mono fun e T' st' ⟨he, hn, _, k3, _, hs⟩ => ?_
    · simp only [Ob.ok_cons, Ob.ok_nil, and_true]
      exact num_short hrd hL (by simpa using h4)
    · subst hs
      exact .inl ⟨he, hI.done hp hn k3 (fun _ h => h) hI.lock hI.keep hI.next⟩
  obtain ⟨lf1, c1, L1, i1⟩ := num_ok hw hI.lock hrd hL (by omega) (by decide)
  have w1 := takeSt_wf (ty := 60) (n := 4) (bs := bs.map u8) (lf := lf1) hw hrn
  have r1 := takeSt_r (st := st) (r := r) (ty := 60) (n := 4) (bs := bs.map u8) (lf := lf1)
  have ls1 := fun l (h : LR st l R) => LR_take h hrd hw (bs.map u8) 4 lf1
  have k1 : Keep st0 (takeSt st r 60 (bs.map u8) 4 lf1) := keep_take hI.keep hI.next hw0 hr0
  have x1 : st0.next ≤ (takeSt st r 60 (bs.map u8) 4 lf1).next := by rw [takeSt_next]; have := hI.next; omega
  have lk1 : (takeSt st r 60 (bs.map u8) 4 lf1).lock = [] := by rw [takeSt_lock]; exact hI.lock
  have rn1 : r < (takeSt st r 60 (bs.map u8) 4 lf1).next := by rw [takeSt_next]; omega
  have hnx1 : (takeSt st r 60 (bs.map u8) 4 lf1).next = st.next + 1 := takeSt_next
  generalize hs1 : takeSt st r 60 (bs.map u8) 4 lf1 = st1 at *
  by_cases hn1 : num4 bs < 1
  · have hp : parse1 bs = none := by unfold parse1; rw [if_neg h4, if_pos hn1]
    refine (spl_run (spB (T.get 3) r st (num4 bs) (fun _ => st1)) ?_ hI.n hT).mono fun e T' st' ⟨he, hn, _, k3, _, hs⟩ => ?_
    · simp only [Ob.ok_cons, Ob.ok_nil, and_true]
      exact ⟨c1, lt_TU (by omega)⟩
    · subst hs
      exact .inl ⟨he, hI.done hp hn k3 ls1 lk1 k1 x1⟩
  by_cases hn2 : 4096 < num4 bs
  · have hp : parse1 bs = none := by unfold parse1; rw [if_neg h4, if_neg hn1, if_pos hn2]
    refine (spl_run (spB2 (T.get 3) r st (num4 bs) (fun _ => st1)) ?_ hI.n hT).mono fun e T' st' ⟨he, hn, _, k3, _, hs⟩ => ?_
    · simp only [Ob.ok_cons, Ob.ok_nil, and_true]
      exact ⟨c1, lt_FU (by omega), gt_TU (by omega)⟩
    · subst hs
      exact .inl ⟨he, hI.done hp hn k3 ls1 lk1 k1 x1⟩
  by_cases h8 : (bs.drop 4).length < 4
  · have hp : parse1 bs = none := by unfold parse1; rw [if_neg h4, if_neg hn1, if_neg hn2, if_pos h8]
    refine (spl_run (spC (T.get 3) r st (num4 bs) (fun _ => st1)) ?_ hI.n hT).mono fun e T' st' ⟨he, hn, _, k3, _, hs⟩ => ?_
    · simp only [Ob.ok_cons, Ob.ok_nil, and_true]
      exact ⟨c1, lt_FU (by omega), gt_FU (by omega), num_short r1 L1 (by simpa using h8)⟩
    · subst hs
      exact .inl ⟨he, hI.done hp hn k3 ls1 lk1 k1 x1⟩
  have hd8 : (bs.drop 4).drop 4 = bs.drop 8 := by rw [List.drop_drop]
  obtain ⟨lf2, c2, L2, i2⟩ := num_ok w1 lk1 r1 L1 (by omega) (by decide)
  rw [hd8] at L2
  have w2 := takeSt_wf (ty := 60) (n := 4) (bs := (bs.drop 4).map u8) (lf := lf2) w1 rn1
  have r2 := takeSt_r (st := st1) (r := r) (ty := 60) (n := 4) (bs := (bs.drop 4).map u8) (lf := lf2)
  have ls2 := fun l (h : LR st1 l R) => LR_take h r1 w1 ((bs.drop 4).map u8) 4 lf2
  have k2 : Keep st0 (takeSt st1 r 60 ((bs.drop 4).map u8) 4 lf2) := keep_take k1 x1 hw0 hr0
  have x2 : st0.next ≤ (takeSt st1 r 60 ((bs.drop 4).map u8) 4 lf2).next := by rw [takeSt_next]; omega
  have lk2 : (takeSt st1 r 60 ((bs.drop 4).map u8) 4 lf2).lock = [] := by rw [takeSt_lock]; exact lk1
  have rn2 : r < (takeSt st1 r 60 ((bs.drop 4).map u8) 4 lf2).next := by rw [takeSt_next]; omega
  generalize hs2 : takeSt st1 r 60 ((bs.drop 4).map u8) 4 lf2 = st2 at *
  obtain ⟨n, hn⟩ : ∃ n : Nat, num4 bs = (n : Int) := ⟨(num4 bs).toNat, by omega⟩
  have hnt : (num4 bs).toNat = n := by rw [hn]; rfl
  have hwr : i64 (IntKind.i64.wrap (num4 bs)) = i64 (n : Int) := by rw [hn, IntWalk.i64_in _ (by omega)]
  by_cases hsh : (bs.drop 8).length < n
  · have hp : parse1 bs = none := by unfold parse1; rw [if_neg h4, if_neg hn1, if_neg hn2, if_neg h8, if_pos (by rw [hnt]; exact hsh)]
    refine (spl_run (spD (T.get 3) r st (num4 bs) (num4 (bs.drop 4)) n (fun _ => st1) (fun _ => st2)) ?_ hI.n hT).mono fun e T' st' ⟨he, hn, _, k3, _, hs⟩ => ?_
    · simp only [Ob.ok_cons, Ob.ok_nil, and_true]
      exact ⟨c1, lt_FU (by omega), gt_FU (by omega), c2, hwr, take_short r2 L2 (by simpa using hsh)⟩
    · subst hs
      exact .inl ⟨he, hI.done hp hn k3 (fun l h => ls2 l (ls1 l h)) lk2 k2 x2⟩
  obtain ⟨lf3, c3, L3, i3⟩ := take_ok (n := n) w2 lk2 r2 L2 (by omega) (by simpa using hsh) (by omega) (by decide)
  rw [← List.map_drop] at L3
  have w3 := takeSt_wf (ty := 60) (n := n) (bs := (bs.drop 8).map u8) (lf := lf3) w2 rn2
  have r3 := takeSt_r (st := st2) (r := r) (ty := 60) (n := n) (bs := (bs.drop 8).map u8) (lf := lf3)
  have ls3 := fun l (h : LR st2 l R) => LR_take h r2 w2 ((bs.drop 8).map u8) n lf3
  have k3 : Keep st0 (takeSt st2 r 60 ((bs.drop 8).map u8) n lf3) := keep_take k2 x2 hw0 hr0
  have x3 : st0.next ≤ (takeSt st2 r 60 ((bs.drop 8).map u8) n lf3).next := by rw [takeSt_next]; omega
  have lk3 : (takeSt st2 r 60 ((bs.drop 8).map u8) n lf3).lock = [] := by rw [takeSt_lock]; exact lk2
  have rn3 : r < (takeSt st2 r 60 ((bs.drop 8).map u8) n lf3).next := by rw [takeSt_next]; omega
  have g3 : (takeSt st2 r 60 ((bs.drop 8).map u8) n lf3).get st2.next = some (.row (((bs.drop 8).take n).map u8) 5) := by
    rw [takeSt_get, if_neg (by omega), if_pos rfl, List.map_take]
  have hnx3 : (takeSt st2 r 60 ((bs.drop 8).map u8) n lf3).next = st2.next + 1 := takeSt_next
  generalize hs3 : takeSt st2 r 60 ((bs.drop 8).map u8) n lf3 = st3 at *
  have hdl : ((bs.drop 8).take n).length = n := by rw [List.length_take]; omega
  have c4 := sum_ok (f := true) g3 hdl.symm (by omega)
  by_cases hcr : crcU ((bs.drop 8).take n) ≠ num4 (bs.drop 4)
  · have hp : parse1 bs = none := by unfold parse1; rw [if_neg h4, if_neg hn1, if_neg hn2, if_neg h8, if_neg (by rw [hnt]; exact hsh), if_pos (by rw [hnt]; exact hcr)]
    refine (spl_run (spE (T.get 3) r st (num4 bs) (num4 (bs.drop 4)) n (crcMore 0 ((bs.drop 8).take n)) st2.next (fun _ => st1) (fun _ => st2) (fun _ => st3) n) ?_ hI.n hT).mono fun e T' st' ⟨he, hn, _, k3', _, hs⟩ => ?_
    · simp only [Ob.ok_cons, Ob.ok_nil, and_true]
      exact ⟨c1, lt_FU (by omega), gt_FU (by omega), c2, hwr, c3, c4, ob_T (by rw [neU_eq]; simpa [crcU] using hcr)⟩
    · subst hs
      exact .inl ⟨he, hI.done hp hn k3' (fun l h => ls3 l (ls2 l (ls1 l h))) lk3 k3 x3⟩
  have hp : parse1 bs = some ((bs.drop 8).take n, (bs.drop 8).drop n) := by
    unfold parse1; rw [if_neg h4, if_neg hn1, if_neg hn2, if_neg h8, if_neg (by rw [hnt]; exact hsh), if_neg (by rw [hnt]; exact hcr), hnt]
  have hlen := parse1_len hp
  simp only at hlen
  have l3 : LR st3 (T.get 3) R := ls3 _ (ls2 _ (ls1 _ hI.ls))
  have hlen2 := hI.len
  obtain ⟨st5, ha, g5, lk5, nx5, kp5⟩ := app_rec l3 w3 lk3 (by omega) (dS st2.next n)
  refine AW.freeze (spl_run (spF (T.get 3) (.sl (st3.next + 1) 1 0 (R.length + 1) false) r st (num4 bs) (num4 (bs.drop 4)) n (crcMore 0 ((bs.drop 8).take n)) st2.next (fun _ => st1) (fun _ => st2) (fun _ => st3) (fun _ => st5) n) ?_ hI.n hT) ?_
  · simp only [Ob.ok_cons, Ob.ok_nil, and_true]
    exact ⟨c1, lt_FU (by omega), gt_FU (by omega), c2, hwr, c3, c4, ob_F (by rw [neU_eq]; simpa [crcU] using hcr), ha⟩
  rintro e T' st' ⟨rfl, hn', _, t3, t4, rfl⟩ _ hw5
  have hF := frzSt_ok (id := st2.next) (vs := ((bs.drop 8).take n).map u8) hw5
  have nl : ∀ (i : Nat) (o : AObj) (vs : List AV) (ty : Nat), st3.get i = some (.row vs ty) → ty ≠ 24 → T.get 3 ≠ .sl i 1 0 R.length false := fun i o vs ty hg hty e => by
    rcases l3 with ⟨_, h⟩ | ⟨_, id, h, hg'⟩
    · rw [h] at e; cases e
    · rw [h] at e; cases e
      rw [hg] at hg'
      simp only [Option.some.injEq, AObj.row.injEq] at hg'
      exact hty hg'.2
  have gd : st'.get st2.next = some (.row (((bs.drop 8).take n).map u8) 5) := kp5 _ _ g3 (nl _ (.siter default 0) _ _ g3 (by decide))
  have gr : st'.get r = some (.row [lf3, TT] 60) := kp5 _ _ r3 (nl _ (.siter default 0) _ _ r3 (by decide))
  have hrn3 : r ≠ st2.next := by omega
  have hfl : frz st2.next (((bs.drop 8).take n).map u8) lf3 = lf3 := by
    rcases L3 with ⟨_, h | ⟨f, h⟩⟩ | ⟨_, id, off, full, B, h, _⟩
    · rw [h]; rfl
    · rw [h]; simp [frz, frzL]
    · rw [h]
      have := i3 _ _ _ _ _ h
      simp only [frz]
      rw [if_neg (by omega)]
  refine ⟨st2.next, _, 5, gd, lk5, .inr ⟨rfl, R ++ [(bs.drop 8).take n], (bs.drop 8).drop n, by omega, ?_⟩⟩
  have t3' : (frzT st2.next (((bs.drop 8).take n).map u8) T').get 3 = .sl (st3.next + 1) 1 0 (R.length + 1) false := by
    rw [frzT_get, t3]
    simp only [frz]
    rw [if_neg (by omega)]
  refine ⟨hn', by rw [frzT_get, t4]; rfl, ⟨lf3, ?_, ?_⟩, .inr ⟨by simp, st3.next + 1, ?_, ?_⟩, lk5, fun i o ho hp => ?_, ?_, ?_, ?_, fun i sz o k f e => ?_⟩
  · rw [hF.get, if_neg hrn3, gr]
    simp only [Option.map_some, frzO, frzL, hfl, frz]
  · rcases L3 with h | ⟨hne, id, off, full, B, h, hg, hd⟩
    · exact .inl h
    · refine .inr ⟨hne, id, off, full, B, h, ?_, hd⟩
      have hi := i3 _ _ _ _ _ h
      rw [hF.get, if_neg (by omega), kp5 _ _ hg (nl _ (.siter default 0) _ _ hg (by decide))]
      simp only [Option.map_some, frzO, frz_u8]
  · rw [t3']; simp
  · rw [hF.get, if_neg (by omega), g5]
    simp only [Option.map_some, frzO]
    rw [frzL_eq, List.map_append, ← frzL_eq, frz_recs, List.map_append]
    congr 3
    simp only [List.map_cons, List.map_nil, dS, frz, if_true, recA, hdl, Nat.mul_one, Nat.zero_add, List.length_map, List.drop_zero, Nat.le_refl]
    rw [List.take_of_length_le (by rw [List.length_map, hdl]; exact Nat.le_refl _)]
  · have hi := hw0 _ _ ho
    have hst3 := k3 i o ho hp
    rw [hF.get, if_neg (by omega)]
    have : st'.get i = some o := kp5 i o hst3 fun e => ?_
    · rw [this, Option.map_some, show frzO _ _ o = o from hp _ _]
    · have := hI.lid _ _ _ _ _ e; omega
  · show st0.next ≤ st'.next
    omega
  · rw [← hI.law, split_some hp]
    simp
  · simp only [List.length_append, List.length_cons, List.length_nil]
    omega
  · rw [t3'] at e; cases e; omega
/-- bytes that a call is given -/
def BytesR (st : St) (b : AV) (A : List Int) : Prop := (A = [] ∧ b = .nils) ∨ (A ≠ [] ∧ ∃ i full, b = .sl i 1 0 A.length full ∧ st.get i = some (.row (A.map u8) 5))
theorem new_ok {st : St} {b : AV} {A : List Int} (hw : st.wf) (hb : BytesR st b A) (hA : A.length ≤ 1000000) :
    ∃ r left st', obC 10 [b] st (.ptr r 0) st' ∧ st.next ≤ r ∧ st'.get r = some (.row [left, TT] 60) ∧ LeftR st' left (A.map u8) ∧ Keep st st' ∧ st'.lock = st.lock ∧ st.next ≤ st'.next := by
  rcases hb with ⟨rfl, rfl⟩ | ⟨hne, i, full, rfl, hg⟩
  · obtain ⟨x1, h1⟩ := run_of (newRunN st)
    refine ⟨st.next, .nils, _, ACalls.run hE (ov := noOv) noOv_ok h1 Ob.ok_nil, Nat.le_refl _, by rw [St.get_push, if_pos rfl], .inl ⟨rfl, .inl rfl⟩, fun i o ho _ => ?_, rfl, by simp⟩
    have := hw _ _ ho
    rw [St.get_push, if_neg (by omega)]; exact ho
  · have hi := hw _ _ hg
    have h0 : 0 < A.length := List.length_pos_iff.2 hne
    have hg' : (st.push (.row [] 5)).get i = some (.row (A.map u8) 5) := by rw [St.get_push, if_neg (by omega)]; exact hg
    have ha : appendA E0 (st.push (.row [] 5)) 24 24 (.sl st.next 1 0 0 true) (.sl i 1 0 A.length full) = some (.sl (st.next + 1) 1 0 A.length false, (st.push (.row [] 5)).push (.row (A.map u8) 5)) := by
      have := app_full (st := st.push (.row [] 5)) (id := st.next) (off := 0) (len := 0) (n := A.length) (vs := []) (c := A.map u8) (x := .sl i 1 0 A.length full) (by rw [St.get_push, if_pos rfl]) (by simp)
        (by rw [cells_sl hg' (by simp), List.drop_zero, List.take_of_length_le (by simp)]) (by simp) (by omega) (by omega)
      simpa using this
    obtain ⟨x1, h1⟩ := run_of (newRun st (fun _ => (st.push (.row [] 5)).push (.row (A.map u8) 5)) i 0 A.length (st.next + 1) A.length full)
    refine ⟨st.next + 2, .sl (st.next + 1) 1 0 A.length false, _, ACalls.run hE (ov := noOv) noOv_ok h1 ?_, by omega, by rw [St.get_push, if_pos (by simp)], .inr ⟨by simpa using hne, st.next + 1, 0, false, A, by simp, ?_, by simp⟩, fun j o ho _ => ?_, rfl, ?_⟩
    · simp only [Ob.ok_cons, Ob.ok_nil, and_true]
      exact ha
    · rw [St.get_push, if_neg (by simp), St.get_push, if_pos (by simp)]
    · have := hw _ _ ho
      rw [St.get_push, if_neg (by simp; omega), St.get_push, if_neg (by simp; omega), St.get_push, if_neg (by omega)]; exact ho
    · simp; omega
theorem loop_spl {A : List Int} {st0 : St} {r : Nat} (hA : A.length ≤ 1000000) (hw0 : st0.wf) (hr0 : st0.next ≤ r) {T : Tm} {st : St} {bs : List Int} {R : List (List Int)} (h : SplI A st0 r R bs T st) :
    AW Tryd.prog (.loop (splC 4)) (fun e T' st' => e = .exit 0 ∧ DoneI A st0 T' st') T st := by
  refine .loop (fun n T st => ∃ R bs, bs.length = n ∧ SplI A st0 r R bs T st) bs.length ⟨R, bs, rfl, h⟩ fun n T st hI => ?_
  obtain ⟨R, bs, rfl, hI⟩ := hI
  refine (spl_turn hI hA hw0 hr0).mono fun e T' st' hp => ?_
  rcases hp with ⟨rfl, hd⟩ | ⟨rfl, R', bs', hlt, hI'⟩
  · exact ⟨rfl, hd⟩
  · exact ⟨bs'.length, hlt, R', bs', rfl, hI'⟩
noncomputable def splEv0 (i : Nat) (l : List (Nat × AV)) (st : St) (x : List Or) := (evS Tryd.prog E0 noOv sitesT 100000 ssS (splC i) ⟨54, l, []⟩ st x).map fun q => (q.1, q.2.1.n, [q.2.1.get 0, q.2.1.get 3, q.2.1.get 4], q.2.2.1, q.2.2.2.2)
theorem sq0 (b : AV) (st : St) : splEv0 0 [(0, b)] st [] = some (.normal, 54, [b, .undef, .undef], st, []) := by kernel_rfl
theorem sq1 (b : AV) (st : St) : splEv0 1 [(0, b)] st [] = some (.normal, 54, [b, .nils, .undef], st, []) := by kernel_rfl
theorem sq2 (b : AV) (st : St) (r : Nat) (f1 : St → St) : splEv0 2 [(0, b), (3, .nils)] st [.eff (.ptr r 0) f1] = some (.normal, 54, [b, .nils, .ptr r 0], f1 st, [obC 10 [b] st (.ptr r 0) (f1 st)]) := by kernel_rfl
theorem spl_run0 {i : Nat} {l : List (Nat × AV)} {st st1 : St} {x : List Or} {e : Exit} {n : Nat} {a0 a3 a4 : AV} {ob : Ob} (h : splEv0 i l st x = some (e, n, [a0, a3, a4], st1, ob)) (hob : ob.ok) {T : Tm} (hn : T.n = 54) (hT : ∀ p ∈ l, T.get p.1 = p.2) :
    AW Tryd.prog (splC i) (fun e' T' st' => e' = e ∧ T'.n = n ∧ T'.get 0 = a0 ∧ T'.get 3 = a3 ∧ T'.get 4 = a4 ∧ st' = st1) T st := by
  obtain ⟨⟨e1, T1, s1, x1, o1⟩, h1, h2⟩ := Option.map_eq_some_iff.1 h
  simp only [Prod.mk.injEq, List.cons.injEq] at h2
  obtain ⟨rfl, h3, ⟨h4, h5, h6, _⟩, rfl, rfl⟩ := h2
  refine (AW.run hE (ov := noOv) noOv_ok h1 hob hn hT).mono fun e' T' st' hp => ?_
  obtain ⟨rfl, rfl, rfl⟩ := hp
  exact ⟨rfl, h3, h4, h5, h6, rfl⟩
theorem split_ok {st : St} {b : AV} {A : List Int} (hl : st.lock = []) (hb : BytesR st b A) (hA : A.length ≤ 1000000) :
    ACalls Tryd.prog 5 [b] (fun a st' => LR st' a (splitN A.length A) ∧ Keep st st' ∧ st'.lock = [] ∧ st.next ≤ st'.next) st := by
  refine ACalls.wf fun hw => ACalls.body (E := E0) hE Tryd.func5 body5 ?_
  obtain ⟨r, left, st1, hnew, hr0, hrd, hL, hk, hlk, hnx⟩ := new_ok hw hb hA
  have one : ∀ {P : Nat × AV → Prop} {p : Nat × AV}, P p → ∀ q ∈ [p], P q := fun h q hq => by obtain rfl := List.mem_singleton.1 hq; exact h
  have two : ∀ {P : Nat × AV → Prop} {p p' : Nat × AV}, P p → P p' → ∀ q ∈ [p, p'], P q := fun h h' q hq => by
    rcases List.mem_cons.1 hq with rfl | hq
    · exact h
    · obtain rfl := List.mem_singleton.1 hq; exact h'
  refine .seq ((spl_run0 (sq0 b st) Ob.ok_nil rfl (one rfl)).mono fun e T1 s1 ⟨he, n1, b0, _, _, hs⟩ => ?_)
  subst he; subst hs
  simp only [thenA]
  refine .scope (.seq ((spl_run0 (sq1 b s1) Ob.ok_nil n1 (one b0)).mono fun e T2 s2 ⟨he, n2, c0, c3, _, hs⟩ => ?_))
  subst he; subst hs
  simp only [thenA]
  refine .seq ((spl_run0 (sq2 b s2 r (fun _ => st1)) (by simp only [Ob.ok_cons, Ob.ok_nil, and_true]; exact hnew) n2 (two c0 c3)).mono fun e T3 s3 ⟨he, n3, _, d3, d4, hs⟩ => ?_)
  subst he; subst hs
  simp only [thenA]
  refine .seq ((spl_run (sp3 r s3) Ob.ok_nil n3 (two d3 d4)).mono fun e T4 s4 ⟨he, n4, _, e3, e4, hs⟩ => ?_)
  subst he; subst hs
  simp only [thenA]
  refine .seq (.block ((loop_spl hA hw hr0 (R := []) (bs := A) ⟨n4, e4, ⟨left, hrd, hL⟩, .inl ⟨rfl, e3⟩, by rw [hlk]; exact hl, hk, hnx, rfl, by simp, fun i sz o k f h => by rw [e3] at h; cases h⟩).mono fun e T5 s5 ⟨he, hd⟩ => ?_))
  subst he
  simp only [blockA, if_true, thenA]
  refine .seq ((spl_run (sp5 (T5.get 3) s5) Ob.ok_nil hd.n (one rfl)).mono fun e T6 s6 ⟨he, n6, f2, _, _, hs⟩ => ?_)
  subst he; subst hs
  simp only [thenA]
  refine .ret ⟨fun l h => (by cases h), [T6.get 2], rfl, ?_⟩
  simp only [oneOrTup]
  rw [f2]
  exact ⟨hd.ls, hd.keep, hd.lock, hd.next⟩
end Go.Proofs.YtemakfepcogeiaaDoor.E
