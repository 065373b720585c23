/- The program's disk (package files), over the abstract machine: a contract for each call. No condition beyond those that the lemmas name. -/
import Derived.Test.YtniaiciabfdbnaaNm
import Derived.Test.YtniaiciabfdbnaaEs
import Derived.Shelf.SlMaps.Clone
import Derived.Ground.SlmcProg
import Derived.Shelf.Lay
import Derived.WalkKit
namespace Go.Proofs.Ytniaiciabfdbnaa.E
open Go Go.Proofs
section
set_option maxRecDepth 100000
abbrev u8 (n : Int) : AV := .val (.int .u8 n)
abbrev u16 (n : Int) : AV := .val (.int .u16 n)
abbrev i64 (n : Int) : AV := .val (.int .i64 n)
abbrev str (s : ByteArray) : AV := .val (.string s)
abbrev TT : AV := .val (.bool true)
abbrev FF : AV := .val (.bool false)
def bo (b : Bool) : AV := .val (.bool b)
theorem hE : EOK' Try.prog E0 := envOf_ok (P := Try.prog) rfl
def obC (f : Nat) (args : List AV) (st : St) (a : AV) (st' : St) : Prop := ACalls Try.prog f args (fun r s => r = a ∧ s = st') st
def obL (st : St) (t : Nat) (p a : AV) : Prop := loadA E0 st t p = some a ∧ st = st
/-- a file of the disk -/
structure PF where
  name : ByteArray
  dv : AV
  bytes : List Int
  last : Nat
def ent (f : PF) : AV × AV := (str f.name, .agg [f.dv, i64 f.last])
theorem sameStr (a b : ByteArray) : Instr.sameNow .string (.string a) (.string b) = some (a == b) := by
  unfold Instr.sameNow
  rfl
def find : ByteArray → List PF → Option Nat
  | _, [] => none
  | n, f :: r => if n == f.name then some 0 else (find n r).map (· + 1)
theorem findA_ent (n : ByteArray) : ∀ (L : List PF) (i : Nat), findA .string (.string n) (L.map ent) i = some ((find n L).map fun k => (i + k, (ent (L.getD k ⟨n, .nils, [], 0⟩)).2))
  | [], i => rfl
  | f :: r, i => by
    simp only [List.map_cons, findA, ent, str, sameStr, find]
    by_cases h : (n == f.name) = true
    · simp [h]
    · simp only [h, Bool.false_eq_true, if_false]
      rw [findA_ent n r (i + 1)]
      cases find n r with
      | none => rfl
      | some k => simp [Nat.add_assoc, Nat.add_comm 1 k, ent]
theorem ty101' : E0.ty 101 = some ⟨.map 9 105, 1, 8, some (.map none)⟩ := by kernel_rfl
theorem key9 : plainKey E0 9 = some .string := by kernel_rfl
theorem z105 : ∃ i z, E0.ty 105 = some i ∧ i.zero = some z ∧ cv z = .agg [.nils, i64 0] := ⟨_, _, rfl, rfl, by kernel_rfl⟩
section
variable {st : St} {m : Nat} {bs : List Nat} {clock : Nat} {L : List PF} {n : ByteArray}
theorem lookup_hit (hm : st.get m = some (.map (L.map ent) bs clock)) {k : Nat} {f : PF} (hk : find n L = some k) (hf : L[k]? = some f) (ok : Bool) : lookupA E0 st 101 (.mp m) (str n) ok = some (if ok then .tup [(ent f).2, TT] else (ent f).2) := by
  obtain ⟨i, z, h1, h2, h3⟩ := z105
  simp only [lookupA, ty101', key9, h1, h2, hm, findA_ent, hk, Option.map_some, List.getD_eq_getElem?_getD, hf, Option.getD_some]
theorem lookup_miss (hm : st.get m = some (.map (L.map ent) bs clock)) (hk : find n L = none) (ok : Bool) : lookupA E0 st 101 (.mp m) (str n) ok = some (if ok then .tup [.agg [.nils, i64 0], FF] else .agg [.nils, i64 0]) := by
  obtain ⟨i, z, h1, h2, h3⟩ := z105
  simp only [lookupA, ty101', key9, h1, h2, hm, findA_ent, hk, Option.map_none, h3]
theorem update_hit (hm : st.get m = some (.map (L.map ent) bs clock)) (hl : m ∉ st.lock) {k : Nat} (hk : find n L = some k) (f : PF) (hn : f.name = n) : mapUpdateA E0 st 101 (.mp m) (str n) (ent f).2 = some (st.set m (.map ((L.set k f).map ent) bs clock)) := by
  simp only [mapUpdateA, ty101', key9, St.wget_of hm hl, findA_ent, hk, Option.map_some, Nat.zero_add, List.map_set]
  rw [← hn]; rfl
theorem update_miss (hm : st.get m = some (.map (L.map ent) bs clock)) (hl : m ∉ st.lock) (hk : find n L = none) (f : PF) (hn : f.name = n) : mapUpdateA E0 st 101 (.mp m) (str n) (ent f).2 = some (st.set m (.map ((L ++ [f]).map ent) (bs ++ [clock]) (clock + 1))) := by
  simp only [mapUpdateA, ty101', key9, St.wget_of hm hl, findA_ent, hk, Option.map_none, List.map_append, List.map_cons, List.map_nil]
  rw [← hn]; rfl
theorem delete_hit (hm : st.get m = some (.map (L.map ent) bs clock)) (hl : m ∉ st.lock) {k : Nat} (hk : find n L = some k) : mapDeleteA E0 st 101 (.mp m) (str n) = some (st.set m (.map ((L.eraseIdx k).map ent) (bs.eraseIdx k) clock)) := by
  simp only [mapDeleteA, ty101', key9, St.wget_of hm hl, findA_ent, hk, Option.map_some, Nat.zero_add, map_eraseIdx]
end
theorem ba_eq {a b : ByteArray} (h : (a == b) = true) : a = b := by
  cases a with
  | mk x => cases b with
    | mk y =>
      have h' : (x == y) = true := h
      rw [eq_of_beq h']
theorem ba_refl (a : ByteArray) : (a == a) = true := by
  cases a with
  | mk x => exact beq_self_eq_true x
theorem find_some : ∀ {n : ByteArray} {L : List PF} {k : Nat}, find n L = some k → ∃ f, L[k]? = some f ∧ f.name = n
  | n, [], k, h => by cases h
  | n, f :: r, k, h => by
    unfold find at h
    split at h
    · rename_i e
      cases h
      exact ⟨f, rfl, (ba_eq e).symm⟩
    · obtain ⟨j, hj, rfl⟩ := Option.map_eq_some_iff.1 h
      obtain ⟨g, h1, h2⟩ := find_some hj
      exact ⟨g, by simpa using h1, h2⟩
end
section
set_option maxRecDepth 100000
def boolI (s : Sem Value) : Bool := match s with | .pure (.bool b) => b | _ => false
def ltN (a b : Int) : Bool := boolI (binOp .lss 3 (.int .i64 a) (.int .i64 b))
def gtN (a b : Int) : Bool := boolI (binOp .gtr 3 (.int .i64 a) (.int .i64 b))
def geB (a b : Int) : Bool := boolI (binOp .geq 5 (.int .u8 a) (.int .u8 b))
def leB (a b : Int) : Bool := boolI (binOp .leq 5 (.int .u8 a) (.int .u8 b))
def eqB (a b : Int) : Bool := boolI (binOp .eql 5 (.int .u8 a) (.int .u8 b))
def neB (a b : Int) : Bool := boolI (binOp .neq 5 (.int .u8 a) (.int .u8 b))
def addN (a b : Int) : Int := valI (binOp .add 3 (.int .i64 a) (.int .i64 b))
def noOv : OvP := fun _ _ _ => none
def noS : Nat → List Nat := fun _ => []
noncomputable def mayP (i : Nat) : Code := match Try.f85.body with
  | some (.seq r0 (.seq (.seq r1 c1) (.seq (.seq r3 (.block 0 (.loop b))) (.seq r10 _)))) => [.seq r0 (.seq r1 c1), r3, b, r10, r0, .seq r1 c1].getD i .skip
  | _ => .skip
theorem body85 : Try.f85.body = some (.seq (mayP 4) (.seq (mayP 5) (.seq (.seq (mayP 1) (.block 0 (.loop (mayP 2)))) (.seq (mayP 3) .ret)))) := by kernel_rfl
noncomputable def mayEv (i : Nat) (l : List (Nat × AV)) (st : St) (x : List Or) := (evS Try.prog E0 noOv noS 100000 [7, 11, 16, 2020, 22, 25, 29, 32, 37, 41, 44] (mayP i) ⟨45, l, []⟩ st x).map fun q => (q.1, q.2.1.n, [q.2.1.get 0, q.2.1.get 2, q.2.1.get 14, q.2.1.get 15], q.2.2.1, q.2.2.2.2)
noncomputable def refP (i : Nat) : Code := match Try.f69.body with
  | some (.seq r0 (.seq r1 (.seq (.seq r2 (.block 0 (.loop b))) (.seq r8 _)))) => [r0, r1, r2, b, r8].getD i .skip
  | _ => .skip
theorem body69 : Try.f69.body = some (.seq (refP 0) (.seq (refP 1) (.seq (.seq (refP 2) (.block 0 (.loop (refP 3)))) (.seq (refP 4) .ret)))) := by kernel_rfl
noncomputable def refEv (i : Nat) (l : List (Nat × AV)) (st : St) (x : List Or) := (evS Try.prog E0 noOv noS 100000 [8, 12, 17, 2022, 24, 27, 32, 35, 41, 45, 19] (refP i) ⟨48, l, []⟩ st x).map fun q => (q.1, q.2.1.n, [q.2.1.get 0, q.2.1.get 2, q.2.1.get 3, q.2.1.get 4], q.2.2.1, q.2.2.2.2)
section
variable (s : ByteArray) (n k c j : Int) (st : St) (q : AV)
theorem may_a : mayEv 2 [(0, str s), (14, i64 n), (15, i64 k)] st [TT, .eff (u8 c) id, TT, TT, i64 j] = some (.normal, 45, [str s, .undef, i64 n, i64 j], st, [bo (ltN k n) = TT, indexA E0 9 (str s) (i64 k) = some (u8 c) ∧ st = st, bo (geB c 97) = TT, bo (leB c 122) = TT, i64 (addN k 1) = i64 j]) := by kernel_rfl
theorem may_d : mayEv 2 [(0, str s), (14, i64 n), (15, i64 k)] st [TT, .eff (u8 c) id, FF, TT, TT, i64 j] = some (.normal, 45, [str s, .undef, i64 n, i64 j], st, [bo (ltN k n) = TT, indexA E0 9 (str s) (i64 k) = some (u8 c) ∧ st = st, bo (geB c 97) = FF, bo (geB c 48) = TT, bo (leB c 57) = TT, i64 (addN k 1) = i64 j]) := by kernel_rfl
theorem may_m : mayEv 2 [(0, str s), (14, i64 n), (15, i64 k)] st [TT, .eff (u8 c) id, FF, FF, TT, i64 j] = some (.normal, 45, [str s, .undef, i64 n, i64 j], st, [bo (ltN k n) = TT, indexA E0 9 (str s) (i64 k) = some (u8 c) ∧ st = st, bo (geB c 97) = FF, bo (geB c 48) = FF, bo (eqB c 45) = TT, i64 (addN k 1) = i64 j]) := by kernel_rfl
theorem may_p : mayEv 2 [(0, str s), (14, i64 n), (15, i64 k)] st [TT, .eff (u8 c) id, FF, FF, FF, TT, i64 j] = some (.normal, 45, [str s, .undef, i64 n, i64 j], st, [bo (ltN k n) = TT, indexA E0 9 (str s) (i64 k) = some (u8 c) ∧ st = st, bo (geB c 97) = FF, bo (geB c 48) = FF, bo (eqB c 45) = FF, bo (eqB c 46) = TT, i64 (addN k 1) = i64 j]) := by kernel_rfl
theorem may_x : mayEv 2 [(0, str s), (14, i64 n), (15, i64 k)] st [TT, .eff (u8 c) id, TT, FF, TT, FF, FF, FF] = some (.ret, 45, [str s, FF, i64 n, i64 k], st, [bo (ltN k n) = TT, indexA E0 9 (str s) (i64 k) = some (u8 c) ∧ st = st, bo (geB c 97) = TT, bo (leB c 122) = FF, bo (geB c 48) = TT, bo (leB c 57) = FF, bo (eqB c 45) = FF, bo (eqB c 46) = FF]) := by kernel_rfl
theorem may_y : mayEv 2 [(0, str s), (14, i64 n), (15, i64 k)] st [TT, .eff (u8 c) id, FF, TT, FF, FF, FF] = some (.ret, 45, [str s, FF, i64 n, i64 k], st, [bo (ltN k n) = TT, indexA E0 9 (str s) (i64 k) = some (u8 c) ∧ st = st, bo (geB c 97) = FF, bo (geB c 48) = TT, bo (leB c 57) = FF, bo (eqB c 45) = FF, bo (eqB c 46) = FF]) := by kernel_rfl
theorem may_z : mayEv 2 [(0, str s), (14, i64 n), (15, i64 k)] st [TT, .eff (u8 c) id, FF, FF, FF, FF] = some (.ret, 45, [str s, FF, i64 n, i64 k], st, [bo (ltN k n) = TT, indexA E0 9 (str s) (i64 k) = some (u8 c) ∧ st = st, bo (geB c 97) = FF, bo (geB c 48) = FF, bo (eqB c 45) = FF, bo (eqB c 46) = FF]) := by kernel_rfl
theorem may_end : mayEv 2 [(0, str s), (14, i64 n), (15, i64 k)] st [FF] = some (.exit 0, 45, [str s, .undef, i64 n, i64 k], st, [bo (ltN k n) = FF]) := by kernel_rfl
theorem may_0 : mayEv 5 [(0, str s), (2, FF)] st [TT] = some (.ret, 45, [str s, FF, .undef, .undef], st, [bo (ltN s.size 1) = TT]) := by kernel_rfl
theorem may_1 : mayEv 5 [(0, str s), (2, FF)] st [FF, TT] = some (.ret, 45, [str s, FF, .undef, .undef], st, [bo (ltN s.size 1) = FF, bo (gtN s.size 32) = TT]) := by kernel_rfl
theorem may_2 : mayEv 5 [(0, str s), (2, FF)] st [FF, FF] = some (.normal, 45, [str s, FF, .undef, .undef], st, [bo (ltN s.size 1) = FF, bo (gtN s.size 32) = FF]) := by kernel_rfl
theorem may_5 : mayEv 4 [(0, str s)] st [] = some (.normal, 45, [str s, FF, .undef, .undef], st, []) := by kernel_rfl
theorem may_3 : mayEv 1 [(0, str s)] st [] = some (.normal, 45, [str s, .undef, i64 s.size, i64 0], st, []) := by kernel_rfl
theorem may_4 : mayEv 3 [] st [] = some (.normal, 45, [.undef, TT, .undef, .undef], st, []) := by kernel_rfl
theorem ref_a : refEv 3 [(0, str s), (3, q), (4, i64 k)] st [TT, .eff (u8 c) id, TT, TT, i64 j] = some (.normal, 48, [str s, .undef, q, i64 j], st, [bo (ltN k s.size) = TT, indexA E0 9 (str s) (i64 k) = some (u8 c) ∧ st = st, bo (geB c 97) = TT, bo (leB c 122) = TT, i64 (addN k 1) = i64 j]) := by kernel_rfl
theorem ref_d : refEv 3 [(0, str s), (3, q), (4, i64 k)] st [TT, .eff (u8 c) id, FF, TT, TT, i64 j] = some (.normal, 48, [str s, .undef, q, i64 j], st, [bo (ltN k s.size) = TT, indexA E0 9 (str s) (i64 k) = some (u8 c) ∧ st = st, bo (geB c 97) = FF, bo (geB c 48) = TT, bo (leB c 57) = TT, i64 (addN k 1) = i64 j]) := by kernel_rfl
theorem ref_m : refEv 3 [(0, str s), (3, q), (4, i64 k)] st [TT, .eff (u8 c) id, FF, FF, FF, i64 j] = some (.normal, 48, [str s, .undef, q, i64 j], st, [bo (ltN k s.size) = TT, indexA E0 9 (str s) (i64 k) = some (u8 c) ∧ st = st, bo (geB c 97) = FF, bo (geB c 48) = FF, bo (neB c 45) = FF, i64 (addN k 1) = i64 j]) := by kernel_rfl
theorem ref_p : refEv 3 [(0, str s), (3, q), (4, i64 k)] st [TT, .eff (u8 c) id, FF, FF, TT, FF, i64 j] = some (.normal, 48, [str s, .undef, q, i64 j], st, [bo (ltN k s.size) = TT, indexA E0 9 (str s) (i64 k) = some (u8 c) ∧ st = st, bo (geB c 97) = FF, bo (geB c 48) = FF, bo (neB c 45) = TT, bo (neB c 46) = FF, i64 (addN k 1) = i64 j]) := by kernel_rfl
theorem ref_x : refEv 3 [(0, str s), (3, q), (4, i64 k)] st [TT, .eff (u8 c) id, TT, FF, TT, FF, TT, TT, i64 j] = some (.normal, 48, [str s, .undef, FF, i64 j], st, [bo (ltN k s.size) = TT, indexA E0 9 (str s) (i64 k) = some (u8 c) ∧ st = st, bo (geB c 97) = TT, bo (leB c 122) = FF, bo (geB c 48) = TT, bo (leB c 57) = FF, bo (neB c 45) = TT, bo (neB c 46) = TT, i64 (addN k 1) = i64 j]) := by kernel_rfl
theorem ref_y : refEv 3 [(0, str s), (3, q), (4, i64 k)] st [TT, .eff (u8 c) id, FF, TT, FF, TT, TT, i64 j] = some (.normal, 48, [str s, .undef, FF, i64 j], st, [bo (ltN k s.size) = TT, indexA E0 9 (str s) (i64 k) = some (u8 c) ∧ st = st, bo (geB c 97) = FF, bo (geB c 48) = TT, bo (leB c 57) = FF, bo (neB c 45) = TT, bo (neB c 46) = TT, i64 (addN k 1) = i64 j]) := by kernel_rfl
theorem ref_z : refEv 3 [(0, str s), (3, q), (4, i64 k)] st [TT, .eff (u8 c) id, FF, FF, TT, TT, i64 j] = some (.normal, 48, [str s, .undef, FF, i64 j], st, [bo (ltN k s.size) = TT, indexA E0 9 (str s) (i64 k) = some (u8 c) ∧ st = st, bo (geB c 97) = FF, bo (geB c 48) = FF, bo (neB c 45) = TT, bo (neB c 46) = TT, i64 (addN k 1) = i64 j]) := by kernel_rfl
theorem ref_end : refEv 3 [(0, str s), (3, q), (4, i64 k)] st [FF] = some (.exit 0, 48, [str s, .undef, q, i64 k], st, [bo (ltN k s.size) = FF]) := by kernel_rfl
theorem ref_0 : refEv 0 [(0, str s)] st [] = some (.normal, 48, [str s, FF, .undef, .undef], st, []) := by kernel_rfl
theorem ref_1a : refEv 1 [(0, str s)] st [FF] = some (.normal, 48, [str s, .undef, FF, .undef], st, [bo (gtN s.size 0) = FF]) := by kernel_rfl
theorem ref_1b (b : Bool) : refEv 1 [(0, str s)] st [TT, bo b] = some (.normal, 48, [str s, .undef, bo b, .undef], st, [bo (gtN s.size 0) = TT, bo (ltN s.size 33) = bo b]) := by kernel_rfl
theorem ref_2 : refEv 2 [(0, str s), (3, q)] st [] = some (.normal, 48, [str s, .undef, q, i64 0], st, []) := by kernel_rfl
theorem ref_4 : refEv 4 [(3, q)] st [] = some (.normal, 48, [.undef, q, q, .undef], st, []) := by kernel_rfl
end
end
section
set_option maxRecDepth 4000
theorem ob_T {b : Bool} (h : b = true) : bo b = TT := by rw [h]; rfl
theorem ob_F {b : Bool} (h : b = false) : bo b = FF := by rw [h]; rfl
theorem ltN_eq (a b : Int) : ltN a b = decide (a < b) := rfl
theorem gtN_eq (a b : Int) : gtN a b = decide (a > b) := rfl
theorem geB_eq (a b : Int) : geB a b = decide (a ≥ b) := rfl
theorem leB_eq (a b : Int) : leB a b = decide (a ≤ b) := rfl
theorem eqB_eq (a b : Int) : eqB a b = (a == b) := rfl
theorem neB_eq (a b : Int) : neB a b = (a != b) := rfl
theorem lt_F {a b : Int} (h : b ≤ a) : bo (ltN a b) = FF := ob_F (by rw [ltN_eq]; simp; omega)
theorem lt_T {a b : Int} (h : a < b) : bo (ltN a b) = TT := ob_T (by rw [ltN_eq]; simp; omega)
theorem gt_F {a b : Int} (h : a ≤ b) : bo (gtN a b) = FF := ob_F (by rw [gtN_eq]; simp; omega)
theorem gt_T {a b : Int} (h : b < a) : bo (gtN a b) = TT := ob_T (by rw [gtN_eq]; simp; omega)
theorem ge_F {a b : Int} (h : a < b) : bo (geB a b) = FF := ob_F (by rw [geB_eq]; simp; omega)
theorem ge_T {a b : Int} (h : b ≤ a) : bo (geB a b) = TT := ob_T (by rw [geB_eq]; simp; omega)
theorem le_F {a b : Int} (h : b < a) : bo (leB a b) = FF := ob_F (by rw [leB_eq]; simp; omega)
theorem le_T {a b : Int} (h : a ≤ b) : bo (leB a b) = TT := ob_T (by rw [leB_eq]; simp; omega)
theorem eq_T {a b : Int} (h : a = b) : bo (eqB a b) = TT := ob_T (by rw [eqB_eq, h]; simp)
theorem eq_F {a b : Int} (h : a ≠ b) : bo (eqB a b) = FF := ob_F (by rw [eqB_eq, beq_eq_false_iff_ne]; exact h)
theorem ne_F {a b : Int} (h : a = b) : bo (neB a b) = FF := ob_F (by rw [neB_eq, h]; simp)
theorem ne_T {a b : Int} (h : a ≠ b) : bo (neB a b) = TT := ob_T (by rw [neB_eq]; simpa using h)
theorem addN_eq (a b : Int) (h : 0 ≤ a + b ∧ a + b ≤ 9223372036854775807) : addN a b = a + b := by
  have : addN a b = IntKind.i64.wrap (a + b) := rfl
  rw [this, IntWalk.i64_in _ (by omega)]
/-- a sign that names may have -/
def mayC (c : Int) : Prop := (97 ≤ c ∧ c ≤ 122) ∨ (48 ≤ c ∧ c ≤ 57) ∨ c = 45 ∨ c = 46
instance (c : Int) : Decidable (mayC c) := by unfold mayC; infer_instance
def sg (s : ByteArray) (k : Nat) : Int := (((s[k]?).getD 0).toNat : Int)
theorem ty9' : ∃ i, E0.ty 9 = some i ∧ i.desc = .string := ⟨_, rfl, by kernel_rfl⟩
def mayS (s : ByteArray) : Prop := 1 ≤ s.size ∧ s.size ≤ 32 ∧ ∀ k, k < s.size → mayC (sg s k)
theorem index_ok (s : ByteArray) (k : Nat) (hk : k < s.size) : indexA E0 9 (str s) (i64 k) = some (u8 (sg s k)) := by
  obtain ⟨i, h1, h2⟩ := ty9'
  have hs : s[k]? = some s[k] := getElem?_pos s k hk
  simp only [indexA, h1, h2]
  rw [if_pos (by omega)]
  have e : ((k : Int)).toNat = k := rfl
  rw [e, sg, hs]; rfl
theorem any_run {c : Code} {ss : List Nat} {sites : Nat → List Nat} {n0 : Nat} {l : List (Nat × AV)} {st st1 : St} {x : List Or} {e : Exit} {n : Nat} {F : List AV} {ob : Ob} {G : Tm → List AV} (h : ((evS Try.prog E0 noOv sites 100000 ss c ⟨n0, l, []⟩ st x).map fun q => (q.1, q.2.1.n, G q.2.1, q.2.2.1, q.2.2.2.2)) = some (e, n, F, st1, ob)) (hob : ob.ok) {T : Tm} (hn : T.n = n0) (hT : ∀ p ∈ l, T.get p.1 = p.2) :
    AW Try.prog c (fun e' T' st' => e' = e ∧ T'.n = n ∧ G T' = F ∧ st' = st1) T st := by
  obtain ⟨⟨e1, T1, s1, x1, o1⟩, h1, h2⟩ := Option.map_eq_some_iff.1 h
  simp only [Prod.mk.injEq] at h2
  obtain ⟨rfl, h3, h4, rfl, rfl⟩ := h2
  refine (AW.run hE (ov := noOv) noOv_ok h1 hob hn hT).mono fun e' T' st' hp => ?_
  obtain ⟨rfl, rfl, rfl⟩ := hp
  exact ⟨rfl, h3, h4, rfl⟩
theorem one {P : Nat × AV → Prop} {p : Nat × AV} (h : P p) : ∀ q ∈ [p], P q := fun q hq => by obtain rfl := List.mem_singleton.1 hq; exact h
theorem conz {P : Nat × AV → Prop} {p : Nat × AV} {r : List (Nat × AV)} (h : P p) (h' : ∀ q ∈ r, P q) : ∀ q ∈ p :: r, P q := fun q hq => by
  rcases List.mem_cons.1 hq with rfl | hq
  · exact h
  · exact h' q hq
def GM (T : Tm) : List AV := [T.get 0, T.get 2, T.get 14, T.get 15]
theorem may_turn {s : ByteArray} {k : Nat} {T : Tm} {st : St} (hk : k < s.size) (hs : s.size ≤ 32) (hn : T.n = 45) (h0 : T.get 0 = str s) (h14 : T.get 14 = i64 s.size) (h15 : T.get 15 = i64 k) :
    AW Try.prog (mayP 2) (fun e T' st' => T'.n = 45 ∧ st' = st ∧ ((mayC (sg s k) ∧ e = .normal ∧ T'.get 0 = str s ∧ T'.get 14 = i64 s.size ∧ T'.get 15 = i64 ((k + 1 : Nat) : Int)) ∨ (¬ mayC (sg s k) ∧ e = .ret ∧ T'.get 2 = FF))) T st := by
  have hT : ∀ p ∈ [(0, str s), (14, i64 s.size), (15, i64 k)], T.get p.1 = p.2 := conz h0 (conz h14 (one h15))
  have hx := index_ok s k hk
  have hlt : bo (ltN k s.size) = TT := lt_T (by omega)
  have hadd : i64 (addN k 1) = i64 ((k + 1 : Nat) : Int) := by rw [addN_eq _ _ (by omega)]; rfl
  generalize sg s k = c at *
  have good : ∀ {x : List Or} {ob : Ob}, mayEv 2 [(0, str s), (14, i64 s.size), (15, i64 k)] st x = some (.normal, 45, [str s, .undef, i64 s.size, i64 ((k + 1 : Nat) : Int)], st, ob) → ob.ok → mayC c → AW Try.prog (mayP 2) (fun e T' st' => T'.n = 45 ∧ st' = st ∧ ((mayC c ∧ e = .normal ∧ T'.get 0 = str s ∧ T'.get 14 = i64 s.size ∧ T'.get 15 = i64 ((k + 1 : Nat) : Int)) ∨ (¬ mayC c ∧ e = .ret ∧ T'.get 2 = FF))) T st := fun h hob hc => by
    refine (any_run (G := GM) h hob hn hT).mono fun e T' st' ⟨he, hn', hF, hst⟩ => ?_
    simp only [GM, List.cons.injEq, and_true] at hF
    exact ⟨hn', hst, .inl ⟨hc, he, hF.1, hF.2.2.1, hF.2.2.2⟩⟩
  have bad : ∀ {x : List Or} {ob : Ob}, mayEv 2 [(0, str s), (14, i64 s.size), (15, i64 k)] st x = some (.ret, 45, [str s, FF, i64 s.size, i64 k], st, ob) → ob.ok → ¬ mayC c → AW Try.prog (mayP 2) (fun e T' st' => T'.n = 45 ∧ st' = st ∧ ((mayC c ∧ e = .normal ∧ T'.get 0 = str s ∧ T'.get 14 = i64 s.size ∧ T'.get 15 = i64 ((k + 1 : Nat) : Int)) ∨ (¬ mayC c ∧ e = .ret ∧ T'.get 2 = FF))) T st := fun h hob hc => by
    refine (any_run (G := GM) h hob hn hT).mono fun e T' st' ⟨he, hn', hF, hst⟩ => ?_
    simp only [GM, List.cons.injEq, and_true] at hF
    exact ⟨hn', hst, .inr ⟨hc, he, hF.2.1⟩⟩
  rcases Int.lt_or_le c 97 with h1 | h1
  · rcases Int.lt_or_le c 48 with h2 | h2
    · by_cases h3 : c = 45
      · exact good (may_m s s.size k c _ st) (by simp only [Ob.ok_cons, Ob.ok_nil, and_true]; exact ⟨hlt, hx, ge_F h1, ge_F h2, eq_T h3, hadd⟩) (.inr (.inr (.inl h3)))
      · by_cases h4 : c = 46
        · exact good (may_p s s.size k c _ st) (by simp only [Ob.ok_cons, Ob.ok_nil, and_true]; exact ⟨hlt, hx, ge_F h1, ge_F h2, eq_F h3, eq_T h4, hadd⟩) (.inr (.inr (.inr h4)))
        · exact bad (may_z s s.size k c st) (by simp only [Ob.ok_cons, Ob.ok_nil, and_true]; exact ⟨hlt, hx, ge_F h1, ge_F h2, eq_F h3, eq_F h4⟩) (by unfold mayC; omega)
    · rcases Int.lt_or_le 57 c with h3 | h3
      · exact bad (may_y s s.size k c st) (by simp only [Ob.ok_cons, Ob.ok_nil, and_true]; exact ⟨hlt, hx, ge_F h1, ge_T h2, le_F h3, eq_F (by omega), eq_F (by omega)⟩) (by unfold mayC; omega)
      · exact good (may_d s s.size k c _ st) (by simp only [Ob.ok_cons, Ob.ok_nil, and_true]; exact ⟨hlt, hx, ge_F h1, ge_T h2, le_T h3, hadd⟩) (.inr (.inl ⟨h2, h3⟩))
  · rcases Int.lt_or_le 122 c with h2 | h2
    · exact bad (may_x s s.size k c st) (by simp only [Ob.ok_cons, Ob.ok_nil, and_true]; exact ⟨hlt, hx, ge_T h1, le_F h2, ge_T (by omega), le_F (by omega), eq_F (by omega), eq_F (by omega)⟩) (by unfold mayC; omega)
    · exact good (may_a s s.size k c _ st) (by simp only [Ob.ok_cons, Ob.ok_nil, and_true]; exact ⟨hlt, hx, ge_T h1, le_T h2, hadd⟩) (.inl ⟨h1, h2⟩)
theorem may_loop {s : ByteArray} (hs : s.size ≤ 32) {T : Tm} {st : St} (hn : T.n = 45) (h0 : T.get 0 = str s) (h14 : T.get 14 = i64 s.size) (h15 : T.get 15 = i64 0) :
    AW Try.prog (.loop (mayP 2)) (fun e T' st' => T'.n = 45 ∧ st' = st ∧ ((e = .exit 0 ∧ ∀ k, k < s.size → mayC (sg s k)) ∨ (e = .ret ∧ T'.get 2 = FF ∧ ¬ ∀ k, k < s.size → mayC (sg s k)))) T st := by
  refine .loop (fun n T st' => ∃ k : Nat, k ≤ s.size ∧ n = s.size - k ∧ st' = st ∧ T.n = 45 ∧ T.get 0 = str s ∧ T.get 14 = i64 s.size ∧ T.get 15 = i64 k ∧ ∀ j, j < k → mayC (sg s j)) s.size ⟨0, by omega, rfl, rfl, hn, h0, h14, h15, fun j hj => by omega⟩ fun n T st' hI => ?_
  obtain ⟨k, hk, rfl, rfl, hn, h0, h14, h15, hg⟩ := hI
  by_cases hlt : k < s.size
  · refine (may_turn hlt hs hn h0 h14 h15).mono fun e T' st2 ⟨hn', hst, h⟩ => ?_
    subst hst
    rcases h with ⟨hc, rfl, q0, q14, q15⟩ | ⟨hc, rfl, q2⟩
    · refine ⟨s.size - (k + 1), by omega, k + 1, by omega, rfl, rfl, hn', q0, q14, q15, fun j hj => ?_⟩
      rcases Nat.lt_succ_iff_lt_or_eq.1 hj with h | rfl
      · exact hg j h
      · exact hc
    · exact ⟨hn', rfl, .inr ⟨rfl, q2, fun h => hc (h k hlt)⟩⟩
  · obtain rfl : k = s.size := by omega
    refine (any_run (G := GM) (may_end s s.size s.size st') (by simp only [Ob.ok_cons, Ob.ok_nil, and_true]; exact lt_F (by omega)) hn (conz h0 (conz h14 (one h15)))).mono fun e T' st2 ⟨he, hn', _, hst⟩ => ?_
    subst he; subst hst
    exact ⟨hn', rfl, .inl ⟨rfl, hg⟩⟩
instance (s : ByteArray) : Decidable (mayS s) := by unfold mayS; infer_instance
theorem may_ok (s : ByteArray) (st : St) : obC 85 [str s] st (bo (decide (mayS s))) st := by
  refine ACalls.body (E := E0) hE Try.func85 body85 ?_
  refine .seq ((any_run (G := GM) (may_5 s st) Ob.ok_nil rfl (one rfl)).mono fun e T1 s1 ⟨he, n1, F1, hst⟩ => ?_)
  subst he; subst hst
  simp only [GM, List.cons.injEq] at F1
  simp only [thenA]
  have hT := conz (P := fun p => T1.get p.1 = p.2) (p := (0, str s)) F1.1 (one (p := (2, FF)) F1.2.1)
  have fin : ∀ {T : Tm} {b : Bool}, T.get 2 = bo b → (mayS s ↔ b = true) → endA E0 Try.f85 (fun r s' => r = bo (decide (mayS s)) ∧ s' = s1) .ret T s1 := fun {T b} h hb => by
    refine ⟨[T.get 2], rfl, ?_, rfl⟩
    simp only [oneOrTup]
    rw [h]
    congr 1
    cases b
    · exact (decide_eq_false fun h => by have := hb.1 h; cases this).symm
    · exact (decide_eq_true (hb.2 rfl)).symm
  by_cases h1 : s.size < 1
  · refine .seq ((any_run (G := GM) (may_0 s s1) (by simp only [Ob.ok_cons, Ob.ok_nil, and_true]; exact lt_T (by omega)) n1 hT).mono fun e T' st' ⟨he, hn, hF, hst⟩ => ?_)
    subst he; subst hst
    simp only [GM, List.cons.injEq] at hF
    simp only [thenA]
    exact fin (b := false) hF.2.1 ⟨fun h => by have := h.1; omega, fun h => by cases h⟩
  by_cases h2 : 32 < s.size
  · refine .seq ((any_run (G := GM) (may_1 s s1) (by simp only [Ob.ok_cons, Ob.ok_nil, and_true]; exact ⟨lt_F (by omega), gt_T (by omega)⟩) n1 hT).mono fun e T' st' ⟨he, hn, hF, hst⟩ => ?_)
    subst he; subst hst
    simp only [GM, List.cons.injEq] at hF
    simp only [thenA]
    exact fin (b := false) hF.2.1 ⟨fun h => by have := h.2.1; omega, fun h => by cases h⟩
  refine .seq ((any_run (G := GM) (may_2 s s1) (by simp only [Ob.ok_cons, Ob.ok_nil, and_true]; exact ⟨lt_F (by omega), gt_F (by omega)⟩) n1 hT).mono fun e T2 s2 ⟨he, n2, hF, hst⟩ => ?_)
  subst he; subst hst
  simp only [GM, List.cons.injEq] at hF
  simp only [thenA]
  refine .seq (.seq ((any_run (G := GM) (may_3 s s2) Ob.ok_nil n2 (one hF.1)).mono fun e T3 s3 ⟨he, n3, hF3, hst⟩ => ?_))
  subst he; subst hst
  simp only [GM, List.cons.injEq, and_true] at hF3
  simp only [thenA]
  refine .block ((may_loop (by omega) n3 hF3.1 hF3.2.2.1 hF3.2.2.2).mono fun e T4 s4 ⟨n4, hst, h⟩ => ?_)
  subst hst
  rcases h with ⟨rfl, hall⟩ | ⟨rfl, q2, hno⟩
  · simp only [blockA, if_true, thenA]
    refine .seq ((any_run (G := GM) (may_4 s4) Ob.ok_nil n4 (fun p hp => by cases hp)).mono fun e T5 s5 ⟨he, n5, hF5, hst⟩ => ?_)
    subst he; subst hst
    simp only [GM, List.cons.injEq] at hF5
    simp only [thenA]
    exact .ret (fin (b := true) hF5.2.1 ⟨fun _ => rfl, fun _ => ⟨by omega, by omega, hall⟩⟩)
  · simp only [blockA, thenA]
    exact fin (b := false) q2 ⟨fun h => absurd h.2.2 hno, fun h => by cases h⟩
end
section
set_option maxRecDepth 4000
def GR (T : Tm) : List AV := [T.get 0, T.get 2, T.get 3, T.get 4]
theorem ref_turn {s : ByteArray} {k : Nat} {b : Bool} {T : Tm} {st : St} (hk : k < s.size) (hs : s.size ≤ 1000000000000) (hn : T.n = 48) (h0 : T.get 0 = str s) (h3 : T.get 3 = bo b) (h4 : T.get 4 = i64 k) :
    AW Try.prog (refP 3) (fun e T' st' => e = .normal ∧ T'.n = 48 ∧ st' = st ∧ T'.get 0 = str s ∧ T'.get 3 = bo (b && decide (mayC (sg s k))) ∧ T'.get 4 = i64 ((k + 1 : Nat) : Int)) T st := by
  have hT : ∀ p ∈ [(0, str s), (3, bo b), (4, i64 k)], T.get p.1 = p.2 := conz h0 (conz h3 (one h4))
  have hx := index_ok s k hk
  have hlt : bo (ltN k s.size) = TT := lt_T (by omega)
  have hadd : i64 (addN k 1) = i64 ((k + 1 : Nat) : Int) := by rw [addN_eq _ _ (by omega)]; rfl
  generalize sg s k = c at *
  have good : ∀ {x : List Or} {ob : Ob}, refEv 3 [(0, str s), (3, bo b), (4, i64 k)] st x = some (.normal, 48, [str s, .undef, bo b, i64 ((k + 1 : Nat) : Int)], st, ob) → ob.ok → mayC c → AW Try.prog (refP 3) (fun e T' st' => e = .normal ∧ T'.n = 48 ∧ st' = st ∧ T'.get 0 = str s ∧ T'.get 3 = bo (b && decide (mayC c)) ∧ T'.get 4 = i64 ((k + 1 : Nat) : Int)) T st := fun h hob hc => by
    refine (any_run (G := GR) h hob hn hT).mono fun e T' st' ⟨he, hn', hF, hst⟩ => ?_
    simp only [GR, List.cons.injEq, and_true] at hF
    exact ⟨he, hn', hst, hF.1, by rw [hF.2.2.1, decide_eq_true hc, Bool.and_true], hF.2.2.2⟩
  have bad : ∀ {x : List Or} {ob : Ob}, refEv 3 [(0, str s), (3, bo b), (4, i64 k)] st x = some (.normal, 48, [str s, .undef, FF, i64 ((k + 1 : Nat) : Int)], st, ob) → ob.ok → ¬ mayC c → AW Try.prog (refP 3) (fun e T' st' => e = .normal ∧ T'.n = 48 ∧ st' = st ∧ T'.get 0 = str s ∧ T'.get 3 = bo (b && decide (mayC c)) ∧ T'.get 4 = i64 ((k + 1 : Nat) : Int)) T st := fun h hob hc => by
    refine (any_run (G := GR) h hob hn hT).mono fun e T' st' ⟨he, hn', hF, hst⟩ => ?_
    simp only [GR, List.cons.injEq, and_true] at hF
    exact ⟨he, hn', hst, hF.1, by rw [hF.2.2.1, decide_eq_false hc, Bool.and_false]; rfl, hF.2.2.2⟩
  rcases Int.lt_or_le c 97 with h1 | h1
  · rcases Int.lt_or_le c 48 with h2 | h2
    · by_cases h3 : c = 45
      · exact good (ref_m s k c _ st (bo b)) (by simp only [Ob.ok_cons, Ob.ok_nil, and_true]; exact ⟨hlt, hx, ge_F h1, ge_F h2, ne_F h3, hadd⟩) (.inr (.inr (.inl h3)))
      · by_cases h4 : c = 46
        · exact good (ref_p s k c _ st (bo b)) (by simp only [Ob.ok_cons, Ob.ok_nil, and_true]; exact ⟨hlt, hx, ge_F h1, ge_F h2, ne_T h3, ne_F h4, hadd⟩) (.inr (.inr (.inr h4)))
        · exact bad (ref_z s k c _ st (bo b)) (by simp only [Ob.ok_cons, Ob.ok_nil, and_true]; exact ⟨hlt, hx, ge_F h1, ge_F h2, ne_T h3, ne_T h4, hadd⟩) (by unfold mayC; omega)
    · rcases Int.lt_or_le 57 c with h3 | h3
      · exact bad (ref_y s k c _ st (bo b)) (by simp only [Ob.ok_cons, Ob.ok_nil, and_true]; exact ⟨hlt, hx, ge_F h1, ge_T h2, le_F h3, ne_T (by omega), ne_T (by omega), hadd⟩) (by unfold mayC; omega)
      · exact good (ref_d s k c _ st (bo b)) (by simp only [Ob.ok_cons, Ob.ok_nil, and_true]; exact ⟨hlt, hx, ge_F h1, ge_T h2, le_T h3, hadd⟩) (.inr (.inl ⟨h2, h3⟩))
  · rcases Int.lt_or_le 122 c with h2 | h2
    · exact bad (ref_x s k c _ st (bo b)) (by simp only [Ob.ok_cons, Ob.ok_nil, and_true]; exact ⟨hlt, hx, ge_T h1, le_F h2, ge_T (by omega), le_F (by omega), ne_T (by omega), ne_T (by omega), hadd⟩) (by unfold mayC; omega)
    · exact good (ref_a s k c _ st (bo b)) (by simp only [Ob.ok_cons, Ob.ok_nil, and_true]; exact ⟨hlt, hx, ge_T h1, le_T h2, hadd⟩) (.inl ⟨h1, h2⟩)
theorem ref_loop {s : ByteArray} {b : Bool} (hs : s.size ≤ 1000000000000) {T : Tm} {st : St} (hn : T.n = 48) (h0 : T.get 0 = str s) (h3 : T.get 3 = bo b) (h4 : T.get 4 = i64 0) :
    AW Try.prog (.loop (refP 3)) (fun e T' st' => e = .exit 0 ∧ T'.n = 48 ∧ st' = st ∧ T'.get 3 = bo (b && decide (∀ k, k < s.size → mayC (sg s k)))) T st := by
  refine .loop (fun n T st' => ∃ k : Nat, k ≤ s.size ∧ n = s.size - k ∧ st' = st ∧ T.n = 48 ∧ T.get 0 = str s ∧ T.get 3 = bo (b && decide (∀ j, j < k → mayC (sg s j))) ∧ T.get 4 = i64 k) s.size ⟨0, by omega, rfl, rfl, hn, h0, by rw [h3, decide_eq_true (fun j hj => by omega), Bool.and_true], h4⟩ fun n T st' hI => ?_
  obtain ⟨k, hk, rfl, rfl, hn, h0, h3, h4⟩ := hI
  by_cases hlt : k < s.size
  · refine (ref_turn hlt hs hn h0 h3 h4).mono fun e T' st2 ⟨he, hn', hst, q0, q3, q4⟩ => ?_
    subst he; subst hst
    refine ⟨s.size - (k + 1), by omega, k + 1, by omega, rfl, rfl, hn', q0, ?_, q4⟩
    rw [q3, Bool.and_assoc]
    congr 2
    rw [← Bool.decide_and]
    apply decide_eq_decide.2
    constructor
    · rintro ⟨h1, h2⟩ j hj
      rcases Nat.lt_succ_iff_lt_or_eq.1 hj with h | rfl
      · exact h1 j h
      · exact h2
    · exact fun h => ⟨fun j hj => h j (by omega), h k (by omega)⟩
  · obtain rfl : k = s.size := by omega
    refine (any_run (G := GR) (ref_end s s.size st' _) (by simp only [Ob.ok_cons, Ob.ok_nil, and_true]; exact lt_F (by omega)) hn (conz h0 (conz h3 (one h4)))).mono fun e T' st2 ⟨he, hn', hF, hst⟩ => ?_
    subst he; subst hst
    simp only [GR, List.cons.injEq] at hF
    exact ⟨rfl, hn', rfl, hF.2.2.1⟩
theorem refMay_ok (s : ByteArray) (hs : s.size ≤ 1000000000000) (st : St) : obC 69 [str s] st (bo (decide (mayS s))) st := by
  refine ACalls.body (E := E0) hE Try.func69 body69 ?_
  refine .seq ((any_run (G := GR) (ref_0 s st) Ob.ok_nil rfl (one rfl)).mono fun e T1 s1 ⟨he, n1, F1, hst⟩ => ?_)
  subst he; subst hst
  simp only [GR, List.cons.injEq] at F1
  simp only [thenA]
  have hd : AW Try.prog (refP 1) (fun e T' st' => e = .normal ∧ T'.n = 48 ∧ st' = s1 ∧ T'.get 0 = str s ∧ T'.get 3 = bo (decide (1 ≤ s.size ∧ s.size ≤ 32))) T1 s1 := by
    by_cases h0 : s.size = 0
    · refine (any_run (G := GR) (ref_1a s s1) (by simp only [Ob.ok_cons, Ob.ok_nil, and_true]; exact gt_F (by omega)) n1 (one F1.1)).mono fun e T' st' ⟨he, hn, hF, hst⟩ => ?_
      simp only [GR, List.cons.injEq] at hF
      exact ⟨he, hn, hst, hF.1, by rw [hF.2.2.1, decide_eq_false (by omega)]; rfl⟩
    · refine (any_run (G := GR) (ref_1b s s1 (decide (s.size < 33))) (by simp only [Ob.ok_cons, Ob.ok_nil, and_true]; exact ⟨gt_T (by omega), by rw [ltN_eq]; congr 1; apply decide_eq_decide.2; omega⟩) n1 (one F1.1)).mono fun e T' st' ⟨he, hn, hF, hst⟩ => ?_
      simp only [GR, List.cons.injEq] at hF
      refine ⟨he, hn, hst, hF.1, ?_⟩
      rw [hF.2.2.1]
      congr 1
      apply decide_eq_decide.2; omega
  refine .seq (hd.mono fun e T2 s2 ⟨he, n2, hst, h0, h3⟩ => ?_)
  subst he; subst hst
  simp only [thenA]
  refine .seq (.seq ((any_run (G := GR) (ref_2 s s2 _) Ob.ok_nil n2 (conz h0 (one h3))).mono fun e T3 s3 ⟨he, n3, hF3, hst⟩ => ?_))
  subst he; subst hst
  simp only [GR, List.cons.injEq, and_true] at hF3
  simp only [thenA]
  refine .block ((ref_loop hs n3 hF3.1 hF3.2.2.1 hF3.2.2.2).mono fun e T4 s4 ⟨he, n4, hst, h⟩ => ?_)
  subst he; subst hst
  simp only [blockA, if_true, thenA]
  refine .seq ((any_run (G := GR) (ref_4 s4 _) Ob.ok_nil n4 (one h)).mono fun e T5 s5 ⟨he, n5, hF5, hst⟩ => ?_)
  subst he; subst hst
  simp only [GR, List.cons.injEq] at hF5
  simp only [thenA]
  refine .ret ⟨[T5.get 2], rfl, ?_, rfl⟩
  simp only [oneOrTup]
  rw [hF5.2.1, ← Bool.decide_and]
  refine congrArg bo (decide_eq_decide.2 ?_)
  unfold mayS
  constructor
  · rintro ⟨⟨a, b⟩, c⟩; exact ⟨a, b, c⟩
  · rintro ⟨a, b, c⟩; exact ⟨⟨a, b⟩, c⟩
end
section
set_option maxRecDepth 100000
def subN (a b : Int) : Int := valI (binOp .sub 3 (.int .i64 a) (.int .i64 b))
def eqN (a b : Int) : Bool := boolI (binOp .eql 3 (.int .i64 a) (.int .i64 b))
def sitesD : Nat → List Nat
  | 63 => [2018, 2025, 2031, 6085, 8000]
  | 64 => [2006, 7, 2011, 12, 2019, 20, 2026, 5000]
  | _ => []
noncomputable def dkEv (f : Nat) (args : List AV) (st : St) (o : List Or) := (evCallS Try.prog E0 noOv sitesD 100000 f args st o).map fun q => (q.1, q.2.1, q.2.2.2)
section
variable (d m : Nat) (st : St) (fu q fu' : Int) (f1 f2 : St → St) (off b : Bool)
theorem burn0 : dkEv 64 [.ptr d 0] st [.eff (i64 fu) id, TT] = some (FF, st, [obL st 3 (.ptr d 2) (i64 fu), bo (eqN fu 0) = TT]) := by kernel_rfl
theorem burn1 : dkEv 64 [.ptr d 0] st [.eff (i64 fu) id, FF, .eff (i64 fu) id, i64 fu', .eff .undef f1, .eff (i64 fu') id, bo b, .eff .undef f2, .eff (bo b) id] = some (bo b, f2 (f1 st),
  [obL st 3 (.ptr d 2) (i64 fu), bo (eqN fu 0) = FF, obL st 3 (.ptr d 2) (i64 fu), i64 (subN fu 1) = i64 fu', storeA E0 st 3 (.ptr d 2) (i64 fu') = some (f1 st), obL (f1 st) 3 (.ptr d 2) (i64 fu'), bo (eqN fu' 0) = bo b, storeA E0 (f1 st) 4 (.ptr d 3) (bo b) = some (f2 (f1 st)), obL (f2 (f1 st)) 4 (.ptr d 3) (bo b)]) := by kernel_rfl
theorem rdOff (there : Bool) (ns : AV) : dkEv 63 [.ptr d 0, bo there, ns] st [.eff (.mp m) id, .eff TT id] = some (i64 8, st, [obL st 101 (.ptr d 0) (.mp m), obL st 4 (.ptr d 3) TT]) := by kernel_rfl
theorem rdBad (there : Bool) (i : Nat) (fl : Bool) (n : ByteArray) : dkEv 63 [.ptr d 0, bo there, .sl i 1 0 1 fl] st [.eff (.mp m) id, .eff FF id, .eff (str n) id, .eff FF id] = some (i64 1, st, [obL st 101 (.ptr d 0) (.mp m), obL st 4 (.ptr d 3) FF, obL st 9 (.ptr i 0) (str n), obC 85 [str n] st FF st]) := by kernel_rfl
def idsD (d i m : Nat) : List Nat := [d, i, m]
def midSt (st : St) (ids : List Nat) (f1 : St → St) : St := (f1 (st.hide ids)).show st ids
/-- the end of ready: the first name is looked up -/
def obRd (d i m a : Nat) (st : St) (n : ByteArray) (w v : AV) (f1 f2 : St → St) : Ob :=
  [∀ k ∈ idsD d i m, k < st.next, (idsD d i m).contains d = true ∧ loadA E0 st 101 (.ptr d 0) = some (.mp m), (idsD d i m).contains i = true ∧ loadA E0 st 9 (.ptr i 0) = some (str n), (idsD d i m).contains m = true ∧ lookupA E0 st 101 (.mp m) (str n) true = some w,
   (true = true → (idsD d i m).all (fun k => (st.get k).isSome) = true), allocA E0 (st.hide (idsD d i m)) 105 = some (.ptr a 0, f1 (st.hide (idsD d i m))), (false = true → (idsD d i m).all (fun k => ((midSt st (idsD d i m) f1).get k).isSome) = true), storeA E0 (midSt st (idsD d i m) f1) 105 (.ptr a 0) v = some (f2 (midSt st (idsD d i m) f1))]
theorem rdHitT (i a : Nat) (fl : Bool) (n : ByteArray) (v : AV) : dkEv 63 [.ptr d 0, TT, .sl i 1 0 1 fl] st [.eff (.mp m) id, .eff FF id, .eff (str n) id, .eff TT id, .eff (.mp m) id, .eff (str n) id, .eff (.tup [v, TT]) id, .eff (.ptr a 0) f1, .eff .undef f2] = some (i64 0, f2 (midSt st (idsD d i m) f1),
  [obL st 101 (.ptr d 0) (.mp m), obL st 4 (.ptr d 3) FF, obL st 9 (.ptr i 0) (str n), obC 85 [str n] st TT st] ++ obRd d i m a st n (.tup [v, TT]) v f1 f2) := by kernel_rfl
theorem rdMissT (i a : Nat) (fl : Bool) (n : ByteArray) (v : AV) : dkEv 63 [.ptr d 0, TT, .sl i 1 0 1 fl] st [.eff (.mp m) id, .eff FF id, .eff (str n) id, .eff TT id, .eff (.mp m) id, .eff (str n) id, .eff (.tup [v, FF]) id, .eff (.ptr a 0) f1, .eff .undef f2] = some (i64 6, f2 (midSt st (idsD d i m) f1),
  [obL st 101 (.ptr d 0) (.mp m), obL st 4 (.ptr d 3) FF, obL st 9 (.ptr i 0) (str n), obC 85 [str n] st TT st] ++ obRd d i m a st n (.tup [v, FF]) v f1 f2) := by kernel_rfl
theorem rdHitF (i a : Nat) (fl : Bool) (n : ByteArray) (v : AV) : dkEv 63 [.ptr d 0, FF, .sl i 1 0 1 fl] st [.eff (.mp m) id, .eff FF id, .eff (str n) id, .eff TT id, .eff (.mp m) id, .eff (str n) id, .eff (.tup [v, TT]) id, .eff (.ptr a 0) f1, .eff .undef f2] = some (i64 0, f2 (midSt st (idsD d i m) f1),
  [obL st 101 (.ptr d 0) (.mp m), obL st 4 (.ptr d 3) FF, obL st 9 (.ptr i 0) (str n), obC 85 [str n] st TT st] ++ obRd d i m a st n (.tup [v, TT]) v f1 f2) := by kernel_rfl
theorem rdMissF (i a : Nat) (fl : Bool) (n : ByteArray) (v : AV) : dkEv 63 [.ptr d 0, FF, .sl i 1 0 1 fl] st [.eff (.mp m) id, .eff FF id, .eff (str n) id, .eff TT id, .eff (.mp m) id, .eff (str n) id, .eff (.tup [v, FF]) id, .eff (.ptr a 0) f1, .eff .undef f2] = some (i64 0, f2 (midSt st (idsD d i m) f1),
  [obL st 101 (.ptr d 0) (.mp m), obL st 4 (.ptr d 3) FF, obL st 9 (.ptr i 0) (str n), obC 85 [str n] st TT st] ++ obRd d i m a st n (.tup [v, FF]) v f1 f2) := by kernel_rfl
end
end
section
set_option maxRecDepth 4000
/-- the program's disk -/
structure PD (st : St) (d : Nat) (L : List PF) (q fu : Int) (off : Bool) (m : Nat) : Prop where
  row : st.get d = some (.row [.mp m, i64 q, i64 fu, bo off] 103)
  map : ∃ bs clock, st.get m = some (.map (L.map ent) bs clock)
theorem PD.ne {st : St} {d m : Nat} {L : List PF} {q fu : Int} {off : Bool} (h : PD st d L q fu off m) : d ≠ m := fun e => by
  obtain ⟨bs, c, hm⟩ := h.map
  rw [← e, h.row] at hm; cases hm
theorem load_row {st : St} {id : Nat} {vs : List AV} {ty : Nat} (hg : st.get id = some (.row vs ty)) {t off : Nat} {a : AV} (h : partA E0 t vs off = some a) : loadA E0 st t (.ptr id off) = some a := by
  simp only [loadA, hg, h]
theorem plainT {t : Nat} {i : TI} (h : E0.ty t = some i) (hi : isAggD i.desc = false) {vs : List AV} {off : Nat} {a : AV} (h2 : vs[off]? = some a) : partA E0 t vs off = some a := by
  simp only [partA, h, hi, Bool.false_eq_true, if_false, h2]
theorem ty9 : E0.ty 9 = some ⟨.string, 1, 16, some (.string ⟨#[]⟩)⟩ := by kernel_rfl
theorem p101 {vs : List AV} {off : Nat} {a : AV} (h : vs[off]? = some a) : partA E0 101 vs off = some a := plainT ty101' rfl h
theorem p3 {vs : List AV} {off : Nat} {a : AV} (h : vs[off]? = some a) : partA E0 3 vs off = some a := plainT ty3 rfl h
theorem p4 {vs : List AV} {off : Nat} {a : AV} (h : vs[off]? = some a) : partA E0 4 vs off = some a := plainT ty4 rfl h
theorem p9 {vs : List AV} {off : Nat} {a : AV} (h : vs[off]? = some a) : partA E0 9 vs off = some a := plainT ty9 rfl h
theorem alloc105 (st : St) : allocA E0 st 105 = some (.ptr st.next 0, st.push (.row [.nils, i64 0] 105)) := by kernel_rfl
theorem size105' : tySize E0 105 = some 2 := by kernel_rfl
theorem store105 {st : St} {a : Nat} {v0 v1 x y : AV} {ty : Nat} (hg : st.get a = some (.row [v0, v1] ty)) (hl : a ∉ st.lock) : storeA E0 st 105 (.ptr a 0) (.agg [x, y]) = some (st.set a (.row [x, y] ty)) := by
  simp only [storeA, avCells, St.wget_of hg hl, size105']
  simp
theorem dk_run {f : Nat} {args : List AV} {a : AV} {st st' : St} {o : List Or} {ob : Ob} (h : dkEv f args st o = some (a, st', ob)) (hob : ob.ok) : obC f args st a st' := by
  obtain ⟨⟨a1, s1, x1, o1⟩, h1, h2⟩ := Option.map_eq_some_iff.1 h
  simp only [Prod.mk.injEq] at h2
  obtain ⟨rfl, rfl, rfl⟩ := h2
  exact ACalls.run hE (ov := noOv) noOv_ok h1 hob
/-- a store that has lost nothing, with numbers used up -/
def bump (st : St) (k : Nat) : St := { st with next := st.next + k }
theorem bump_get (st : St) (k i : Nat) : (bump st k).get i = st.get i := rfl
theorem mid_get (st : St) (ids : List Nat) (o : AObj) (k : Nat) (hk : st.next ∉ ids) : (midSt st ids fun _ => (st.hide ids).push o).get k = if k = st.next then some o else st.get k := by
  unfold midSt
  rw [St.show_get]
  have hp : ((st.hide ids).push o).get k = if k = st.next then some o else st.get k := by
    rw [St.get_push]; rfl
  by_cases h : k ∈ ids ∧ (st.get k).isSome = true
  · rw [if_pos h, if_neg (fun e => hk (by rw [← e]; exact h.1))]
  · rw [if_neg h, hp]
theorem mid_next (st : St) (ids : List Nat) (o : AObj) : (midSt st ids fun _ => (st.hide ids).push o).next = st.next + 1 := by
  unfold midSt
  show (St.show1 _ _ _).next = _
  rw [St.show1_next]; rfl
theorem mid_lock (st : St) (ids : List Nat) (o : AObj) : (midSt st ids fun _ => (st.hide ids).push o).lock = st.lock := rfl
theorem mid_gl (st : St) (ids : List Nat) (o : AObj) : (midSt st ids fun _ => (st.hide ids).push o).gl = st.gl := by
  unfold midSt
  show (St.show1 _ _ _).gl = _
  rw [St.show1_gl]; rfl
/-- what ready answers to one name -/
def rdE (L : List PF) (off there : Bool) (n : ByteArray) : Int :=
  if off = true then 8 else if ¬ mayS n then 1 else if there = true ∧ find n L = none then 6 else 0
theorem rd_end {st : St} {d m i : Nat} {L : List PF} {q fu : Int} {bs : List Nat} {clock : Nat} (hrow : st.get d = some (.row [.mp m, i64 q, i64 fu, FF] 103)) (hm : st.get m = some (.map (L.map ent) bs clock)) (hw : st.wf) {n : ByteArray} {ty : Nat} {r : List AV} (hi : st.get i = some (.row (str n :: r) ty)) (hl : st.lock = [])
    {x y w : AV} (hlk : lookupA E0 st 101 (.mp m) (str n) true = some w) : ∃ f1 f2 : St → St, (obRd d i m st.next st n w (.agg [x, y]) f1 f2).ok ∧ (∀ k o, st.get k = some o → (f2 (midSt st (idsD d i m) f1)).get k = some o) ∧ (f2 (midSt st (idsD d i m) f1)).next = st.next + 1 ∧ (f2 (midSt st (idsD d i m) f1)).lock = st.lock ∧ (f2 (midSt st (idsD d i m) f1)).gl = st.gl := by
  have hd := hw _ _ hrow
  have hmm := hw _ _ hm
  have hii := hw _ _ hi
  have hk : st.next ∉ idsD d i m := by simp only [idsD, List.mem_cons, List.not_mem_nil, or_false]; omega
  refine ⟨fun _ => (st.hide (idsD d i m)).push (.row [.nils, i64 0] 105), fun _ => (midSt st (idsD d i m) fun _ => (st.hide (idsD d i m)).push (.row [.nils, i64 0] 105)).set st.next (.row [x, y] 105), ?_, fun k o ho => ?_, ?_, ?_, ?_⟩
  · unfold obRd
    simp only [Ob.ok_cons, Ob.ok_nil, and_true]
    refine ⟨fun k hk => ?_, ⟨by simp [idsD], load_row hrow (p101 rfl)⟩, ⟨by simp [idsD], load_row hi (p9 rfl)⟩, ⟨by simp [idsD], hlk⟩, fun _ => by simp [idsD, hrow, hm, hi], alloc105 _, (fun h => (by cases h)), ?_⟩
    · simp only [idsD, List.mem_cons, List.not_mem_nil, or_false] at hk
      rcases hk with rfl | rfl | rfl <;> assumption
    · exact store105 (by rw [mid_get _ _ _ _ hk, if_pos rfl]) (by rw [mid_lock, hl]; simp)
  · have := hw _ _ ho
    rw [St.get_set, if_neg (by omega), mid_get _ _ _ _ hk, if_neg (by omega)]; exact ho
  · exact mid_next st (idsD d i m) (.row [.nils, i64 0] 105)
  · exact mid_lock st (idsD d i m) (.row [.nils, i64 0] 105)
  · exact mid_gl st (idsD d i m) (.row [.nils, i64 0] 105)
theorem forget_bump {f : Nat} {args : List AV} {st st' : St} {a : AV} {k : Nat} (h : obC f args st a st') (h1 : ∀ i o, st.get i = some o → st'.get i = some o) (h2 : st'.next = st.next + k) (h3 : st'.lock = st.lock) (h4 : st'.gl = st.gl) : obC f args st a (bump st k) :=
  ACalls.forget h fun r s ⟨e1, e2⟩ _ => ⟨bump st k, ⟨e1, rfl⟩, by rw [e2]; exact h1, by rw [e2, h2]; rfl, by rw [e2, h3]; rfl, by rw [e2, h4]; rfl⟩
theorem ready_ok {st : St} {d m : Nat} {L : List PF} {q fu : Int} {off : Bool} (hp : PD st d L q fu off m) (hw : st.wf) {i : Nat} {fl : Bool} {n : ByteArray} {ty : Nat} (hi : st.get i = some (.row [str n] ty)) (hl : st.lock = []) (there : Bool) :
    ∃ k, obC 63 [.ptr d 0, bo there, .sl i 1 0 1 fl] st (i64 (rdE L off there n)) (bump st k) := by
  obtain ⟨bs, clock, hm⟩ := hp.map
  have o1 : obL st 101 (.ptr d 0) (.mp m) := ⟨load_row hp.row (p101 rfl), rfl⟩
  have b0 : bump st 0 = st := rfl
  cases off with
  | true =>
    refine ⟨0, ?_⟩
    rw [b0]
    have e : rdE L true there n = 8 := by unfold rdE; rw [if_pos rfl]
    rw [e]
    refine dk_run (rdOff d m st there _) ?_
    simp only [Ob.ok_cons, Ob.ok_nil, and_true]
    exact ⟨o1, load_row hp.row (p4 rfl), rfl⟩
  | false =>
    have o2 : obL st 4 (.ptr d 3) FF := ⟨load_row hp.row (p4 rfl), rfl⟩
    have o3 : obL st 9 (.ptr i 0) (str n) := ⟨load_row hi (p9 rfl), rfl⟩
    have o4 := may_ok n st
    by_cases hmay : mayS n
    · rw [decide_eq_true hmay] at o4
      have e : rdE L false there n = if there = true ∧ find n L = none then 6 else 0 := by unfold rdE; rw [if_neg (by simp), if_neg (fun h => h hmay)]
      rw [e]
      refine ⟨1, ?_⟩
      have hob : ∀ {o : Ob}, o.ok → Ob.ok ([obL st 101 (.ptr d 0) (.mp m), obL st 4 (.ptr d 3) FF, obL st 9 (.ptr i 0) (str n), obC 85 [str n] st TT st] ++ o) := fun h => by
        rw [Ob.ok_append]
        simp only [Ob.ok_cons, Ob.ok_nil, and_true]
        exact ⟨⟨o1, o2, o3, o4⟩, h⟩
      cases hf : find n L with
      | none =>
        obtain ⟨f1, f2, k1, k2, k3, k4, k5⟩ := rd_end (x := .nils) (y := i64 0) hp.row hm hw hi hl (lookup_miss hm hf true)
        cases there with
        | true => exact forget_bump (dk_run (rdMissT d m st f1 f2 i st.next fl n (.agg [.nils, i64 0])) (hob k1)) k2 k3 k4 k5
        | false => exact forget_bump (dk_run (rdMissF d m st f1 f2 i st.next fl n (.agg [.nils, i64 0])) (hob k1)) k2 k3 k4 k5
      | some k =>
        obtain ⟨f, hk, hn⟩ := find_some hf
        obtain ⟨f1, f2, k1, k2, k3, k4, k5⟩ := rd_end (x := f.dv) (y := i64 f.last) hp.row hm hw hi hl (lookup_hit hm hf hk true)
        cases there with
        | true => exact forget_bump (dk_run (rdHitT d m st f1 f2 i st.next fl n (.agg [f.dv, i64 f.last])) (hob k1)) k2 k3 k4 k5
        | false => exact forget_bump (dk_run (rdHitF d m st f1 f2 i st.next fl n (.agg [f.dv, i64 f.last])) (hob k1)) k2 k3 k4 k5
    · rw [decide_eq_false hmay] at o4
      refine ⟨0, ?_⟩
      rw [b0]
      have e : rdE L false there n = 1 := by unfold rdE; rw [if_neg (by simp), if_pos hmay]
      rw [e]
      refine dk_run (rdBad d m st there i fl n) ?_
      simp only [Ob.ok_cons, Ob.ok_nil, and_true]
      exact ⟨o1, o2, o3, o4⟩
end
section
set_option maxRecDepth 100000
def neN (a b : Int) : Bool := boolI (binOp .neq 3 (.int .i64 a) (.int .i64 b))
def geN (a b : Int) : Bool := boolI (binOp .geq 3 (.int .i64 a) (.int .i64 b))
def neE (a b : Int) : Bool := boolI (binOp .neq 29 (.int .i64 a) (.int .i64 b))
def obK (s : St) (m : Nat) (n : ByteArray) (ok : Bool) (w : AV) : Prop := lookupA E0 s 101 (.mp m) (str n) ok = some w ∧ s = s
def nmSt (st : St) (n : ByteArray) : St := st.push (.row [str n] 9)
def zSt (st : St) : St := st.push (.row [.nils, i64 0] 105)
def sitesP : Nat → List Nat
  | 21 => [6063, 13, 2019, 2021, 5000, 2030, 2031, 32, 6064, 2039]
  | 34 => [6063, 11, 6064, 2018, 5000, 2020]
  | 33 => [6063, 12, 6064, 2019, 2021, 5000, 2023, 8000]
  | 25 => [6063, 12, 2017, 2019, 6065]
  | 31 => [6063, 13, 2018, 2020, 5000, 2022, 2025, 26]
  | _ => []
noncomputable def pgEv (f : Nat) (args : List AV) (st : St) (o : List Or) := (evCallS Try.prog E0 noOv sitesP 100000 f args st o).map fun q => (q.1, q.2.1, q.2.2.2)
section
variable (d m : Nat) (n : ByteArray) (e : Int) (v : AV) (st s1 s2 s3 s4 : St)
/-- ready, in a call's first lines -/
def obR (d : Nat) (th : AV) (n : ByteArray) (st : St) (e : Int) (s1 : St) : Prop := obC 63 [.ptr d 0, th, .sl st.next 1 0 1 true] (nmSt st n) (i64 e) s1
theorem crNot : pgEv 21 [.ptr d 0, str n] st [.eff (i64 e) (fun _ => s1), TT] = some (i64 e, s1, [obR d FF n st e s1, bo (neE e 0) = TT]) := by kernel_rfl
theorem crFull (len : Int) : pgEv 21 [.ptr d 0, str n] st [.eff (i64 0) (fun _ => s1), FF, .eff (.mp m) id, .eff (.tup [v, FF]) id, .eff .undef (fun _ => s2), .eff (.mp m) id, .eff (i64 len) id, TT] = some (i64 7, s2,
  [obR d FF n st 0 s1, bo (neE 0 0) = FF, obL s1 101 (.ptr d 0) (.mp m), obK s1 m n true (.tup [v, FF]), storeA E0 (zSt s1) 105 (.ptr s1.next 0) v = some s2, obL s2 101 (.ptr d 0) (.mp m), lenA E0 101 (.mp m) = none ∧ mapLenA E0 s2 101 (.mp m) = some (i64 len) ∧ s2 = s2, bo (geN len 4096) = TT]) := by kernel_rfl
theorem crBurnT : pgEv 21 [.ptr d 0, str n] st [.eff (i64 0) (fun _ => s1), FF, .eff (.mp m) id, .eff (.tup [v, TT]) id, .eff .undef (fun _ => s2), .eff TT (fun _ => s3)] = some (i64 8, s3,
  [obR d FF n st 0 s1, bo (neE 0 0) = FF, obL s1 101 (.ptr d 0) (.mp m), obK s1 m n true (.tup [v, TT]), storeA E0 (zSt s1) 105 (.ptr s1.next 0) v = some s2, obC 64 [.ptr d 0] s2 TT s3]) := by kernel_rfl
theorem crBurnF (len : Int) : pgEv 21 [.ptr d 0, str n] st [.eff (i64 0) (fun _ => s1), FF, .eff (.mp m) id, .eff (.tup [v, FF]) id, .eff .undef (fun _ => s2), .eff (.mp m) id, .eff (i64 len) id, FF, .eff TT (fun _ => s3)] = some (i64 8, s3,
  [obR d FF n st 0 s1, bo (neE 0 0) = FF, obL s1 101 (.ptr d 0) (.mp m), obK s1 m n true (.tup [v, FF]), storeA E0 (zSt s1) 105 (.ptr s1.next 0) v = some s2, obL s2 101 (.ptr d 0) (.mp m), lenA E0 101 (.mp m) = none ∧ mapLenA E0 s2 101 (.mp m) = some (i64 len) ∧ s2 = s2, bo (geN len 4096) = FF, obC 64 [.ptr d 0] s2 TT s3]) := by kernel_rfl
theorem crOkT : pgEv 21 [.ptr d 0, str n] st [.eff (i64 0) (fun _ => s1), FF, .eff (.mp m) id, .eff (.tup [v, TT]) id, .eff .undef (fun _ => s2), .eff FF (fun _ => s3), .eff (.mp m) id, .eff .undef (fun _ => s4)] = some (i64 0, s4,
  [obR d FF n st 0 s1, bo (neE 0 0) = FF, obL s1 101 (.ptr d 0) (.mp m), obK s1 m n true (.tup [v, TT]), storeA E0 (zSt s1) 105 (.ptr s1.next 0) v = some s2, obC 64 [.ptr d 0] s2 FF s3, obL s3 101 (.ptr d 0) (.mp m), mapUpdateA E0 s3 101 (.mp m) (str n) (.agg [.nils, i64 0]) = some s4]) := by kernel_rfl
theorem crOkF (len : Int) : pgEv 21 [.ptr d 0, str n] st [.eff (i64 0) (fun _ => s1), FF, .eff (.mp m) id, .eff (.tup [v, FF]) id, .eff .undef (fun _ => s2), .eff (.mp m) id, .eff (i64 len) id, FF, .eff FF (fun _ => s3), .eff (.mp m) id, .eff .undef (fun _ => s4)] = some (i64 0, s4,
  [obR d FF n st 0 s1, bo (neE 0 0) = FF, obL s1 101 (.ptr d 0) (.mp m), obK s1 m n true (.tup [v, FF]), storeA E0 (zSt s1) 105 (.ptr s1.next 0) v = some s2, obL s2 101 (.ptr d 0) (.mp m), lenA E0 101 (.mp m) = none ∧ mapLenA E0 s2 101 (.mp m) = some (i64 len) ∧ s2 = s2, bo (geN len 4096) = FF, obC 64 [.ptr d 0] s2 FF s3, obL s3 101 (.ptr d 0) (.mp m), mapUpdateA E0 s3 101 (.mp m) (str n) (.agg [.nils, i64 0]) = some s4]) := by kernel_rfl
theorem rmNot : pgEv 34 [.ptr d 0, str n] st [.eff (i64 e) (fun _ => s1), TT] = some (i64 e, s1, [obR d TT n st e s1, bo (neE e 0) = TT]) := by kernel_rfl
theorem rmBurn : pgEv 34 [.ptr d 0, str n] st [.eff (i64 0) (fun _ => s1), FF, .eff TT (fun _ => s2)] = some (i64 8, s2, [obR d TT n st 0 s1, bo (neE 0 0) = FF, obC 64 [.ptr d 0] s1 TT s2]) := by kernel_rfl
theorem rmOk : pgEv 34 [.ptr d 0, str n] st [.eff (i64 0) (fun _ => s1), FF, .eff FF (fun _ => s2), .eff (.mp m) id, .eff (.tup []) (fun _ => s3)] = some (i64 0, s3, [obR d TT n st 0 s1, bo (neE 0 0) = FF, obC 64 [.ptr d 0] s1 FF s2, obL s2 101 (.ptr d 0) (.mp m), mapDeleteA E0 s2 101 (.mp m) (str n) = some s3 ∧ AV.tup [] = AV.tup []]) := by kernel_rfl
theorem sySyn : pgEv 33 [.ptr d 0, str n] st [.eff (i64 e) (fun _ => s1), TT] = some (i64 e, s1, [obR d TT n st e s1, bo (neE e 0) = TT]) := by kernel_rfl
theorem syBurn : pgEv 33 [.ptr d 0, str n] st [.eff (i64 0) (fun _ => s1), FF, .eff TT (fun _ => s2)] = some (i64 8, s2, [obR d TT n st 0 s1, bo (neE 0 0) = FF, obC 64 [.ptr d 0] s1 TT s2]) := by kernel_rfl
theorem rdNot : pgEv 25 [.ptr d 0, str n] st [.eff (i64 e) (fun _ => s1), TT] = some (.tup [.nils, i64 e], s1, [obR d TT n st e s1, bo (neE e 0) = TT]) := by kernel_rfl
theorem rdOk (dv l b : AV) : pgEv 25 [.ptr d 0, str n] st [.eff (i64 0) (fun _ => s1), FF, .eff (.mp m) id, .eff (.agg [dv, l]) id, .eff b (fun _ => s2)] = some (.tup [b, i64 0], s2, [obR d TT n st 0 s1, bo (neE 0 0) = FF, obL s1 101 (.ptr d 0) (.mp m), obK s1 m n false (.agg [dv, l]), obC 65 [dv] s1 b s2]) := by kernel_rfl
theorem loNot : pgEv 31 [.ptr d 0, str n] st [.eff (i64 e) (fun _ => s1), TT] = some (.tup [i64 0, i64 e], s1, [obR d TT n st e s1, bo (neE e 0) = TT]) := by kernel_rfl
theorem loOk (b : Nat) (fl : Bool) (c : List AV) (k : Int) : pgEv 31 [.ptr d 0, str n] st [.eff (i64 0) (fun _ => s1), FF, .eff (.mp m) id, .eff v id, .eff .undef (fun _ => s2), .eff (.imm 1 b fl c) id, .eff (i64 e) id, i64 k] = some (.tup [i64 k, i64 0], s2, [obR d TT n st 0 s1, bo (neE 0 0) = FF, obL s1 101 (.ptr d 0) (.mp m), obK s1 m n false v, storeA E0 (zSt s1) 105 (.ptr s1.next 0) v = some s2, obL s2 28 (.ptr s1.next 0) (.imm 1 b fl c), obL s2 3 (.ptr s1.next 1) (i64 e), i64 (subN b e) = i64 k]) := by kernel_rfl
theorem loOkN (k : Int) : pgEv 31 [.ptr d 0, str n] st [.eff (i64 0) (fun _ => s1), FF, .eff (.mp m) id, .eff v id, .eff .undef (fun _ => s2), .eff .nils id, .eff (i64 e) id, i64 k] = some (.tup [i64 k, i64 0], s2, [obR d TT n st 0 s1, bo (neE 0 0) = FF, obL s1 101 (.ptr d 0) (.mp m), obK s1 m n false v, storeA E0 (zSt s1) 105 (.ptr s1.next 0) v = some s2, obL s2 28 (.ptr s1.next 0) .nils, obL s2 3 (.ptr s1.next 1) (i64 e), i64 (subN 0 e) = i64 k]) := by kernel_rfl
/-- the file is laid into the map, from its variable -/
def obU (d a m : Nat) (s : St) (n : ByteArray) (l : AV) (s' : St) : Ob := [∀ k ∈ [d, a], k < s.next, [d, a].contains d = true ∧ loadA E0 s 101 (.ptr d 0) = some (.mp m), [d, a].contains a = true ∧ loadA E0 s 105 (.ptr a 0) = some l, (false = true → [d, a].all (fun k => (s.get k).isSome) = true), mapUpdateA E0 s 101 (.mp m) (str n) l = some s']
theorem syOk (b : Nat) (fl : Bool) (c : List AV) (l : AV) (s5 : St) : pgEv 33 [.ptr d 0, str n] st [.eff (i64 0) (fun _ => s1), FF, .eff FF (fun _ => s2), .eff (.mp m) id, .eff v id, .eff .undef (fun _ => s3), .eff (.imm 1 b fl c) id, .eff .undef (fun _ => s4), .eff (.mp m) id, .eff l id, .eff .undef (fun _ => s5)] = some (i64 0, s5,
  [obR d TT n st 0 s1, bo (neE 0 0) = FF, obC 64 [.ptr d 0] s1 FF s2, obL s2 101 (.ptr d 0) (.mp m), obK s2 m n false v, storeA E0 (zSt s2) 105 (.ptr s2.next 0) v = some s3, obL s3 28 (.ptr s2.next 0) (.imm 1 b fl c), storeA E0 s3 3 (.ptr s2.next 1) (i64 b) = some s4] ++ obU d s2.next m s4 n l s5) := by kernel_rfl
theorem syOkN (l : AV) (s5 : St) : pgEv 33 [.ptr d 0, str n] st [.eff (i64 0) (fun _ => s1), FF, .eff FF (fun _ => s2), .eff (.mp m) id, .eff v id, .eff .undef (fun _ => s3), .eff .nils id, .eff .undef (fun _ => s4), .eff (.mp m) id, .eff l id, .eff .undef (fun _ => s5)] = some (i64 0, s5,
  [obR d TT n st 0 s1, bo (neE 0 0) = FF, obC 64 [.ptr d 0] s1 FF s2, obL s2 101 (.ptr d 0) (.mp m), obK s2 m n false v, storeA E0 (zSt s2) 105 (.ptr s2.next 0) v = some s3, obL s3 28 (.ptr s2.next 0) .nils, storeA E0 s3 3 (.ptr s2.next 1) (i64 0) = some s4] ++ obU d s2.next m s4 n l s5) := by kernel_rfl
end
end
section
set_option maxRecDepth 100000
def sitesA : Nat → List Nat
  | 19 => [6063, 14, 8000, 2018, 2028, 2029, 6026, 6064, 2036, 2038, 5000, 2040, 6065, 2043]
  | 27 => [6063, 15, 6064, 2022, 2024, 5000, 2028, 8000]
  | _ => []
noncomputable def apEv (f : Nat) (args : List AV) (st : St) (o : List Or) := (evCallS Try.prog E0 noOv sitesA 100000 f args st o).map fun q => (q.1, q.2.1, q.2.2.2)
def gtP (a b : Int) (r : AV) : Prop := binA E0 .gtr 3 (i64 a) (i64 b) = some r
def subP (a b x : Int) : Prop := binA E0 .sub 3 (i64 a) (i64 b) = some (i64 x)
/-- is there room? (bytes at hand) -/
def obRoom (d : Nat) (k q u x : Int) (s1 s2 : St) (r : AV) : Ob := [∀ i ∈ [d], i < s1.next, gtP k 0 TT, [d].contains d = true ∧ loadA E0 s1 3 (.ptr d 1) = some (i64 q), (true = true → [d].all (fun i => (s1.get i).isSome) = true), obC 26 [.ptr d 0] (s1.hide [d]) (i64 u) s2, subP q u x, gtP k x r]
def obNoB (d : Nat) (k : Int) (s1 : St) : Ob := [∀ i ∈ ([] : List Nat), i < s1.next, gtP k 0 FF]
section
variable (d m : Nat) (n : ByteArray) (e q u x : Int) (v dv cl nd l : AV) (st s1 s2 s3 s4 s5 s6 s7 s8 : St)
theorem apNotS (i k : Nat) (fl : Bool) : apEv 19 [.ptr d 0, str n, .sl i 1 0 k fl] st [.eff (i64 e) (fun _ => s1), TT] = some (i64 e, s1, [obR d TT n st e s1, bo (neE e 0) = TT]) := by kernel_rfl
theorem apFullS (i k : Nat) (fl : Bool) : apEv 19 [.ptr d 0, str n, .sl i 1 0 k fl] st [.eff (i64 0) (fun _ => s1), FF, .eff TT id, .eff (i64 q) id, .eff (i64 u) (fun _ => s2), .eff (i64 x) id, .eff TT id] = some (i64 7, s2.show s1 [d], [obR d TT n st 0 s1, bo (neE 0 0) = FF] ++ obRoom d k q u x s1 s2 TT) := by kernel_rfl
theorem apBurnS (i k : Nat) (fl : Bool) : apEv 19 [.ptr d 0, str n, .sl i 1 0 k fl] st [.eff (i64 0) (fun _ => s1), FF, .eff TT id, .eff (i64 q) id, .eff (i64 u) (fun _ => s2), .eff (i64 x) id, .eff FF id, .eff TT (fun _ => s3)] = some (i64 8, s3, [obR d TT n st 0 s1, bo (neE 0 0) = FF] ++ obRoom d k q u x s1 s2 FF ++ [obC 64 [.ptr d 0] (s2.show s1 [d]) TT s3]) := by kernel_rfl
theorem apOkS (i k : Nat) (fl : Bool) : apEv 19 [.ptr d 0, str n, .sl i 1 0 k fl] st [.eff (i64 0) (fun _ => s1), FF, .eff TT id, .eff (i64 q) id, .eff (i64 u) (fun _ => s2), .eff (i64 x) id, .eff FF id, .eff FF (fun _ => s3), .eff (.mp m) id, .eff v id, .eff .undef (fun _ => s4), .eff dv id, .eff cl (fun _ => s5), .eff nd (fun _ => s6), .eff .undef (fun _ => s7), .eff (.mp m) id, .eff l id, .eff .undef (fun _ => s8)] = some (i64 0, s8,
  [obR d TT n st 0 s1, bo (neE 0 0) = FF] ++ obRoom d k q u x s1 s2 FF ++ [obC 64 [.ptr d 0] (s2.show s1 [d]) FF s3, obL s3 101 (.ptr d 0) (.mp m), obK s3 m n false v, storeA E0 (zSt s3) 105 (.ptr s3.next 0) v = some s4, obL s4 28 (.ptr s3.next 0) dv, obC 65 [dv] s4 cl s5, appendA E0 s5 28 28 cl (.sl i 1 0 k fl) = some (nd, s6), storeA E0 s6 28 (.ptr s3.next 0) nd = some s7] ++ obU d s3.next m s7 n l s8) := by kernel_rfl
theorem apBurn0S (i k : Nat) (fl : Bool) : apEv 19 [.ptr d 0, str n, .sl i 1 0 k fl] st [.eff (i64 0) (fun _ => s1), FF, .eff FF id, .eff TT (fun _ => s3)] = some (i64 8, s3, [obR d TT n st 0 s1, bo (neE 0 0) = FF] ++ obNoB d k s1 ++ [obC 64 [.ptr d 0] s1 TT s3]) := by kernel_rfl
theorem apOk0S (i k : Nat) (fl : Bool) : apEv 19 [.ptr d 0, str n, .sl i 1 0 k fl] st [.eff (i64 0) (fun _ => s1), FF, .eff FF id, .eff FF (fun _ => s3), .eff (.mp m) id, .eff v id, .eff .undef (fun _ => s4), .eff dv id, .eff cl (fun _ => s5), .eff nd (fun _ => s6), .eff .undef (fun _ => s7), .eff (.mp m) id, .eff l id, .eff .undef (fun _ => s8)] = some (i64 0, s8,
  [obR d TT n st 0 s1, bo (neE 0 0) = FF] ++ obNoB d k s1 ++ [obC 64 [.ptr d 0] s1 FF s3, obL s3 101 (.ptr d 0) (.mp m), obK s3 m n false v, storeA E0 (zSt s3) 105 (.ptr s3.next 0) v = some s4, obL s4 28 (.ptr s3.next 0) dv, obC 65 [dv] s4 cl s5, appendA E0 s5 28 28 cl (.sl i 1 0 k fl) = some (nd, s6), storeA E0 s6 28 (.ptr s3.next 0) nd = some s7] ++ obU d s3.next m s7 n l s8) := by kernel_rfl
theorem apNotN  : apEv 19 [.ptr d 0, str n, .nils] st [.eff (i64 e) (fun _ => s1), TT] = some (i64 e, s1, [obR d TT n st e s1, bo (neE e 0) = TT]) := by kernel_rfl
theorem apBurn0N  : apEv 19 [.ptr d 0, str n, .nils] st [.eff (i64 0) (fun _ => s1), FF, .eff FF id, .eff TT (fun _ => s3)] = some (i64 8, s3, [obR d TT n st 0 s1, bo (neE 0 0) = FF] ++ obNoB d 0 s1 ++ [obC 64 [.ptr d 0] s1 TT s3]) := by kernel_rfl
theorem apOk0N  : apEv 19 [.ptr d 0, str n, .nils] st [.eff (i64 0) (fun _ => s1), FF, .eff FF id, .eff FF (fun _ => s3), .eff (.mp m) id, .eff v id, .eff .undef (fun _ => s4), .eff dv id, .eff cl (fun _ => s5), .eff nd (fun _ => s6), .eff .undef (fun _ => s7), .eff (.mp m) id, .eff l id, .eff .undef (fun _ => s8)] = some (i64 0, s8,
  [obR d TT n st 0 s1, bo (neE 0 0) = FF] ++ obNoB d 0 s1 ++ [obC 64 [.ptr d 0] s1 FF s3, obL s3 101 (.ptr d 0) (.mp m), obK s3 m n false v, storeA E0 (zSt s3) 105 (.ptr s3.next 0) v = some s4, obL s4 28 (.ptr s3.next 0) dv, obC 65 [dv] s4 cl s5, appendA E0 s5 28 28 cl (.nils) = some (nd, s6), storeA E0 s6 28 (.ptr s3.next 0) nd = some s7] ++ obU d s3.next m s7 n l s8) := by kernel_rfl
theorem apNotI (k : Nat) (fl : Bool) (c : List AV) : apEv 19 [.ptr d 0, str n, .imm 1 k fl c] st [.eff (i64 e) (fun _ => s1), TT] = some (i64 e, s1, [obR d TT n st e s1, bo (neE e 0) = TT]) := by kernel_rfl
theorem apFullI (k : Nat) (fl : Bool) (c : List AV) : apEv 19 [.ptr d 0, str n, .imm 1 k fl c] st [.eff (i64 0) (fun _ => s1), FF, .eff TT id, .eff (i64 q) id, .eff (i64 u) (fun _ => s2), .eff (i64 x) id, .eff TT id] = some (i64 7, s2.show s1 [d], [obR d TT n st 0 s1, bo (neE 0 0) = FF] ++ obRoom d k q u x s1 s2 TT) := by kernel_rfl
theorem apBurnI (k : Nat) (fl : Bool) (c : List AV) : apEv 19 [.ptr d 0, str n, .imm 1 k fl c] st [.eff (i64 0) (fun _ => s1), FF, .eff TT id, .eff (i64 q) id, .eff (i64 u) (fun _ => s2), .eff (i64 x) id, .eff FF id, .eff TT (fun _ => s3)] = some (i64 8, s3, [obR d TT n st 0 s1, bo (neE 0 0) = FF] ++ obRoom d k q u x s1 s2 FF ++ [obC 64 [.ptr d 0] (s2.show s1 [d]) TT s3]) := by kernel_rfl
theorem apOkI (k : Nat) (fl : Bool) (c : List AV) : apEv 19 [.ptr d 0, str n, .imm 1 k fl c] st [.eff (i64 0) (fun _ => s1), FF, .eff TT id, .eff (i64 q) id, .eff (i64 u) (fun _ => s2), .eff (i64 x) id, .eff FF id, .eff FF (fun _ => s3), .eff (.mp m) id, .eff v id, .eff .undef (fun _ => s4), .eff dv id, .eff cl (fun _ => s5), .eff nd (fun _ => s6), .eff .undef (fun _ => s7), .eff (.mp m) id, .eff l id, .eff .undef (fun _ => s8)] = some (i64 0, s8,
  [obR d TT n st 0 s1, bo (neE 0 0) = FF] ++ obRoom d k q u x s1 s2 FF ++ [obC 64 [.ptr d 0] (s2.show s1 [d]) FF s3, obL s3 101 (.ptr d 0) (.mp m), obK s3 m n false v, storeA E0 (zSt s3) 105 (.ptr s3.next 0) v = some s4, obL s4 28 (.ptr s3.next 0) dv, obC 65 [dv] s4 cl s5, appendA E0 s5 28 28 cl (.imm 1 k fl c) = some (nd, s6), storeA E0 s6 28 (.ptr s3.next 0) nd = some s7] ++ obU d s3.next m s7 n l s8) := by kernel_rfl
theorem apBurn0I (k : Nat) (fl : Bool) (c : List AV) : apEv 19 [.ptr d 0, str n, .imm 1 k fl c] st [.eff (i64 0) (fun _ => s1), FF, .eff FF id, .eff TT (fun _ => s3)] = some (i64 8, s3, [obR d TT n st 0 s1, bo (neE 0 0) = FF] ++ obNoB d k s1 ++ [obC 64 [.ptr d 0] s1 TT s3]) := by kernel_rfl
theorem apOk0I (k : Nat) (fl : Bool) (c : List AV) : apEv 19 [.ptr d 0, str n, .imm 1 k fl c] st [.eff (i64 0) (fun _ => s1), FF, .eff FF id, .eff FF (fun _ => s3), .eff (.mp m) id, .eff v id, .eff .undef (fun _ => s4), .eff dv id, .eff cl (fun _ => s5), .eff nd (fun _ => s6), .eff .undef (fun _ => s7), .eff (.mp m) id, .eff l id, .eff .undef (fun _ => s8)] = some (i64 0, s8,
  [obR d TT n st 0 s1, bo (neE 0 0) = FF] ++ obNoB d k s1 ++ [obC 64 [.ptr d 0] s1 FF s3, obL s3 101 (.ptr d 0) (.mp m), obK s3 m n false v, storeA E0 (zSt s3) 105 (.ptr s3.next 0) v = some s4, obL s4 28 (.ptr s3.next 0) dv, obC 65 [dv] s4 cl s5, appendA E0 s5 28 28 cl (.imm 1 k fl c) = some (nd, s6), storeA E0 s6 28 (.ptr s3.next 0) nd = some s7] ++ obU d s3.next m s7 n l s8) := by kernel_rfl
end
end
section
set_option maxRecDepth 100000
def sitesB : Nat → List Nat
  | 27 => [6063, 15, 6064, 2022, 2024, 5000, 2028, 8000]
  | 63 => [2018, 2025, 2031, 6085, 8000]
  | 65 => [2007]
  | 22 => [8, 5000]
  | 32 => [8, 5000]
  | 29 => [2009]
  | 23 => [5]
  | _ => []
noncomputable def bpEv (f : Nat) (args : List AV) (st : St) (o : List Or) := (evCallS Try.prog E0 noOv sitesB 100000 f args st o).map fun q => (q.1, q.2.1, q.2.2.2)
section
variable (d m i j a : Nat) (n n2 : ByteArray) (e q : Int) (v l : AV) (st s1 s2 s3 s4 s5 s6 : St) (fl : Bool) (f1 f2 : St → St)
/-- ready, with two names -/
def nmSt2 (st : St) (n n2 : ByteArray) : St := st.push (.row [str n, str n2] 9)
def obR2 (d : Nat) (n n2 : ByteArray) (st : St) (e : Int) (s1 : St) : Prop := obC 63 [.ptr d 0, TT, .sl st.next 1 0 2 true] (nmSt2 st n n2) (i64 e) s1
theorem rd2Bad : bpEv 63 [.ptr d 0, TT, .sl i 1 0 2 fl] st [.eff (.mp m) id, .eff FF id, .eff (str n) id, .eff FF id] = some (i64 1, st, [obL st 101 (.ptr d 0) (.mp m), obL st 4 (.ptr d 3) FF, obL st 9 (.ptr i 0) (str n), obC 85 [str n] st FF st]) := by kernel_rfl
theorem rd2Bad2 : bpEv 63 [.ptr d 0, TT, .sl i 1 0 2 fl] st [.eff (.mp m) id, .eff FF id, .eff (str n) id, .eff TT id, .eff (str n2) id, .eff FF id] = some (i64 1, st, [obL st 101 (.ptr d 0) (.mp m), obL st 4 (.ptr d 3) FF, obL st 9 (.ptr i 0) (str n), obC 85 [str n] st TT st, obL st 9 (.ptr i 1) (str n2), obC 85 [str n2] st FF st]) := by kernel_rfl
theorem rd2Hit : bpEv 63 [.ptr d 0, TT, .sl i 1 0 2 fl] st [.eff (.mp m) id, .eff FF id, .eff (str n) id, .eff TT id, .eff (str n2) id, .eff TT id, .eff (.mp m) id, .eff (str n) id, .eff (.tup [v, TT]) id, .eff (.ptr a 0) f1, .eff .undef f2] = some (i64 0, f2 (midSt st (idsD d i m) f1),
  [obL st 101 (.ptr d 0) (.mp m), obL st 4 (.ptr d 3) FF, obL st 9 (.ptr i 0) (str n), obC 85 [str n] st TT st, obL st 9 (.ptr i 1) (str n2), obC 85 [str n2] st TT st] ++ obRd d i m a st n (.tup [v, TT]) v f1 f2) := by kernel_rfl
theorem rd2Miss : bpEv 63 [.ptr d 0, TT, .sl i 1 0 2 fl] st [.eff (.mp m) id, .eff FF id, .eff (str n) id, .eff TT id, .eff (str n2) id, .eff TT id, .eff (.mp m) id, .eff (str n) id, .eff (.tup [v, FF]) id, .eff (.ptr a 0) f1, .eff .undef f2] = some (i64 6, f2 (midSt st (idsD d i m) f1),
  [obL st 101 (.ptr d 0) (.mp m), obL st 4 (.ptr d 3) FF, obL st 9 (.ptr i 0) (str n), obC 85 [str n] st TT st, obL st 9 (.ptr i 1) (str n2), obC 85 [str n2] st TT st] ++ obRd d i m a st n (.tup [v, FF]) v f1 f2) := by kernel_rfl
theorem rnNot : bpEv 27 [.ptr d 0, str n, str n2] st [.eff (i64 e) (fun _ => s1), TT] = some (i64 e, s1, [obR2 d n n2 st e s1, bo (neE e 0) = TT]) := by kernel_rfl
theorem rnBurn : bpEv 27 [.ptr d 0, str n, str n2] st [.eff (i64 0) (fun _ => s1), FF, .eff TT (fun _ => s2)] = some (i64 8, s2, [obR2 d n n2 st 0 s1, bo (neE 0 0) = FF, obC 64 [.ptr d 0] s1 TT s2]) := by kernel_rfl
theorem rnOk : bpEv 27 [.ptr d 0, str n, str n2] st [.eff (i64 0) (fun _ => s1), FF, .eff FF (fun _ => s2), .eff (.mp m) id, .eff v id, .eff .undef (fun _ => s3), .eff (.mp m) id, .eff (.tup []) (fun _ => s4), .eff (.mp m) id, .eff l id, .eff .undef (fun _ => s5)] = some (i64 0, s5,
  [obR2 d n n2 st 0 s1, bo (neE 0 0) = FF, obC 64 [.ptr d 0] s1 FF s2, obL s2 101 (.ptr d 0) (.mp m), obK s2 m n false v, storeA E0 (zSt s2) 105 (.ptr s2.next 0) v = some s3, obL s3 101 (.ptr d 0) (.mp m), mapDeleteA E0 s3 101 (.mp m) (str n) = some s4 ∧ AV.tup [] = AV.tup []] ++ obU d s2.next m s4 n2 l s5) := by kernel_rfl
/-- bytes.Clone -/
theorem clN : bpEv 65 [.nils] st [] = some (.nils, st, []) := by kernel_rfl
theorem clI (k : Nat) (c : List AV) : bpEv 65 [.imm 1 k fl c] st [.eff v (fun _ => s1)] = some (v, s1, [appendA E0 (st.push (.row [] 5)) 28 28 (.sl st.next 1 0 0 true) (.imm 1 k fl c) = some (v, s1)]) := by kernel_rfl
theorem offEv (b : Bool) : bpEv 29 [.ptr d 0] st [.eff (bo b) id] = some (bo b, st, [obL st 4 (.ptr d 3) (bo b)]) := by kernel_rfl
theorem fuEv (k : Int) : bpEv 22 [.ptr d 0, i64 e] st [i64 k, .eff .undef (fun _ => s1)] = some (.tup [], s1, [(match pureVal (Builtin.max_ #[] 0 #[.int .i64 e, .int .i64 0]) with | some x => x | none => .undef) = i64 k, storeA E0 st 3 (.ptr d 2) (i64 k) = some s1]) := by kernel_rfl
end
end
section
set_option maxRecDepth 4000
/-- all but S stays -/
structure Rest (st st' : St) (S : List Nat) : Prop where
  keep : ∀ i o, i ∉ S → st.get i = some o → st'.get i = some o
  next : st.next ≤ st'.next
  lock : st'.lock = st.lock
  gl : st'.gl = st.gl
  wf : st'.wf
theorem Rest.refl {st : St} (hw : st.wf) (S : List Nat) : Rest st st S := ⟨fun _ _ _ h => h, Nat.le_refl _, rfl, rfl, hw⟩
theorem Rest.trans {a b c : St} {S : List Nat} (h : Rest a b S) (k : Rest b c S) : Rest a c S :=
  ⟨fun i o hi ho => k.keep i o hi (h.keep i o hi ho), Nat.le_trans h.next k.next, k.lock.trans h.lock, k.gl.trans h.gl, k.wf⟩
theorem Rest.weak {a b : St} {S S' : List Nat} (h : Rest a b S) (hs : ∀ i ∈ S, i ∈ S') : Rest a b S' :=
  ⟨fun i o hi ho => h.keep i o (fun e => hi (hs i e)) ho, h.next, h.lock, h.gl, h.wf⟩
theorem set_wf {st : St} (hw : st.wf) {id : Nat} (hid : id < st.next) (o : AObj) : (st.set id o).wf := fun i p h => by
  rw [St.get_set] at h
  show i < st.next
  split at h
  · omega
  · exact hw _ _ h
theorem push_wf {st : St} (hw : st.wf) (o : AObj) : (st.push o).wf := fun i p h => by
  rw [St.get_push] at h
  show i < st.next + 1
  split at h
  · omega
  · have := hw _ _ h; omega
theorem bump_wf {st : St} (hw : st.wf) (k : Nat) : (bump st k).wf := fun i p h => by
  have := hw i p h
  show i < st.next + k
  omega
theorem Rest.bump {st : St} (hw : st.wf) (k : Nat) (S : List Nat) : Rest st (bump st k) S := ⟨fun _ _ _ h => h, Nat.le_add_right _ _, rfl, rfl, bump_wf hw k⟩
theorem Rest.push {st : St} (hw : st.wf) (o : AObj) (S : List Nat) : Rest st (st.push o) S :=
  ⟨fun i p _ h => by have := hw _ _ h; rw [St.get_push, if_neg (by omega)]; exact h, by simp, rfl, rfl, push_wf hw o⟩
theorem Rest.set {st : St} (hw : st.wf) {id : Nat} (hid : id < st.next) (o : AObj) {S : List Nat} (hS : id ∈ S) : Rest st (st.set id o) S :=
  ⟨fun i p hi h => by rw [St.get_set, if_neg (fun e => hi (by rw [e]; exact hS))]; exact h, Nat.le_refl _, rfl, rfl, set_wf hw hid o⟩
/-- a local file variable -/
theorem local_ok {st : St} (hw : st.wf) (hl : st.lock = []) (x y : AV) : ∃ s', storeA E0 (zSt st) 105 (.ptr st.next 0) (.agg [x, y]) = some s' ∧ s'.get st.next = some (.row [x, y] 105) ∧ Rest st s' [] ∧ s'.next = st.next + 1 := by
  refine ⟨_, store105 (st := zSt st) (a := st.next) (v0 := .nils) (v1 := i64 0) (ty := 105) (by unfold zSt; rw [St.get_push, if_pos rfl]) (by unfold zSt; rw [St.lock_push, hl]; simp), by rw [St.get_set, if_pos rfl], ?_, rfl⟩
  refine ⟨fun i o _ ho => ?_, by show st.next ≤ st.next + 1; omega, rfl, rfl, set_wf (push_wf hw _) (by simp) _⟩
  have := hw _ _ ho
  rw [St.get_set, if_neg (by omega)]
  unfold zSt
  rw [St.get_push, if_neg (by omega)]; exact ho
theorem size3 : tySize E0 3 = some 1 := by kernel_rfl
theorem size4 : tySize E0 4 = some 1 := by kernel_rfl
theorem storeN {st : St} {d : Nat} {a b c e : AV} {ty : Nat} (hg : st.get d = some (.row [a, b, c, e] ty)) (hl : st.lock = []) (x : Int) : storeA E0 st 3 (.ptr d 2) (i64 x) = some (st.set d (.row [a, b, i64 x, e] ty)) := by
  have hwg := St.wget_of hg (show d ∉ st.lock by rw [hl]; simp)
  simp [storeA, avCells, oneA, size3, hwg]
theorem storeB {st : St} {d : Nat} {a b c e : AV} {ty : Nat} (hg : st.get d = some (.row [a, b, c, e] ty)) (hl : st.lock = []) (x : Bool) : storeA E0 st 4 (.ptr d 3) (bo x) = some (st.set d (.row [a, b, c, bo x] ty)) := by
  have hwg := St.wget_of hg (show d ∉ st.lock by rw [hl]; simp)
  simp [storeA, bo, avCells, oneA, size4, hwg]
theorem eqN_eq (a b : Int) : eqN a b = (a == b) := rfl
theorem subN_eq (a b : Int) (h : -9223372036854775808 ≤ a - b ∧ a - b ≤ 9223372036854775807) : subN a b = a - b := by
  have : subN a b = IntKind.i64.wrap (a - b) := rfl
  rw [this, IntWalk.i64_in _ h]
def burnB (fu : Int) : Bool := fu == 1
def burnN (fu : Int) : Int := if fu = 0 then 0 else fu - 1
theorem PD.rest {st st' : St} {d m : Nat} {L : List PF} {q fu : Int} {off : Bool} (h : PD st d L q fu off m) (hr : Rest st st' []) : PD st' d L q fu off m := by
  obtain ⟨bs, c, hm⟩ := h.map
  exact ⟨hr.keep _ _ (by simp) h.row, bs, c, hr.keep _ _ (by simp) hm⟩
theorem burns_ok {st : St} {d m : Nat} {L : List PF} {q fu : Int} (hp : PD st d L q fu false m) (hw : st.wf) (hl : st.lock = []) (hf : 0 ≤ fu ∧ fu ≤ 9223372036854775807) :
    ∃ st', obC 64 [.ptr d 0] st (bo (burnB fu)) st' ∧ PD st' d L q (burnN fu) (burnB fu) m ∧ Rest st st' [d] := by
  have hd := hw _ _ hp.row
  obtain ⟨bs, c, hm⟩ := hp.map
  have o1 : obL st 3 (.ptr d 2) (i64 fu) := ⟨load_row hp.row (p3 rfl), rfl⟩
  by_cases h0 : fu = 0
  · subst h0
    refine ⟨st, ?_, hp, .refl hw _⟩
    refine dk_run (burn0 d st 0) ?_
    simp only [Ob.ok_cons, Ob.ok_nil, and_true]
    exact ⟨o1, ob_T rfl⟩
  · have hs1 := storeN hp.row hl (fu - 1)
    have g1 : (st.set d (.row [.mp m, i64 q, i64 (fu - 1), bo false] 103)).get d = some (.row [.mp m, i64 q, i64 (fu - 1), bo false] 103) := by rw [St.get_set, if_pos rfl]
    have hs2 := storeB g1 (by simpa using hl) (burnB fu)
    refine ⟨(st.set d (.row [.mp m, i64 q, i64 (fu - 1), bo false] 103)).set d (.row [.mp m, i64 q, i64 (fu - 1), bo (burnB fu)] 103), dk_run (burn1 d st fu (fu - 1) (fun _ => st.set d (.row [.mp m, i64 q, i64 (fu - 1), bo false] 103)) (fun _ => (st.set d (.row [.mp m, i64 q, i64 (fu - 1), bo false] 103)).set d (.row [.mp m, i64 q, i64 (fu - 1), bo (burnB fu)] 103)) (burnB fu)) ?_, ⟨by rw [St.get_set, if_pos rfl, burnN, if_neg h0], bs, c, ?_⟩, (Rest.set hw hd _ (by simp)).trans (Rest.set (set_wf hw hd _) hd _ (by simp))⟩
    · simp only [Ob.ok_cons, Ob.ok_nil, and_true]
      refine ⟨o1, ob_F (by rw [eqN_eq, beq_eq_false_iff_ne]; exact h0), o1, by rw [subN_eq _ _ (by omega)], hs1, ⟨load_row g1 (p3 rfl), rfl⟩, ?_, hs2, ⟨load_row (by rw [St.get_set, if_pos rfl]) (p4 rfl), rfl⟩⟩
      rw [eqN_eq]
      refine congrArg bo ?_
      unfold burnB
      rw [Bool.eq_iff_iff, beq_iff_eq, beq_iff_eq]
      omega
    · rw [St.get_set, if_neg hp.ne.symm, St.get_set, if_neg hp.ne.symm]; exact hm
end
section
set_option maxRecDepth 4000
theorem pg_run {f : Nat} {args : List AV} {a : AV} {st st' : St} {o : List Or} {ob : Ob} (h : pgEv f args st o = some (a, st', ob)) (hob : ob.ok) : obC f args st a st' := by
  obtain ⟨⟨a1, s1, x1, o1⟩, h1, h2⟩ := Option.map_eq_some_iff.1 h
  simp only [Prod.mk.injEq] at h2
  obtain ⟨rfl, rfl, rfl⟩ := h2
  exact ACalls.run hE (ov := noOv) noOv_ok h1 hob
theorem ap_run {f : Nat} {args : List AV} {a : AV} {st st' : St} {o : List Or} {ob : Ob} (h : apEv f args st o = some (a, st', ob)) (hob : ob.ok) : obC f args st a st' := by
  obtain ⟨⟨a1, s1, x1, o1⟩, h1, h2⟩ := Option.map_eq_some_iff.1 h
  simp only [Prod.mk.injEq] at h2
  obtain ⟨rfl, rfl, rfl⟩ := h2
  exact ACalls.run hE (ov := noOv) noOv_ok h1 hob
theorem bp_run {f : Nat} {args : List AV} {a : AV} {st st' : St} {o : List Or} {ob : Ob} (h : bpEv f args st o = some (a, st', ob)) (hob : ob.ok) : obC f args st a st' := by
  obtain ⟨⟨a1, s1, x1, o1⟩, h1, h2⟩ := Option.map_eq_some_iff.1 h
  simp only [Prod.mk.injEq] at h2
  obtain ⟨rfl, rfl, rfl⟩ := h2
  exact ACalls.run hE (ov := noOv) noOv_ok h1 hob
theorem neE_eq (a b : Int) : neE a b = (a != b) := rfl
theorem geN_eq (a b : Int) : geN a b = decide (a ≥ b) := rfl
theorem neE_T {e : Int} (h : e ≠ 0) : bo (neE e 0) = TT := ob_T (by rw [neE_eq]; simpa using h)
theorem neE_F : bo (neE 0 0) = FF := ob_F rfl
/-- ready, as calls ask it -/
theorem rd_ok {st : St} {d m : Nat} {L : List PF} {q fu : Int} {off : Bool} (hp : PD st d L q fu off m) (hw : st.wf) (hl : st.lock = []) (n : ByteArray) (there : Bool) :
    ∃ s1, obR d (bo there) n st (rdE L off there n) s1 ∧ Rest st s1 [] := by
  have hp' : PD (nmSt st n) d L q fu off m := hp.rest (Rest.push hw _ _)
  obtain ⟨k, h⟩ := ready_ok (i := st.next) (fl := true) (n := n) (ty := 9) hp' (push_wf hw _) (by unfold nmSt; rw [St.get_push, if_pos rfl]) (by simpa [nmSt] using hl) there
  exact ⟨_, h, (Rest.push hw _ _).trans (Rest.bump (push_wf hw _) k _)⟩
structure PS where
  L : List PF
  q : Int
  fu : Int
  off : Bool
def PDs (st : St) (d m : Nat) (s : PS) : Prop := PD st d s.L s.q s.fu s.off m
def putL (L : List PF) (f : PF) : List PF := match find f.name L with | some k => L.set k f | none => L ++ [f]
def burnt (s : PS) : PS := { s with fu := burnN s.fu, off := burnB s.fu }
def pCreate (s : PS) (n : ByteArray) : Int × PS :=
  if rdE s.L s.off false n ≠ 0 then (rdE s.L s.off false n, s) else
  if find n s.L = none ∧ 4096 ≤ s.L.length then (7, s) else
  if burnB s.fu = true then (8, burnt s) else
  (0, { burnt s with L := putL s.L ⟨n, .nils, [], 0⟩ })
theorem rd0_off {L : List PF} {off there : Bool} {n : ByteArray} (h : ¬ rdE L off there n ≠ 0) : off = false := by
  cases off with
  | false => rfl
  | true => exact absurd (show rdE L true there n ≠ 0 by unfold rdE; rw [if_pos rfl]; decide) h
theorem mapLen_ok {st : St} {m : Nat} {L : List PF} {bs : List Nat} {c : Nat} (hm : st.get m = some (.map (L.map ent) bs c)) : lenA E0 101 (.mp m) = none ∧ mapLenA E0 st 101 (.mp m) = some (i64 L.length) ∧ st = st := by
  refine ⟨by kernel_rfl, ?_, rfl⟩
  simp only [mapLenA, ty101', hm, List.length_map]
theorem put_ok {st : St} {m : Nat} {L : List PF} {bs : List Nat} {c : Nat} (hm : st.get m = some (.map (L.map ent) bs c)) (hl : st.lock = []) (f : PF) : ∃ bs' c', mapUpdateA E0 st 101 (.mp m) (str f.name) (ent f).2 = some (st.set m (.map ((putL L f).map ent) bs' c')) := by
  have hlm : m ∉ st.lock := by rw [hl]; simp
  unfold putL
  cases hf : find f.name L with
  | some k => exact ⟨_, _, update_hit hm hlm hf f rfl⟩
  | none => exact ⟨_, _, update_miss hm hlm hf f rfl⟩
theorem create_ok {st : St} {d m : Nat} {s : PS} (hp : PDs st d m s) (hw : st.wf) (hl : st.lock = []) (hf : 0 ≤ s.fu ∧ s.fu ≤ 9223372036854775807) (n : ByteArray) :
    ∃ st', obC 21 [.ptr d 0, str n] st (i64 (pCreate s n).1) st' ∧ PDs st' d m (pCreate s n).2 ∧ Rest st st' [d, m] := by
  obtain ⟨L, q, fu, off⟩ := s
  have hp0 : PD st d L q fu off m := hp
  obtain ⟨s1, r1, k1⟩ := rd_ok hp0 hw hl n false
  unfold pCreate
  simp only
  by_cases hr : rdE L off false n ≠ 0
  · rw [if_pos hr]
    refine ⟨s1, pg_run (crNot d n _ st s1) ?_, hp0.rest k1, k1.weak (by simp)⟩
    simp only [Ob.ok_cons, Ob.ok_nil, and_true]
    exact ⟨r1, neE_T hr⟩
  rw [if_neg hr]
  obtain rfl := rd0_off hr
  have hr0 : rdE L false false n = 0 := by simpa using hr
  rw [hr0] at r1
  have l1 : s1.lock = [] := k1.lock.trans hl
  have p1 := hp0.rest k1
  obtain ⟨bs, c, hm⟩ := p1.map
  have o1 : obL s1 101 (.ptr d 0) (.mp m) := ⟨load_row p1.row (p101 rfl), rfl⟩
  have tail : ∀ {x y : AV}, ∃ s2, storeA E0 (zSt s1) 105 (.ptr s1.next 0) (.agg [x, y]) = some s2 ∧ Rest s1 s2 [] ∧ s2.lock = [] ∧ PD s2 d L q fu false m ∧ obL s2 101 (.ptr d 0) (.mp m) ∧ (lenA E0 101 (.mp m) = none ∧ mapLenA E0 s2 101 (.mp m) = some (i64 L.length) ∧ s2 = s2) := fun {x y} => by
    obtain ⟨s2, a1, _, a3, _⟩ := local_ok k1.wf l1 x y
    have p2 := p1.rest a3
    obtain ⟨bs, c, hm⟩ := p2.map
    exact ⟨s2, a1, a3, a3.lock.trans l1, p2, ⟨load_row p2.row (p101 rfl), rfl⟩, mapLen_ok hm⟩
  have fin : ∀ {s2 : St}, Rest s1 s2 [] → s2.lock = [] → PD s2 d L q fu false m → ∃ s3, obC 64 [.ptr d 0] s2 (bo (burnB fu)) s3 ∧ PD s3 d L q (burnN fu) (burnB fu) m ∧ Rest st s3 [d, m] ∧ obL s3 101 (.ptr d 0) (.mp m) ∧
      ∃ s4, mapUpdateA E0 s3 101 (.mp m) (str n) (.agg [.nils, i64 0]) = some s4 ∧ PD s4 d (putL L ⟨n, .nils, [], 0⟩) q (burnN fu) (burnB fu) m ∧ Rest st s4 [d, m] := fun {s2} h2 l2 p2 => by
    obtain ⟨s3, b1, b2, b3⟩ := burns_ok p2 h2.wf l2 hf
    obtain ⟨bs3, c3, hm3⟩ := b2.map
    obtain ⟨bs', c', hu⟩ := put_ok hm3 (b3.lock.trans l2) ⟨n, .nils, [], 0⟩
    have R3 : Rest st s3 [d, m] := ((k1.weak (by simp)).trans (h2.weak (by simp))).trans (b3.weak (by simp))
    refine ⟨s3, b1, b2, R3, ⟨load_row b2.row (p101 rfl), rfl⟩, _, hu, ⟨?_, bs', c', ?_⟩, R3.trans (Rest.set b3.wf (b3.wf _ _ hm3) _ (by simp))⟩
    · rw [St.get_set, if_neg b2.ne]; exact b2.row
    · rw [St.get_set, if_pos rfl]
  cases hfi : find n L with
  | some k =>
    rw [if_neg (fun h => by cases h.1)]
    obtain ⟨f, hk, hn⟩ := find_some hfi
    obtain ⟨s2, a1, a2, a3, a4, a5, _⟩ := tail (x := f.dv) (y := i64 f.last)
    obtain ⟨s3, b1, b2, b3, b4, s4, c1, c2, c3⟩ := fin a2 a3 a4
    have olk : obK s1 m n true (.tup [.agg [f.dv, i64 f.last], TT]) := ⟨lookup_hit hm hfi hk true, rfl⟩
    by_cases hb : burnB fu = true
    · rw [if_pos hb]
      rw [hb] at b1
      refine ⟨s3, pg_run (crBurnT d m n (.agg [f.dv, i64 f.last]) st s1 s2 s3) ?_, b2, b3⟩
      simp only [Ob.ok_cons, Ob.ok_nil, and_true]
      exact ⟨r1, neE_F, o1, olk, a1, b1⟩
    · rw [if_neg hb]
      rw [Bool.not_eq_true] at hb
      rw [hb] at b1
      refine ⟨s4, pg_run (crOkT d m n (.agg [f.dv, i64 f.last]) st s1 s2 s3 s4) ?_, c2, c3⟩
      simp only [Ob.ok_cons, Ob.ok_nil, and_true]
      exact ⟨r1, neE_F, o1, olk, a1, b1, b4, c1⟩
  | none =>
    obtain ⟨s2, a1, a2, a3, a4, a5, a6⟩ := tail (x := .nils) (y := i64 0)
    obtain ⟨s3, b1, b2, b3, b4, s4, c1, c2, c3⟩ := fin a2 a3 a4
    have olk : obK s1 m n true (.tup [.agg [.nils, i64 0], FF]) := ⟨lookup_miss hm hfi true, rfl⟩
    by_cases hlen : 4096 ≤ L.length
    · rw [if_pos ⟨rfl, hlen⟩]
      refine ⟨s2, pg_run (crFull d m n (.agg [.nils, i64 0]) st s1 s2 L.length) ?_, a4, (k1.weak (by simp)).trans (a2.weak (by simp))⟩
      simp only [Ob.ok_cons, Ob.ok_nil, and_true]
      exact ⟨r1, neE_F, o1, olk, a1, a5, ⟨a6.1, a6.2.1⟩, ob_T (by rw [geN_eq]; simp; omega)⟩
    · rw [if_neg (fun h => hlen h.2)]
      have hge : bo (geN L.length 4096) = FF := ob_F (by rw [geN_eq]; simp; omega)
      by_cases hb : burnB fu = true
      · rw [if_pos hb]
        rw [hb] at b1
        refine ⟨s3, pg_run (crBurnF d m n (.agg [.nils, i64 0]) st s1 s2 s3 L.length) ?_, b2, b3⟩
        simp only [Ob.ok_cons, Ob.ok_nil, and_true]
        exact ⟨r1, neE_F, o1, olk, a1, a5, ⟨a6.1, a6.2.1⟩, hge, b1⟩
      · rw [if_neg hb]
        rw [Bool.not_eq_true] at hb
        rw [hb] at b1
        refine ⟨s4, pg_run (crOkF d m n (.agg [.nils, i64 0]) st s1 s2 s3 s4 L.length) ?_, c2, c3⟩
        simp only [Ob.ok_cons, Ob.ok_nil, and_true]
        exact ⟨r1, neE_F, o1, olk, a1, a5, ⟨a6.1, a6.2.1⟩, hge, b1, b4, c1⟩
end
section
set_option maxRecDepth 4000
/-- files as the disk has them: the slice is the bytes -/
def DV (f : PF) : Prop := (f.bytes = [] ∧ f.dv = .nils) ∨ ∃ fl, f.dv = .imm 1 f.bytes.length fl (f.bytes.map u8)
structure Good (s : PS) : Prop where
  dv : ∀ f ∈ s.L, DV f ∧ f.last ≤ f.bytes.length
  fu : 0 ≤ s.fu ∧ s.fu ≤ 9223372036854775807
def pRemove (s : PS) (n : ByteArray) : Int × PS :=
  if rdE s.L s.off true n ≠ 0 then (rdE s.L s.off true n, s) else
  if burnB s.fu = true then (8, burnt s) else
  (0, { burnt s with L := s.L.eraseIdx ((find n s.L).getD 0) })
theorem rd0_find {L : List PF} {off : Bool} {n : ByteArray} (h : ¬ rdE L off true n ≠ 0) : ∃ k f, find n L = some k ∧ L[k]? = some f ∧ f.name = n := by
  cases hf : find n L with
  | some k =>
    obtain ⟨f, h1, h2⟩ := find_some hf
    exact ⟨k, f, rfl, h1, h2⟩
  | none =>
    refine absurd ?_ h
    unfold rdE
    rw [hf]
    split
    · decide
    · split
      · decide
      · simp
/-- the way to a file that is there, the fuse burnt -/
theorem way {st : St} {d m : Nat} {s : PS} (hp : PDs st d m s) (hw : st.wf) (hl : st.lock = []) (hf : 0 ≤ s.fu ∧ s.fu ≤ 9223372036854775807) {n : ByteArray} (hr : ¬ rdE s.L s.off true n ≠ 0) :
    ∃ s1 s2, obR d TT n st 0 s1 ∧ Rest st s1 [] ∧ PDs s1 d m s ∧ obC 64 [.ptr d 0] s1 (bo (burnB s.fu)) s2 ∧ PDs s2 d m (burnt s) ∧ Rest st s2 [d, m] ∧ s2.lock = [] ∧ obL s2 101 (.ptr d 0) (.mp m) := by
  obtain ⟨L, q, fu, off⟩ := s
  have hp0 : PD st d L q fu off m := hp
  obtain ⟨s1, r1, k1⟩ := rd_ok hp0 hw hl n true
  obtain rfl := rd0_off hr
  have hr0 : rdE L false true n = 0 := by simpa using hr
  rw [hr0] at r1
  have p1 := hp0.rest k1
  obtain ⟨s2, b1, b2, b3⟩ := burns_ok p1 k1.wf (k1.lock.trans hl) hf
  exact ⟨s1, s2, r1, k1, p1, b1, b2, (k1.weak (by simp)).trans (b3.weak (by simp)), b3.lock.trans (k1.lock.trans hl), ⟨load_row b2.row (p101 rfl), rfl⟩⟩
theorem remove_ok {st : St} {d m : Nat} {s : PS} (hp : PDs st d m s) (hw : st.wf) (hl : st.lock = []) (hg : Good s) (n : ByteArray) :
    ∃ st', obC 34 [.ptr d 0, str n] st (i64 (pRemove s n).1) st' ∧ PDs st' d m (pRemove s n).2 ∧ Rest st st' [d, m] := by
  unfold pRemove
  by_cases hr : rdE s.L s.off true n ≠ 0
  · rw [if_pos hr]
    obtain ⟨s1, r1, k1⟩ := rd_ok hp hw hl n true
    refine ⟨s1, pg_run (rmNot d n _ st s1) ?_, PD.rest hp k1, k1.weak (by simp)⟩
    simp only [Ob.ok_cons, Ob.ok_nil, and_true]
    exact ⟨r1, neE_T hr⟩
  rw [if_neg hr]
  obtain ⟨s1, s2, r1, k1, p1, b1, p2, k2, l2, o2⟩ := way hp hw hl hg.fu hr
  obtain ⟨k, f, hfi, hk, hn⟩ := rd0_find hr
  by_cases hb : burnB s.fu = true
  · rw [if_pos hb]
    rw [hb] at b1
    refine ⟨s2, pg_run (rmBurn d n st s1 s2) ?_, p2, k2⟩
    simp only [Ob.ok_cons, Ob.ok_nil, and_true]
    exact ⟨r1, neE_F, b1⟩
  · rw [if_neg hb]
    rw [Bool.not_eq_true] at hb
    rw [hb] at b1
    obtain ⟨bs, c, hm⟩ := p2.map
    have hd := delete_hit hm (by rw [l2]; simp) hfi
    refine ⟨s2.set m (.map (((burnt s).L.eraseIdx k).map ent) (bs.eraseIdx k) c), pg_run (rmOk d m n st s1 s2 (s2.set m (.map (((burnt s).L.eraseIdx k).map ent) (bs.eraseIdx k) c))) ?_, ⟨?_, bs.eraseIdx k, c, ?_⟩, k2.trans (Rest.set k2.wf (k2.wf _ _ hm) _ (by simp))⟩
    · simp only [Ob.ok_cons, Ob.ok_nil, and_true]
      exact ⟨r1, neE_F, b1, o2, hd⟩
    · rw [St.get_set, if_neg (PD.ne p2)]; exact p2.row
    · rw [St.get_set, if_pos rfl, hfi]; rfl
def pSync (s : PS) (n : ByteArray) : Int × PS :=
  if rdE s.L s.off true n ≠ 0 then (rdE s.L s.off true n, s) else
  if burnB s.fu = true then (8, burnt s) else
  match find n s.L with
  | some k => match s.L[k]? with
    | some f => (0, { burnt s with L := s.L.set k { f with last := f.bytes.length } })
    | none => (0, burnt s)
  | none => (0, burnt s)
theorem st105 {st : St} {a : Nat} {x y : AV} {ty : Nat} (hg : st.get a = some (.row [x, y] ty)) (hl : st.lock = []) (k : Int) : storeA E0 st 3 (.ptr a 1) (i64 k) = some (st.set a (.row [x, i64 k] ty)) := by
  have hwg := St.wget_of hg (show a ∉ st.lock by rw [hl]; simp)
  simp [storeA, avCells, oneA, size3, hwg]
theorem p28 {vs : List AV} {off : Nat} {a : AV} (h : vs[off]? = some a) : partA E0 28 vs off = some a := plainT ty28 rfl h
theorem p105 {x y : AV} : partA E0 105 [x, y] 0 = some (.agg [x, y]) := by
  simp only [partA, ty105]
  rfl
theorem upd_ok {s : St} {d a m : Nat} {L : List PF} {q fu : Int} {off : Bool} (hp : PD s d L q fu off m) (hw : s.wf) (hl : s.lock = []) (f : PF) (ha : s.get a = some (.row [f.dv, i64 f.last] 105)) :
    ∃ s', (obU d a m s f.name (.agg [f.dv, i64 f.last]) s').ok ∧ PD s' d (putL L f) q fu off m ∧ Rest s s' [d, m] := by
  obtain ⟨bs, c, hm⟩ := hp.map
  obtain ⟨bs', c', hu⟩ := put_ok hm hl f
  refine ⟨_, ?_, ⟨?_, bs', c', by rw [St.get_set, if_pos rfl]⟩, Rest.set hw (hw _ _ hm) _ (by simp)⟩
  · unfold obU
    simp only [Ob.ok_cons, Ob.ok_nil, and_true]
    refine ⟨fun k hk => ?_, ⟨by simp, load_row hp.row (p101 rfl)⟩, ⟨by simp, load_row ha p105⟩, (fun h => (by cases h)), hu⟩
    simp only [List.mem_cons, List.not_mem_nil, or_false] at hk
    rcases hk with rfl | rfl
    · exact hw _ _ hp.row
    · exact hw _ _ ha
  · rw [St.get_set, if_neg hp.ne]; exact hp.row
theorem putL_hit {L : List PF} {k : Nat} {f : PF} (h : find f.name L = some k) : putL L f = L.set k f := by unfold putL; rw [h]
theorem sync_ok {st : St} {d m : Nat} {s : PS} (hp : PDs st d m s) (hw : st.wf) (hl : st.lock = []) (hg : Good s) (n : ByteArray) :
    ∃ st', obC 33 [.ptr d 0, str n] st (i64 (pSync s n).1) st' ∧ PDs st' d m (pSync s n).2 ∧ Rest st st' [d, m] := by
  unfold pSync
  by_cases hr : rdE s.L s.off true n ≠ 0
  · rw [if_pos hr]
    obtain ⟨s1, r1, k1⟩ := rd_ok hp hw hl n true
    refine ⟨s1, pg_run (sySyn d n _ st s1) ?_, PD.rest hp k1, k1.weak (by simp)⟩
    simp only [Ob.ok_cons, Ob.ok_nil, and_true]
    exact ⟨r1, neE_T hr⟩
  rw [if_neg hr]
  obtain ⟨s1, s2, r1, k1, p1, b1, p2, k2, l2, o2⟩ := way hp hw hl hg.fu hr
  obtain ⟨k, f, hfi, hk, hn⟩ := rd0_find hr
  by_cases hb : burnB s.fu = true
  · rw [if_pos hb]
    rw [hb] at b1
    refine ⟨s2, pg_run (syBurn d n st s1 s2) ?_, p2, k2⟩
    simp only [Ob.ok_cons, Ob.ok_nil, and_true]
    exact ⟨r1, neE_F, b1⟩
  rw [if_neg hb]
  rw [Bool.not_eq_true] at hb
  rw [hb] at b1
  obtain ⟨bs, c, hm⟩ := p2.map
  have olk : obK s2 m n false (.agg [f.dv, i64 f.last]) := ⟨lookup_hit hm hfi hk false, rfl⟩
  obtain ⟨s3, a1, a2, a3, a4⟩ := local_ok k2.wf l2 f.dv (i64 f.last)
  have l3 : s3.lock = [] := a3.lock.trans l2
  have o3 : obL s3 28 (.ptr s2.next 0) f.dv := ⟨load_row a2 (p28 rfl), rfl⟩
  have hst := st105 a2 l3 f.bytes.length
  have w4 := set_wf a3.wf (a3.wf _ _ a2) (.row [f.dv, i64 f.bytes.length] 105)
  have R4 : Rest s2 (s3.set s2.next (.row [f.dv, i64 f.bytes.length] 105)) [] := ⟨fun i o _ ho => by
    have := k2.wf _ _ ho
    rw [St.get_set, if_neg (by omega)]; exact a3.keep _ _ (by simp) ho, a3.next, a3.lock, a3.gl, w4⟩
  have p4 : PDs (s3.set s2.next (.row [f.dv, i64 f.bytes.length] 105)) d m (burnt s) := PD.rest p2 R4
  obtain ⟨s5, u1, u2, u3⟩ := upd_ok p4 w4 (by simpa using l3) { f with last := f.bytes.length } (a := s2.next) (by rw [St.get_set, if_pos rfl])
  have hput : putL (burnt s).L { f with last := f.bytes.length } = s.L.set k { f with last := f.bytes.length } := putL_hit (by rw [hn]; exact hfi)
  generalize s3.set s2.next (.row [f.dv, i64 f.bytes.length] 105) = s4 at *
  rw [hfi]
  simp only [hk]
  refine ⟨s5, ?_, ?_, (k2.trans (R4.weak (by simp))).trans u3⟩
  · simp only [hn] at u1
    rcases (hg.dv f (List.mem_of_getElem? hk)).1 with ⟨h0, hdv⟩ | ⟨fl, hdv⟩
    · refine pg_run (syOkN d m n (.agg [f.dv, i64 f.last]) st s1 s2 s3 s4 (.agg [f.dv, i64 f.bytes.length]) s5) ?_
      rw [Ob.ok_append]
      refine ⟨?_, u1⟩
      simp only [Ob.ok_cons, Ob.ok_nil, and_true]
      rw [hdv] at o3
      have e0 : ((f.bytes.length : Nat) : Int) = 0 := by rw [h0]; rfl
      rw [e0] at hst
      exact ⟨r1, neE_F, b1, o2, olk, a1, o3, hst⟩
    · refine pg_run (syOk d m n (.agg [f.dv, i64 f.last]) st s1 s2 s3 s4 f.bytes.length fl (f.bytes.map u8) (.agg [f.dv, i64 f.bytes.length]) s5) ?_
      rw [Ob.ok_append]
      refine ⟨?_, u1⟩
      simp only [Ob.ok_cons, Ob.ok_nil, and_true]
      rw [hdv] at o3
      exact ⟨r1, neE_F, b1, o2, olk, a1, o3, hst⟩
  · show PD s5 d (s.L.set k { f with last := f.bytes.length }) s.q (burnN s.fu) (burnB s.fu) m
    rw [← hput]; exact u2
end
section
set_option maxRecDepth 4000
theorem el28 : elemA E0 28 = some (5, ⟨.int .u8, 1, 1, some (.int .u8 0)⟩, [u8 0]) := by kernel_rfl
theorem str28 : isStrTy E0 28 = false := by kernel_rfl
theorem src28 {st : St} {x : AV} : srcA E0 st 28 x = sliceCells st x := by simp only [srcA, ty28]
def big : Nat := 1099511627776
/-- append of bytes behind a slice that has no room -/
theorem app_full {st : St} {id off len n : Nat} {vs c : List AV} {x : AV} (hg : st.get id = some (.row vs 5)) (ho : off + len ≤ vs.length) (hx : sliceCells st x = some (n, c)) (hc : c.length = n) (h0 : n ≠ 0) (hb : len + n ≤ big) :
    appendA E0 st 28 28 (.sl id 1 off len true) x = some (.sl st.next 1 0 (len + n) false, st.push (.row ((vs.drop off).take len ++ c) 5)) := by
  unfold big at hb
  simp only [appendA, el28, src28, hx, str28, hg, Nat.mul_one]
  rw [if_pos ⟨hc, fun h => by cases h⟩, if_neg (fun h => h rfl), if_neg h0, if_pos ⟨by omega, by omega⟩, if_pos ⟨trivial, ho⟩, if_pos trivial]
theorem app_row {st : St} {id len n : Nat} {vs c : List AV} {x : AV} (hg : st.get id = some (.row vs 5)) (hl : st.lock = []) (ho : len = vs.length) (hx : sliceCells st x = some (n, c)) (hc : c.length = n) (h0 : n ≠ 0) (hb : len + n ≤ big) :
    appendA E0 st 28 28 (.sl id 1 0 len false) x = some (.sl st.next 1 0 (len + n) false, (st.del id).push (.row (vs ++ c) 5)) := by
  unfold big at hb
  simp only [appendA, el28, src28, hx, str28, hg, Nat.mul_one]
  rw [if_pos ⟨hc, fun h => by cases h⟩, if_neg (fun h => h rfl), if_neg h0, if_pos ⟨by omega, by omega⟩, if_pos ⟨trivial, by omega⟩, if_neg (by simp), if_pos ⟨by omega, by rw [hl]; simp⟩, List.drop_zero]
theorem app_nil {st : St} {n : Nat} {c : List AV} {x : AV} (hx : sliceCells st x = some (n, c)) (hc : c.length = n) (h0 : n ≠ 0) (hb : n ≤ big) :
    appendA E0 st 28 28 .nils x = some (.sl st.next 1 0 n false, st.push (.row c 5)) := by
  unfold big at hb
  simp only [appendA, el28, src28, hx, str28, Nat.mul_one]
  rw [if_pos ⟨hc, fun h => by cases h⟩, if_neg h0, if_pos ⟨by omega, by omega⟩]
theorem app_zero {st : St} {s x : AV} {c : List AV} (hs : s = .nils ∨ ∃ i o l f, s = .sl i 1 o l f) (hx : sliceCells st x = some (0, c)) (hc : c.length = 0) : appendA E0 st 28 28 s x = some (s, st) := by
  rcases hs with rfl | ⟨i, o, l, f, rfl⟩ <;> simp only [appendA, el28, src28, hx, str28, Nat.mul_one]
  · rw [if_pos ⟨hc, fun h => by cases h⟩, if_pos trivial]
  · rw [if_pos ⟨hc, fun h => by cases h⟩, if_neg (fun h => h rfl), if_pos trivial]
/-- bytes in a slice of one's own -/
def OwnB (st : St) (v : AV) (bs : List Int) : Prop :=
  (bs = [] ∧ v = .nils) ∨ (bs = [] ∧ ∃ i, v = .sl i 1 0 0 true ∧ st.get i = some (.row [] 5)) ∨ (bs ≠ [] ∧ ∃ i, v = .sl i 1 0 bs.length false ∧ st.get i = some (.row (bs.map u8) 5))
theorem OwnB.kind {st : St} {v : AV} {bs : List Int} (h : OwnB st v bs) : v = .nils ∨ ∃ i o l f, v = .sl i 1 o l f := by
  rcases h with ⟨_, h⟩ | ⟨_, i, h, _⟩ | ⟨_, i, h, _⟩
  · exact .inl h
  · exact .inr ⟨i, 0, 0, true, h⟩
  · exact .inr ⟨i, 0, _, false, h⟩
theorem DV.cells {f : PF} (h : DV f) (st : St) : sliceCells st f.dv = some (f.bytes.length, f.bytes.map u8) := by
  rcases h with ⟨h1, h2⟩ | ⟨fl, h2⟩
  · rw [h2, h1]; rfl
  · rw [h2]; rfl
/-- append behind one's own bytes -/
theorem app_own {st : St} {v x : AV} {bs c : List Int} (hv : OwnB st v bs) (hw : st.wf) (hl : st.lock = []) (hx : sliceCells st x = some (c.length, c.map u8)) (hb : bs.length + c.length ≤ big) :
    ∃ v' st', appendA E0 st 28 28 v x = some (v', st') ∧ OwnB st' v' (bs ++ c) ∧ (∀ i, (∀ o l f, v ≠ .sl i 1 o l f) → ∀ p, st.get i = some p → st'.get i = some p) ∧ st.next ≤ st'.next ∧ st'.lock = [] ∧ st'.gl = st.gl ∧ st'.wf ∧ (v' = v ∧ st' = st ∨ ∃ l f, v' = .sl st.next 1 0 l f) := by
  by_cases h0 : c.length = 0
  · have hc : c = [] := List.eq_nil_of_length_eq_zero h0
    subst hc
    exact ⟨v, st, app_zero hv.kind hx rfl, by simpa using hv, fun i _ p h => h, Nat.le_refl _, hl, rfl, hw, .inl ⟨rfl, rfl⟩⟩
  have hne : bs ++ c ≠ [] := fun e => h0 (by rw [(List.append_eq_nil_iff.1 e).2]; rfl)
  rcases hv with ⟨rfl, rfl⟩ | ⟨rfl, i, rfl, hg⟩ | ⟨hbs, i, rfl, hg⟩
  · refine ⟨_, _, app_nil hx (by simp) h0 (by simpa using hb), .inr (.inr ⟨hne, st.next, by simp, by rw [St.get_push, if_pos rfl]; simp⟩), fun i _ p h => ?_, by simp, by simpa using hl, rfl, push_wf hw _, .inr ⟨_, _, rfl⟩⟩
    have := hw _ _ h
    rw [St.get_push, if_neg (by omega)]; exact h
  · refine ⟨_, _, app_full hg (by simp) hx (by simp) h0 (by simpa using hb), .inr (.inr ⟨hne, st.next, by simp, by rw [St.get_push, if_pos rfl]; simp⟩), fun j _ p h => ?_, by simp, by simpa using hl, rfl, push_wf hw _, .inr ⟨_, _, rfl⟩⟩
    have := hw _ _ h
    rw [St.get_push, if_neg (by omega)]; exact h
  · have hdw : (st.del i).wf := fun j p h => by
      rw [St.get_del] at h
      split at h
      · cases h
      · exact hw _ _ h
    refine ⟨_, _, app_row hg hl (by simp) hx (by simp) h0 hb, .inr (.inr ⟨hne, st.next, by simp, by rw [St.get_push, if_pos (by simp)]; simp⟩), fun j hj p h => ?_, by simp, by simpa using hl, rfl, push_wf hdw _, .inr ⟨_, _, rfl⟩⟩
    have := hw _ _ h
    rw [St.get_push, if_neg (by simp; omega), St.get_del, if_neg (fun e => hj _ _ _ (by rw [e]))]; exact h
theorem clone_ok {st : St} (hw : st.wf) (hl : st.lock = []) {f : PF} (hf : DV f) (hb : f.bytes.length ≤ big) : ∃ v st', obC 65 [f.dv] st v st' ∧ OwnB st' v f.bytes ∧ Rest st st' [] ∧ (v = .nils ∨ ∃ i o l g, v = .sl i 1 o l g ∧ st.next ≤ i) := by
  rcases hf with ⟨h1, h2⟩ | ⟨fl, h2⟩
  · rw [h2]
    exact ⟨.nils, st, bp_run (clN st) Ob.ok_nil, .inl ⟨h1, rfl⟩, Rest.refl hw _, .inl rfl⟩
  · have hx : sliceCells (st.push (.row [] 5)) (.imm 1 f.bytes.length fl (f.bytes.map u8)) = some (f.bytes.length, f.bytes.map u8) := rfl
    have hl' : (st.push (.row [] 5)).lock = [] := by simpa using hl
    obtain ⟨v, st', a1, a2, a3, a4, a5, a6, a7, a8⟩ := app_own (v := .sl st.next 1 0 0 true) (bs := []) (.inr (.inl ⟨rfl, st.next, rfl, by rw [St.get_push, if_pos rfl]⟩)) (push_wf hw (.row [] 5)) hl' hx (by simpa using hb)
    rw [h2]
    refine ⟨v, st', bp_run (clI v st st' fl f.bytes.length (f.bytes.map u8)) (by simp only [Ob.ok_cons, Ob.ok_nil, and_true]; exact a1), by simpa using a2, ⟨fun i o _ ho => ?_, by simp at a4; omega, a5.trans hl.symm, a6, a7⟩, ?_⟩
    · have := hw _ _ ho
      refine a3 i (fun o l g e => by cases e; omega) o ?_
      rw [St.get_push, if_neg (by omega)]; exact ho
    · rcases a8 with ⟨rfl, _⟩ | ⟨l, g, rfl⟩
      · exact .inr ⟨_, _, _, _, rfl, Nat.le_refl _⟩
      · exact .inr ⟨_, _, _, _, rfl, by simp⟩
end
section
set_option maxRecDepth 4000
/-- what is given as bytes -/
def ArgB (st : St) (x : AV) (c : List Int) : Prop := (c = [] ∧ x = .nils) ∨ (∃ fl, x = .imm 1 c.length fl (c.map u8)) ∨ ∃ i fl, x = .sl i 1 0 c.length fl ∧ st.get i = some (.row (c.map u8) 5)
theorem ArgB.cells {st : St} {x : AV} {c : List Int} (h : ArgB st x c) : sliceCells st x = some (c.length, c.map u8) := by
  rcases h with ⟨rfl, rfl⟩ | ⟨fl, rfl⟩ | ⟨i, fl, rfl, hg⟩
  · rfl
  · rfl
  · simp only [sliceCells, hg, Nat.mul_one]
    rw [if_pos (by simp), List.drop_zero, List.take_of_length_le (by simp)]
theorem ArgB.keep {st st' : St} {x : AV} {c : List Int} (h : ArgB st x c) (hk : ∀ i, st.get i = some (.row (c.map u8) 5) → st'.get i = some (.row (c.map u8) 5)) : ArgB st' x c := by
  rcases h with h | h | ⟨i, fl, h, hg⟩
  · exact .inl h
  · exact .inr (.inl h)
  · exact .inr (.inr ⟨i, fl, h, hk i hg⟩)
/-- rows of bytes stay, whatever the disk does -/
theorem Rest.bytes {st st' : St} {d m : Nat} {L : List PF} {q fu : Int} {off : Bool} (hr : Rest st st' [d, m]) (hp : PD st d L q fu off m) {i : Nat} {vs : List AV} (hg : st.get i = some (.row vs 5)) : st'.get i = some (.row vs 5) := by
  refine hr.keep i _ (fun hi => ?_) hg
  simp only [List.mem_cons, List.not_mem_nil, or_false] at hi
  obtain ⟨bs, c, hm⟩ := hp.map
  rcases hi with rfl | rfl
  · rw [hp.row] at hg
    simp only [Option.some.injEq, AObj.row.injEq] at hg
    exact absurd hg.2 (by decide)
  · rw [hm] at hg; cases hg
/-- maps are well made -/
theorem ACalls.mwf {P : Program} {f : Nat} {args : List AV} {Q : AV → St → Prop} {st : St} (h : (∀ m es bs c, st.get m = some (.map es bs c) → es.length = bs.length ∧ bs.Nodup ∧ ∀ b ∈ bs, b < c) → ACalls P f args Q st) : ACalls P f args Q st :=
  fun g w us hok hv => h (fun m es bs c hm => by
    obtain ⟨_, es', h1, h2, h3, h4, h5, h6⟩ := hok.obj m _ hm
    refine ⟨?_, h5, h6⟩
    have e1 := h2.1
    rw [← h4]
    simpa using e1.symm) g w us hok hv
def usedL (L : List PF) : Nat := (L.map fun f => f.bytes.length).sum
theorem lenFile_ent {f : PF} (h : DV f) : lenFile (ent f).2 = f.bytes.length ∧ okFile (ent f).2 = true := by
  rcases h with ⟨h1, h2⟩ | ⟨fl, h2⟩
  · simp [ent, h2, h1, lenFile, okFile, lenV, isSlice]
  · simp [ent, h2, lenFile, okFile, lenV, isSlice]
theorem used_ok {st : St} {d m : Nat} {L : List PF} {q fu : Int} {off : Bool} (hrow : st.get d = some (.row [.mp m, i64 q, i64 fu, bo off] 103)) {bs : List Nat} {c : Nat} (hm : st.get m = some (.map (L.map ent) bs c)) (hd : ∀ f ∈ L, DV f) (hlk : ∀ i ∈ st.lock, i < st.next) (hu : usedL L < 1000000000) :
    obC 26 [.ptr d 0] st (i64 (usedL L)) { st with next := st.next + 1 + bs.length } := by
  refine ACalls.mwf fun hmw => ?_
  obtain ⟨h1, h2, h3⟩ := hmw m _ bs c hm
  simp only [List.length_map] at h1
  have hi : ∀ i, i < bs.length → ((L.map ent).getD i default).2 = (ent (L.getD i ⟨⟨#[]⟩, .nils, [], 0⟩)).2 ∧ ∃ f, L[i]? = some f ∧ L.getD i ⟨⟨#[]⟩, .nils, [], 0⟩ = f := fun i hi => by
    have : i < L.length := by omega
    refine ⟨?_, L[i], List.getElem?_eq_getElem this, ?_⟩
    · rw [List.getD_eq_getElem?_getD, List.getD_eq_getElem?_getD, List.getElem?_map, List.getElem?_eq_getElem this]; rfl
    · rw [List.getD_eq_getElem?_getD, List.getElem?_eq_getElem this]; rfl
  have hsum : ((List.range bs.length).map fun i => lenFile ((L.map ent).getD i default).2).sum = usedL L := by
    unfold usedL
    congr 1
    rw [← h1]
    apply List.ext_getElem?
    intro i
    by_cases hlt : i < L.length
    · obtain ⟨e1, f, e2, e3⟩ := hi i (by omega)
      rw [List.getElem?_map, List.getElem?_range hlt, List.getElem?_map, e2]
      simp only [Option.map_some]
      rw [e1, e3, (lenFile_ent (hd f (List.mem_of_getElem? e2))).1]
    · rw [List.getElem?_eq_none (by simp; omega), List.getElem?_eq_none (by simp; omega)]
  refine (used d m st 103 _ (L.map ent) bs c hrow hm (fun i => lenFile ((L.map ent).getD i default).2) (usedL L) (fun _ => rfl) hsum h2 (by simpa using h3) (by simpa using h1) (fun i hlt => ?_) hlk hu).mono fun a s e => ?_
  · obtain ⟨e1, f, e2, e3⟩ := hi i hlt
    rw [e1, e3]; exact (lenFile_ent (hd f (List.mem_of_getElem? e2))).2
  · cases e; exact ⟨rfl, rfl⟩
end
section
set_option maxRecDepth 4000
theorem le_sum : ∀ {l : List Nat} {x : Nat}, x ∈ l → x ≤ l.sum
  | a :: r, x, h => by
    rw [List.sum_cons]
    rcases List.mem_cons.1 h with rfl | h
    · omega
    · have := le_sum h; omega
theorem small_of {s : PS} {f : PF} (h : usedL s.L ≤ big) (hf : f ∈ s.L) : f.bytes.length ≤ big := by
  refine Nat.le_trans ?_ h
  unfold usedL
  exact le_sum (List.mem_map.2 ⟨f, hf, rfl⟩)
theorem way0 {st : St} {d m : Nat} {s : PS} (hp : PDs st d m s) (hw : st.wf) (hl : st.lock = []) {n : ByteArray} (hr : ¬ rdE s.L s.off true n ≠ 0) :
    ∃ s1, obR d TT n st 0 s1 ∧ Rest st s1 [] ∧ PDs s1 d m s ∧ s1.lock = [] ∧ obL s1 101 (.ptr d 0) (.mp m) := by
  obtain ⟨s1, r1, k1⟩ := rd_ok hp hw hl n true
  have hr0 : rdE s.L s.off true n = 0 := by simpa using hr
  rw [hr0] at r1
  have p1 : PDs s1 d m s := PD.rest hp k1
  exact ⟨s1, r1, k1, p1, k1.lock.trans hl, ⟨load_row p1.row (p101 rfl), rfl⟩⟩
theorem read_ok {st : St} {d m : Nat} {s : PS} (hp : PDs st d m s) (hw : st.wf) (hl : st.lock = []) (hg : Good s) (hu : usedL s.L ≤ big) (n : ByteArray) :
    ∃ v st', obC 25 [.ptr d 0, str n] st (.tup [v, i64 (rdE s.L s.off true n)]) st' ∧ Rest st st' [] ∧
      ((rdE s.L s.off true n ≠ 0 ∧ v = .nils) ∨ rdE s.L s.off true n = 0 ∧ ∃ k f, find n s.L = some k ∧ s.L[k]? = some f ∧ OwnB st' v f.bytes ∧ (v = .nils ∨ ∃ i o l g, v = .sl i 1 o l g ∧ st.next ≤ i)) := by
  by_cases hr : rdE s.L s.off true n ≠ 0
  · obtain ⟨s1, r1, k1⟩ := rd_ok hp hw hl n true
    refine ⟨.nils, s1, pg_run (rdNot d n _ st s1) ?_, k1, .inl ⟨hr, rfl⟩⟩
    simp only [Ob.ok_cons, Ob.ok_nil, and_true]
    exact ⟨r1, neE_T hr⟩
  obtain ⟨s1, r1, k1, p1, l1, o1⟩ := way0 hp hw hl hr
  have hr0 : rdE s.L s.off true n = 0 := by simpa using hr
  rw [hr0]
  obtain ⟨k, f, hfi, hk, hn⟩ := rd0_find hr
  obtain ⟨bs, c, hm⟩ := p1.map
  have olk : obK s1 m n false (.agg [f.dv, i64 f.last]) := ⟨lookup_hit hm hfi hk false, rfl⟩
  obtain ⟨v, s2, c1, c2, c3, c4⟩ := clone_ok k1.wf l1 (hg.dv f (List.mem_of_getElem? hk)).1 (small_of hu (List.mem_of_getElem? hk))
  refine ⟨v, s2, pg_run (rdOk d m n st s1 s2 f.dv (i64 f.last) v) ?_, k1.trans c3, .inr ⟨rfl, k, f, hfi, hk, c2, ?_⟩⟩
  · simp only [Ob.ok_cons, Ob.ok_nil, and_true]
    exact ⟨r1, neE_F, o1, olk, c1⟩
  · rcases c4 with h | ⟨i, o, l, g, h, hi⟩
    · exact .inl h
    · exact .inr ⟨i, o, l, g, h, Nat.le_trans k1.next hi⟩
def pLoose (s : PS) (n : ByteArray) : Int :=
  if rdE s.L s.off true n ≠ 0 then 0 else match find n s.L with
  | some k => match s.L[k]? with
    | some f => (f.bytes.length : Int) - f.last
    | none => 0
  | none => 0
theorem loose_ok {st : St} {d m : Nat} {s : PS} (hp : PDs st d m s) (hw : st.wf) (hl : st.lock = []) (hg : Good s) (hu : usedL s.L ≤ big) (n : ByteArray) :
    ∃ st', obC 31 [.ptr d 0, str n] st (.tup [i64 (pLoose s n), i64 (rdE s.L s.off true n)]) st' ∧ Rest st st' [] := by
  unfold pLoose
  by_cases hr : rdE s.L s.off true n ≠ 0
  · rw [if_pos hr]
    obtain ⟨s1, r1, k1⟩ := rd_ok hp hw hl n true
    refine ⟨s1, pg_run (loNot d n _ st s1) ?_, k1⟩
    simp only [Ob.ok_cons, Ob.ok_nil, and_true]
    exact ⟨r1, neE_T hr⟩
  rw [if_neg hr]
  obtain ⟨s1, r1, k1, p1, l1, o1⟩ := way0 hp hw hl hr
  have hr0 : rdE s.L s.off true n = 0 := by simpa using hr
  rw [hr0]
  obtain ⟨k, f, hfi, hk, hn⟩ := rd0_find hr
  obtain ⟨bs, c, hm⟩ := p1.map
  have olk : obK s1 m n false (.agg [f.dv, i64 f.last]) := ⟨lookup_hit hm hfi hk false, rfl⟩
  obtain ⟨s2, a1, a2, a3, a4⟩ := local_ok k1.wf l1 f.dv (i64 f.last)
  have o2 : obL s2 28 (.ptr s1.next 0) f.dv := ⟨load_row a2 (p28 rfl), rfl⟩
  have o3 : obL s2 3 (.ptr s1.next 1) (i64 f.last) := ⟨load_row a2 (p3 rfl), rfl⟩
  have hlast := (hg.dv f (List.mem_of_getElem? hk)).2
  have hsm := small_of hu (List.mem_of_getElem? hk)
  unfold big at hsm
  rw [hfi]
  simp only [hk]
  refine ⟨s2, ?_, k1.trans a3⟩
  rcases (hg.dv f (List.mem_of_getElem? hk)).1 with ⟨h0, hdv⟩ | ⟨fl, hdv⟩
  · have e0 : (f.bytes.length : Int) = 0 := by rw [h0]; rfl
    rw [hdv] at o2
    refine pg_run (loOkN d m n f.last (.agg [f.dv, i64 f.last]) st s1 s2 ((f.bytes.length : Int) - f.last)) ?_
    simp only [Ob.ok_cons, Ob.ok_nil, and_true]
    exact ⟨r1, neE_F, o1, olk, a1, o2, o3, by rw [subN_eq _ _ (by omega), e0]⟩
  · rw [hdv] at o2
    refine pg_run (loOk d m n f.last (.agg [f.dv, i64 f.last]) st s1 s2 f.bytes.length fl (f.bytes.map u8) ((f.bytes.length : Int) - f.last)) ?_
    simp only [Ob.ok_cons, Ob.ok_nil, and_true]
    exact ⟨r1, neE_F, o1, olk, a1, o2, o3, by rw [subN_eq _ _ (by omega)]⟩
theorem gtP_T {a b : Int} (h : b < a) : gtP a b TT := by
  have : gtP a b TT = (some (bo (gtN a b)) = some TT) := rfl
  rw [this]; exact congrArg some (gt_T h)
theorem gtP_F {a b : Int} (h : a ≤ b) : gtP a b FF := by
  have : gtP a b FF = (some (bo (gtN a b)) = some FF) := rfl
  rw [this]; exact congrArg some (gt_F h)
theorem subP_ok {a b : Int} (h : -9223372036854775808 ≤ a - b ∧ a - b ≤ 9223372036854775807) : subP a b (a - b) := by
  have : subP a b (a - b) = (some (i64 (subN a b)) = some (i64 (a - b))) := rfl
  rw [this, subN_eq _ _ h]
end
section
set_option maxRecDepth 4000
section
variable {d m : Nat} {n : ByteArray} {st s1 s2 s3 s4 s5 s6 s7 s8 : St} {x : AV} {c : List Int}
theorem ap_not {e : Int} (hx : ArgB st x c) (h1 : obR d TT n st e s1) (he : e ≠ 0) : obC 19 [.ptr d 0, str n, x] st (i64 e) s1 := by
  have ob : Ob.ok [obR d TT n st e s1, bo (neE e 0) = TT] := by simp only [Ob.ok_cons, Ob.ok_nil, and_true]; exact ⟨h1, neE_T he⟩
  rcases hx with ⟨rfl, rfl⟩ | ⟨fl, rfl⟩ | ⟨i, fl, rfl, hg⟩
  · exact ap_run (apNotN d n e st s1) ob
  · exact ap_run (apNotI d n e st s1 _ fl _) ob
  · exact ap_run (apNotS d n e st s1 i _ fl) ob
theorem ap_full {q u y : Int} (hx : ArgB st x c) (hc : 0 < c.length) (h1 : obR d TT n st 0 s1) (h2 : (obRoom d c.length q u y s1 s2 TT).ok) : obC 19 [.ptr d 0, str n, x] st (i64 7) (s2.show s1 [d]) := by
  have ob : Ob.ok ([obR d TT n st 0 s1, bo (neE 0 0) = FF] ++ obRoom d c.length q u y s1 s2 TT) := by rw [Ob.ok_append]; simp only [Ob.ok_cons, Ob.ok_nil, and_true]; exact ⟨⟨h1, neE_F⟩, h2⟩
  rcases hx with ⟨rfl, rfl⟩ | ⟨fl, rfl⟩ | ⟨i, fl, rfl, hg⟩
  · simp at hc
  · exact ap_run (apFullI d n q u y st s1 s2 _ fl _) ob
  · exact ap_run (apFullS d n q u y st s1 s2 i _ fl) ob
theorem ap_burn {q u y : Int} (hx : ArgB st x c) (hc : 0 < c.length) (h1 : obR d TT n st 0 s1) (h2 : (obRoom d c.length q u y s1 s2 FF).ok) (h3 : obC 64 [.ptr d 0] (s2.show s1 [d]) TT s3) : obC 19 [.ptr d 0, str n, x] st (i64 8) s3 := by
  have ob : Ob.ok ([obR d TT n st 0 s1, bo (neE 0 0) = FF] ++ obRoom d c.length q u y s1 s2 FF ++ [obC 64 [.ptr d 0] (s2.show s1 [d]) TT s3]) := by
    rw [Ob.ok_append, Ob.ok_append]; simp only [Ob.ok_cons, Ob.ok_nil, and_true]; exact ⟨⟨⟨h1, neE_F⟩, h2⟩, h3⟩
  rcases hx with ⟨rfl, rfl⟩ | ⟨fl, rfl⟩ | ⟨i, fl, rfl, hg⟩
  · simp at hc
  · exact ap_run (apBurnI d n q u y st s1 s2 s3 _ fl _) ob
  · exact ap_run (apBurnS d n q u y st s1 s2 s3 i _ fl) ob
theorem ap_burn0 (hx : ArgB st x c) (hc : c.length = 0) (h1 : obR d TT n st 0 s1) (h3 : obC 64 [.ptr d 0] s1 TT s3) : obC 19 [.ptr d 0, str n, x] st (i64 8) s3 := by
  have e0 : (c.length : Int) = 0 := by rw [hc]; rfl
  have ob : Ob.ok ([obR d TT n st 0 s1, bo (neE 0 0) = FF] ++ obNoB d c.length s1 ++ [obC 64 [.ptr d 0] s1 TT s3]) := by
    rw [Ob.ok_append, Ob.ok_append]; unfold obNoB; simp only [Ob.ok_cons, Ob.ok_nil, and_true]; exact ⟨⟨⟨h1, neE_F⟩, (fun i hi => (by cases hi)), gtP_F (by omega)⟩, h3⟩
  rcases hx with ⟨rfl, rfl⟩ | ⟨fl, rfl⟩ | ⟨i, fl, rfl, hg⟩
  · exact ap_run (apBurn0N d n st s1 s3) ob
  · exact ap_run (apBurn0I d n st s1 s3 _ fl _) ob
  · exact ap_run (apBurn0S d n st s1 s3 i _ fl) ob
/-- the last lines of Append -/
def obApp (d m : Nat) (n : ByteArray) (x v dv cl nd l : AV) (sb s3 s4 s5 s6 s7 s8 : St) : Ob := [obC 64 [.ptr d 0] sb FF s3, obL s3 101 (.ptr d 0) (.mp m), obK s3 m n false v, storeA E0 (zSt s3) 105 (.ptr s3.next 0) v = some s4, obL s4 28 (.ptr s3.next 0) dv, obC 65 [dv] s4 cl s5, appendA E0 s5 28 28 cl x = some (nd, s6), storeA E0 s6 28 (.ptr s3.next 0) nd = some s7] ++ obU d s3.next m s7 n l s8
theorem ap_ok {q u y : Int} {v dv cl nd l : AV} (hx : ArgB st x c) (hc : 0 < c.length) (h1 : obR d TT n st 0 s1) (h2 : (obRoom d c.length q u y s1 s2 FF).ok) (h3 : (obApp d m n x v dv cl nd l (s2.show s1 [d]) s3 s4 s5 s6 s7 s8).ok) : obC 19 [.ptr d 0, str n, x] st (i64 0) s8 := by
  have ob : Ob.ok ([obR d TT n st 0 s1, bo (neE 0 0) = FF] ++ obRoom d c.length q u y s1 s2 FF ++ obApp d m n x v dv cl nd l (s2.show s1 [d]) s3 s4 s5 s6 s7 s8) := by
    rw [Ob.ok_append, Ob.ok_append]; simp only [Ob.ok_cons, Ob.ok_nil, and_true]; exact ⟨⟨⟨h1, neE_F⟩, h2⟩, h3⟩
  rcases hx with ⟨rfl, rfl⟩ | ⟨fl, rfl⟩ | ⟨i, fl, rfl, hg⟩
  · simp at hc
  · exact ap_run (apOkI d m n q u y v dv cl nd l st s1 s2 s3 s4 s5 s6 s7 s8 _ fl _) ob
  · exact ap_run (apOkS d m n q u y v dv cl nd l st s1 s2 s3 s4 s5 s6 s7 s8 i _ fl) ob
theorem ap_ok0 {v dv cl nd l : AV} (hx : ArgB st x c) (hc : c.length = 0) (h1 : obR d TT n st 0 s1) (h3 : (obApp d m n x v dv cl nd l s1 s3 s4 s5 s6 s7 s8).ok) : obC 19 [.ptr d 0, str n, x] st (i64 0) s8 := by
  have ob : Ob.ok ([obR d TT n st 0 s1, bo (neE 0 0) = FF] ++ obNoB d c.length s1 ++ obApp d m n x v dv cl nd l s1 s3 s4 s5 s6 s7 s8) := by
    rw [Ob.ok_append, Ob.ok_append]; unfold obNoB; simp only [Ob.ok_cons, Ob.ok_nil, and_true]; exact ⟨⟨⟨h1, neE_F⟩, (fun i hi => (by cases hi)), gtP_F (by omega)⟩, h3⟩
  rcases hx with ⟨rfl, rfl⟩ | ⟨fl, rfl⟩ | ⟨i, fl, rfl, hg⟩
  · exact ap_run (apOk0N d m n v dv cl nd l st s1 s3 s4 s5 s6 s7 s8) ob
  · exact ap_run (apOk0I d m n v dv cl nd l st s1 s3 s4 s5 s6 s7 s8 _ fl _) ob
  · exact ap_run (apOk0S d m n v dv cl nd l st s1 s3 s4 s5 s6 s7 s8 i _ fl) ob
end
end
section
set_option maxRecDepth 4000
/-- all but S stays, of what has no new place in it -/
structure RestF (st st' : St) (S : List Nat) : Prop where
  keep : ∀ i o, i ∉ S → st.get i = some o → (∀ id vs, st.next ≤ id → frzO id vs o = o) → st'.get i = some o
  next : st.next ≤ st'.next
  lock : st'.lock = st.lock
  gl : st'.gl = st.gl
  wf : st'.wf
theorem Rest.f {st st' : St} {S : List Nat} (h : Rest st st' S) : RestF st st' S := ⟨fun i o hi ho _ => h.keep i o hi ho, h.next, h.lock, h.gl, h.wf⟩
theorem store28 {st : St} {a : Nat} {x y v : AV} {ty : Nat} (hg : st.get a = some (.row [x, y] ty)) (hl : st.lock = []) (hv : avCells v = some [v]) : storeA E0 st 28 (.ptr a 0) v = some (st.set a (.row [v, y] ty)) := by
  have hwg := St.wget_of hg (show a ∉ st.lock by rw [hl]; simp)
  have sz : tySize E0 28 = some 1 := by kernel_rfl
  simp [storeA, hv, sz, hwg]
theorem OwnB.cell {st : St} {v : AV} {bs : List Int} (h : OwnB st v bs) : avCells v = some [v] := by
  rcases h with ⟨_, rfl⟩ | ⟨_, i, rfl, _⟩ | ⟨_, i, rfl, _⟩ <;> rfl
def appE (s : PS) (n : ByteArray) (c : List Int) : Int :=
  if rdE s.L s.off true n ≠ 0 then rdE s.L s.off true n else
  if 0 < c.length ∧ s.q - usedL s.L < c.length then 7 else
  if burnB s.fu = true then 8 else 0
/-- what Append makes of a disk -/
def AppS (s : PS) (n : ByteArray) (c : List Int) (s' : PS) : Prop :=
  if rdE s.L s.off true n ≠ 0 then s' = s else
  if 0 < c.length ∧ s.q - usedL s.L < c.length then s' = s else
  if burnB s.fu = true then s' = burnt s else
  ∃ k f dv, find n s.L = some k ∧ s.L[k]? = some f ∧ f.name = n ∧ DV ⟨n, dv, f.bytes ++ c, f.last⟩ ∧ s' = { burnt s with L := s.L.set k ⟨n, dv, f.bytes ++ c, f.last⟩ }
theorem room_ok {s1 : St} {d m : Nat} {s : PS} (hp : PDs s1 d m s) (hw : s1.wf) (hl : s1.lock = []) (hg : Good s) (hu : usedL s.L < 1000000000) (hq : 0 ≤ s.q ∧ s.q ≤ 9223372036854775807) {k : Nat} (hk : 0 < k) :
    ∃ s2 y, (∀ {r : AV}, gtP k y r → (obRoom d k s.q (usedL s.L) y s1 s2 r).ok) ∧ Rest s1 (s2.show s1 [d]) [] ∧ y = s.q - usedL s.L := by
  obtain ⟨bs, c, hm⟩ := hp.map
  have hd := hw _ _ hp.row
  refine ⟨{ (s1.hide [d]) with next := s1.next + 1 + bs.length }, s.q - usedL s.L, fun {r} hr => ?_, ?_, rfl⟩
  · unfold obRoom
    simp only [Ob.ok_cons, Ob.ok_nil, and_true]
    refine ⟨fun i hi => ?_, gtP_T (by omega), ⟨by simp, load_row hp.row (p3 rfl)⟩, fun _ => by simp [hp.row], ?_, subP_ok (by omega), hr⟩
    · obtain rfl := List.mem_singleton.1 hi; exact hd
    · refine used_ok (st := s1.hide [d]) (L := s.L) (q := s.q) (fu := s.fu) (off := s.off) (m := m) hp.row hm (fun f hf => (hg.dv f hf).1) (fun i hi => ?_) hu
      simp only [St.hide, hl, List.append_nil, List.mem_singleton] at hi
      subst hi; exact hd
  · refine ⟨fun i o _ ho => ?_, ?_, rfl, ?_, fun i o ho => ?_⟩
    · rw [St.show_get]
      split
      · exact ho
      · exact ho
    · show s1.next ≤ (St.show1 _ _ _).next
      rw [St.show1_next]
      show s1.next ≤ s1.next + 1 + bs.length
      omega
    · show (St.show1 _ _ _).gl = _
      rw [St.show1_gl]; rfl
    · show i < (St.show1 _ _ _).next
      rw [St.show1_next]
      rw [St.show_get] at ho
      have hi : i < s1.next := by
        split at ho
        · exact hw _ _ ho
        · exact hw _ _ ho
      show i < s1.next + 1 + bs.length
      omega
end
section
set_option maxRecDepth 4000
theorem frz_u8 (id : Nat) (vs : List AV) (d : List Int) : frzL id vs (d.map u8) = d.map u8 := by
  rw [frzL_eq, List.map_map]
  congr 1
theorem frz_dv {id : Nat} {vs : List AV} {f : PF} (h : DV f) : frz id vs f.dv = f.dv := by
  rcases h with ⟨_, h⟩ | ⟨fl, h⟩
  · rw [h]; rfl
  · rw [h]; simp only [frz, frz_u8]
theorem frz_ent {id : Nat} {vs : List AV} {f : PF} (h : DV f) : ((frz id vs (ent f).1, frz id vs (ent f).2) : AV × AV) = ent f := by
  simp only [ent, frz, frzL, frz_dv h]
theorem frz_wf {id : Nat} {vs : List AV} {st : St} (hw : st.wf) : (frzSt id vs st).wf := fun i o ho => by
  rw [(frzSt_ok hw).get] at ho
  show i < st.next
  split at ho
  · cases ho
  · obtain ⟨p, hp, _⟩ := Option.map_eq_some_iff.1 ho
    exact hw _ _ hp
/-- the last lines of Append -/
theorem app_tail {st3 sb : St} {d m : Nat} {q0 fu0 : Int} {off0 : Bool} {L : List PF} (p3 : PD st3 d L q0 fu0 off0 m) (hw : st3.wf) (hl : st3.lock = []) (hg : ∀ f ∈ L, DV f) {n : ByteArray} {x : AV} {c : List Int} (hx : ArgB st3 x c) (hburn : obC 64 [.ptr d 0] sb FF st3)
    {k : Nat} {f : PF} (hfi : find n L = some k) (hk : L[k]? = some f) (hb : f.bytes.length + c.length ≤ big) :
    ∃ (cl nd : AV) (s4 s5 s6 s7 s8 : St), (obApp d m n x (.agg [f.dv, i64 f.last]) f.dv cl nd (.agg [nd, i64 f.last]) sb st3 s4 s5 s6 s7 s8).ok ∧ PD s8 d (L.set k ⟨n, nd, f.bytes ++ c, f.last⟩) q0 fu0 off0 m ∧ Rest st3 s8 [d, m] ∧ OwnB s8 nd (f.bytes ++ c) ∧ (nd = .nils ∨ ∃ i o l g, nd = .sl i 1 o l g ∧ st3.next ≤ i) := by
  have hdv := hg f (List.mem_of_getElem? hk)
  obtain ⟨bs, cc, hm⟩ := p3.map
  have o1 : obL st3 101 (.ptr d 0) (.mp m) := ⟨load_row p3.row (p101 rfl), rfl⟩
  have olk : obK st3 m n false (.agg [f.dv, i64 f.last]) := ⟨lookup_hit hm hfi hk false, rfl⟩
  obtain ⟨s4, a1, a2, a3, a4⟩ := local_ok hw hl f.dv (i64 f.last)
  have l4 : s4.lock = [] := a3.lock.trans hl
  have o4 : obL s4 28 (.ptr st3.next 0) f.dv := ⟨load_row a2 (p28 rfl), rfl⟩
  obtain ⟨cl, s5, c1, c2, c3, c4⟩ := clone_ok a3.wf l4 hdv (by omega)
  have l5 : s5.lock = [] := c3.lock.trans l4
  have x5 : ArgB s5 x c := hx.keep fun i h => c3.keep _ _ (by simp) (a3.keep _ _ (by simp) h)
  obtain ⟨nd, s6, e1, e2, e3, e4, e5, e6, e7, e8⟩ := app_own c2 c3.wf l5 x5.cells hb
  have clid : ∀ i o l, (∃ g, cl = .sl i 1 o l g) → s4.next ≤ i := fun i o l ⟨g, h⟩ => by
    rcases c4 with h' | ⟨i', o', l', g', h', hi'⟩
    · rw [h'] at h; cases h
    · rw [h'] at h; cases h; exact hi'
  have k46 : ∀ i p, s4.get i = some p → s6.get i = some p := fun i p h => by
    have hi := a3.wf _ _ h
    exact e3 i (fun o l g e => by have := clid i o l ⟨g, e⟩; omega) p (c3.keep _ _ (by simp) h)
  have r46 : Rest s4 s6 [] := ⟨fun i o _ h => k46 i o h, Nat.le_trans c3.next e4, e5.trans l4.symm, e6.trans c3.gl, e7⟩
  have g6 := k46 _ _ a2
  have l6 : s6.lock = [] := e5
  have hst := store28 g6 l6 e2.cell
  have w7 := set_wf e7 (e7 _ _ g6) (.row [nd, i64 f.last] 105)
  have n4 : st3.next < s4.next := by omega
  have r37 : Rest st3 (s6.set st3.next (.row [nd, i64 f.last] 105)) [] := ⟨fun i o _ h => by
    have := hw _ _ h
    rw [St.get_set, if_neg (by omega)]; exact k46 i o (a3.keep _ _ (by simp) h), Nat.le_trans a3.next r46.next, l6.trans hl.symm, e6.trans (c3.gl.trans a3.gl), w7⟩
  have p7 := p3.rest r37
  have ndid : nd = .nils ∨ ∃ i o l g, nd = .sl i 1 o l g ∧ s4.next ≤ i := by
    rcases e8 with ⟨h, _⟩ | ⟨l, g, h⟩
    · rw [h]; exact c4
    · exact .inr ⟨_, _, _, _, h, c3.next⟩
  have own7 : OwnB (s6.set st3.next (.row [nd, i64 f.last] 105)) nd (f.bytes ++ c) := by
    rcases e2 with h | ⟨h1, i, h2, h3⟩ | ⟨h1, i, h2, h3⟩
    · exact .inl h
    · refine .inr (.inl ⟨h1, i, h2, ?_⟩)
      rcases ndid with h | ⟨i', _, _, _, h, hi⟩
      · rw [h] at h2; cases h2
      · rw [h] at h2; cases h2
        rw [St.get_set, if_neg (by omega)]; exact h3
    · refine .inr (.inr ⟨h1, i, h2, ?_⟩)
      rcases ndid with h | ⟨i', _, _, _, h, hi⟩
      · rw [h] at h2; cases h2
      · rw [h] at h2; cases h2
        rw [St.get_set, if_neg (by omega)]; exact h3
  obtain ⟨s8, u1, u2, u3⟩ := upd_ok p7 w7 l6 ⟨n, nd, f.bytes ++ c, f.last⟩ (a := st3.next) (by rw [St.get_set, if_pos rfl])
  rw [putL_hit (show find n L = some k from hfi)] at u2
  refine ⟨cl, nd, s4, s5, s6, s6.set st3.next (.row [nd, i64 f.last] 105), s8, ?_, u2, (r37.weak (by simp)).trans u3, ?_, ?_⟩
  · unfold obApp
    rw [Ob.ok_append]
    refine ⟨?_, u1⟩
    simp only [Ob.ok_cons, Ob.ok_nil, and_true]
    exact ⟨hburn, o1, olk, a1, o4, c1, e1, hst⟩
  · rcases own7 with h | ⟨h1, i, h2, h3⟩ | ⟨h1, i, h2, h3⟩
    · exact .inl h
    · exact .inr (.inl ⟨h1, i, h2, u3.bytes p7 h3⟩)
    · exact .inr (.inr ⟨h1, i, h2, u3.bytes p7 h3⟩)
  · rcases ndid with h | ⟨i, o, l, g, h, hi⟩
    · exact .inl h
    · exact .inr ⟨i, o, l, g, h, by omega⟩
theorem frz_list {id : Nat} {vs : List AV} {L : List PF} (h : ∀ f ∈ L, DV f) : (L.map ent).map (fun p => (frz id vs p.1, frz id vs p.2)) = L.map ent := by
  rw [List.map_map]
  exact List.map_congr_left fun f hf => frz_ent (h f hf)
theorem freeze_disk {st s8 : St} {d m : Nat} {L : List PF} {q fu : Int} {off : Bool} {k : Nat} {n : ByteArray} {bs : List Int} {last j l : Nat} {g : Bool} {vs : List AV} {args : List AV} {f : Nat} {e : Int}
    (h : obC f args st (i64 e) s8) (hp : PD s8 d (L.set k ⟨n, .sl j 1 0 l g, bs, last⟩) q fu off m) (hr : Rest st s8 [d, m]) (hw : st.wf) (hl : st.lock = []) (hL : ∀ f ∈ L, DV f) (hj : s8.get j = some (.row vs 5)) (hvs : vs = bs.map u8) (hlb : l = bs.length) (hjn : st.next ≤ j) :
    ∃ st', obC f args st (i64 e) st' ∧ PD st' d (L.set k ⟨n, .imm 1 bs.length g (bs.map u8), bs, last⟩) q fu off m ∧ RestF st st' [d, m] := by
  subst hvs
  subst hlb
  have hF := frzSt_ok (id := j) (vs := bs.map u8) hr.wf
  obtain ⟨b1, c1, hm⟩ := hp.map
  have hd8 := hp.row
  have hjd : d ≠ j := fun e => by
    rw [← e, hd8] at hj
    simp only [Option.some.injEq, AObj.row.injEq] at hj
    exact absurd hj.2 (by decide)
  have hjm : m ≠ j := fun e => by rw [← e, hm] at hj; cases hj
  refine ⟨frzSt j (bs.map u8) s8, ?_, ⟨?_, b1, c1, ?_⟩, ⟨fun i o hi ho hs => ?_, hr.next, hr.lock, hr.gl, frz_wf hr.wf⟩⟩
  · refine ACalls.freeze h fun a s' ⟨e1, e2⟩ _ _ => ⟨j, bs.map u8, 5, by rw [e2]; exact hj, by rw [e2]; exact hr.lock.trans hl, by rw [e1]; rfl, by rw [e2]⟩
  · rw [hF.get, if_neg hjd, hd8]
    rfl
  · rw [hF.get, if_neg hjm, hm]
    simp only [Option.map_some, frzO]
    congr 2
    rw [List.map_set, List.map_set, frz_list hL, List.map_set]
    congr 1
    simp [ent, frz, frzL]
    rw [List.take_of_length_le (by simp)]
  · have := hr.keep i o hi ho
    have hii := hw _ _ ho
    rw [hF.get, if_neg (by omega), this, Option.map_some, hs j _ hjn]
/-- what is appended lies in the disk as a value -/
theorem settle {st s8 : St} {d m : Nat} {L : List PF} {q fu : Int} {off : Bool} {k : Nat} {n : ByteArray} {bs : List Int} {last : Nat} {nd : AV} {args : List AV} {f : Nat} {e : Int}
    (h : obC f args st (i64 e) s8) (hp : PD s8 d (L.set k ⟨n, nd, bs, last⟩) q fu off m) (hr : Rest st s8 [d, m]) (hw : st.wf) (hl : st.lock = []) (hL : ∀ f ∈ L, DV f) (ho : OwnB s8 nd bs) (hn : nd = .nils ∨ ∃ i o l g, nd = .sl i 1 o l g ∧ st.next ≤ i) :
    ∃ st' dv, obC f args st (i64 e) st' ∧ DV ⟨n, dv, bs, last⟩ ∧ PD st' d (L.set k ⟨n, dv, bs, last⟩) q fu off m ∧ RestF st st' [d, m] := by
  rcases ho with ⟨rfl, rfl⟩ | ⟨rfl, i, rfl, hg⟩ | ⟨hb, i, rfl, hg⟩
  · exact ⟨s8, .nils, h, .inl ⟨rfl, rfl⟩, hp, hr.f⟩
  · obtain ⟨st', a, b, c⟩ := freeze_disk h hp hr hw hl hL hg rfl rfl (by
      rcases hn with h | ⟨i', _, _, _, h, hi⟩
      · cases h
      · cases h; exact hi)
    exact ⟨st', _, a, .inr ⟨true, rfl⟩, b, c⟩
  · obtain ⟨st', a, b, c⟩ := freeze_disk h hp hr hw hl hL hg rfl rfl (by
      rcases hn with h | ⟨i', _, _, _, h, hi⟩
      · cases h
      · cases h; exact hi)
    exact ⟨st', _, a, .inr ⟨false, rfl⟩, b, c⟩
theorem append_ok {st : St} {d m : Nat} {s : PS} (hp : PDs st d m s) (hw : st.wf) (hl : st.lock = []) (hg : Good s) (hu : usedL s.L < 1000000000) (hq : 0 ≤ s.q ∧ s.q ≤ 9223372036854775807) (n : ByteArray) {x : AV} {c : List Int} (hx : ArgB st x c) (hc : c.length < 1000000000) :
    ∃ st' s', obC 19 [.ptr d 0, str n, x] st (i64 (appE s n c)) st' ∧ PDs st' d m s' ∧ RestF st st' [d, m] ∧ AppS s n c s' := by
  unfold appE AppS
  by_cases hr : rdE s.L s.off true n ≠ 0
  · rw [if_pos hr]
    obtain ⟨s1, r1, k1⟩ := rd_ok hp hw hl n true
    exact ⟨s1, s, ap_not hx r1 hr, PD.rest hp k1, (k1.weak (by simp)).f, by rw [if_pos hr]⟩
  rw [if_neg hr]
  obtain ⟨k, f, hfi, hk, hn⟩ := rd0_find hr
  obtain ⟨s1, r1, k1, p1, l1, o1⟩ := way0 hp hw hl hr
  have hoff := rd0_off hr
  have hsm : f.bytes.length ≤ usedL s.L := le_sum (List.mem_map.2 ⟨f, List.mem_of_getElem? hk, rfl⟩)
  -- from the store in which the fuse burns
  have main : ∀ {sb : St}, Rest s1 sb [] → (∀ {s3 : St}, obC 64 [.ptr d 0] sb TT s3 → obC 19 [.ptr d 0, str n, x] st (i64 8) s3) → (∀ {v dv cl nd l : AV} {s3 s4 s5 s6 s7 s8 : St}, (obApp d m n x v dv cl nd l sb s3 s4 s5 s6 s7 s8).ok → obC 19 [.ptr d 0, str n, x] st (i64 0) s8) →
      ∃ st' s', obC 19 [.ptr d 0, str n, x] st (i64 (if burnB s.fu = true then 8 else 0)) st' ∧ PDs st' d m s' ∧ RestF st st' [d, m] ∧ (if burnB s.fu = true then s' = burnt s else ∃ k f dv, find n s.L = some k ∧ s.L[k]? = some f ∧ f.name = n ∧ DV ⟨n, dv, f.bytes ++ c, f.last⟩ ∧ s' = { burnt s with L := s.L.set k ⟨n, dv, f.bytes ++ c, f.last⟩ }) := fun {sb} rb hbT hok => by
    have pb : PD sb d s.L s.q s.fu false m := by have := PD.rest p1 rb; rw [hoff] at this; exact this
    obtain ⟨s3, b1, b2, b3⟩ := burns_ok pb rb.wf (rb.lock.trans l1) hg.fu
    have R3 : Rest st s3 [d, m] := ((k1.trans rb).weak (by simp)).trans (b3.weak (by simp))
    by_cases hb : burnB s.fu = true
    · rw [if_pos hb]
      rw [hb] at b1
      exact ⟨s3, burnt s, hbT b1, b2, R3.f, by rw [if_pos hb]⟩
    · rw [if_neg hb]
      rw [Bool.not_eq_true] at hb
      rw [hb] at b1
      have x3 : ArgB s3 x c := hx.keep fun i h => R3.bytes hp h
      obtain ⟨cl, nd, s4, s5, s6, s7, s8, u1, u2, u3, u4, u5⟩ := app_tail b2 b3.wf (b3.lock.trans (rb.lock.trans l1)) (fun f hf => (hg.dv f hf).1) x3 b1 hfi hk (by unfold big; omega)
      obtain ⟨st', dv, v1, v2, v3, v4⟩ := settle (hok u1) u2 (R3.trans u3) hw hl (fun f hf => (hg.dv f hf).1) u4 (by
        rcases u5 with h | ⟨i, o, l, g, h, hi⟩
        · exact .inl h
        · exact .inr ⟨i, o, l, g, h, Nat.le_trans R3.next hi⟩)
      refine ⟨st', { burnt s with L := s.L.set k ⟨n, dv, f.bytes ++ c, f.last⟩ }, v1, v3, v4, ?_⟩
      rw [if_neg (by rw [hb]; simp)]
      exact ⟨k, f, dv, hfi, hk, hn, v2, rfl⟩
  simp only [if_neg hr]
  by_cases hc0 : 0 < c.length
  · obtain ⟨s2, y, h1, h2, rfl⟩ := room_ok p1 k1.wf l1 hg hu hq hc0
    by_cases hroom : s.q - usedL s.L < c.length
    · simp only [if_pos (show 0 < c.length ∧ s.q - (usedL s.L : Int) < (c.length : Int) from ⟨hc0, hroom⟩)]
      exact ⟨_, s, ap_full hx hc0 r1 (h1 (gtP_T hroom)), PD.rest p1 h2, ((k1.trans h2).weak (by simp)).f, rfl⟩
    · simp only [if_neg (show ¬ (0 < c.length ∧ s.q - (usedL s.L : Int) < (c.length : Int)) from fun h => hroom h.2)]
      exact main h2 (fun h => ap_burn hx hc0 r1 (h1 (gtP_F (by omega))) h) (fun h => ap_ok hx hc0 r1 (h1 (gtP_F (by omega))) h)
  · simp only [if_neg (show ¬ (0 < c.length ∧ s.q - (usedL s.L : Int) < (c.length : Int)) from fun h => hc0 h.1)]
    exact main (Rest.refl k1.wf []) (fun h => ap_burn0 hx (by omega) r1 h) (fun h => ap_ok0 hx (by omega) r1 h)
end
section
set_option maxRecDepth 4000
open Go.RowKit Go.Maps Go.Shelf
def Try.clone68_ren : Go.Shelf.Ren := ⟨fun | 5 => 68 | 7 => 89 | n => n, fun | 23 => 101 | 25 => 9 | 3 => 105 | 4 => 4 | 20 => 20 | n => n, fun | n => n⟩
theorem Try.clone68 : Go.Proofs.SlLaysW.n5 Try.prog Try.clone68_ren := {
  mixed := by kernel_rfl
  f5 := ⟨Try.f68.name, by decide, Try.func68.trans (congrArg some (by kernel_rfl))⟩
  f7 := Try.func89.trans (congrArg some (by kernel_rfl))
  t4 := Try.underlying4
  a4 := Try.isAgg4
  z4 := Try.sizeOf4
  v4 := Try.zeroValue4
  t20 := Try.underlying20
  a20 := Try.isAgg20
  z20 := Try.sizeOf20
  v20 := Try.zeroValue20
  t23 := Try.underlying101
  a23 := Try.isAgg101
  z23 := Try.sizeOf101
  v23 := Try.zeroValue101 }
/-- maps.Clone: a new map with the same entries -/
theorem mclone_ok {st : St} {m : Nat} {es : List (AV × AV)} {bs : List Nat} {c : Nat} (hm : st.get m = some (.map es bs c)) : obC 68 [.mp m] st (.mp st.next) (st.push (.map es bs c)) := by
  intro g w us hok hv
  obtain ⟨es', h1, h2, h3, h4, h5, h6⟩ := (hok.obj m _ hm).2
  match us, hv with
  | [u], hv =>
    cases hv.head with
    | mp _ hid =>
    refine (AnyW.maps_Clone Try.clone68 (g.blk m) es' c w h1).mono fun e w' ⟨he, hw⟩ => ?_
    subst hw
    have hle := g.le_add w.heap.size 0 0
    refine ⟨g.add w.heap.size 0 0, st.push (.map es bs c), .mp st.next, .map (some w.heap.size), he, step_new hok (.map es' c) 0 (.map es bs c) rfl rfl rfl rfl ⟨es', by rw [G.add_blk]; show (w.heap.push _)[w.heap.size]? = _; simp, h2.mono hle, h3.mono hle, h4, h5, h6⟩, ?_, rfl, rfl⟩
    rw [← hok.n]
    have := VR.mp (g := g.add w.heap.size 0 0) g.n (Nat.lt_succ_self _)
    simpa using this
  | [], hv => exact absurd hv.1 (by simp)
  | _ :: _ :: _, hv => exact absurd hv.1 (by simp)
end
section
set_option maxRecDepth 100000
def sitesK : Nat → List Nat
  | 35 => [2008, 5000, 2012, 6068]
  | 23 => [5]
  | 32 => [8, 5000]
  | 22 => [8, 5000]
  | _ => []
noncomputable def cpEv (f : Nat) (args : List AV) (st : St) (o : List Or) := (evCallS Try.prog E0 noOv sitesK 100000 f args st o).map fun q => (q.1, q.2.1, q.2.2.2)
def zD : AObj := .row [.nilm, i64 0, i64 0, FF] 103
section
variable (d m m2 : Nat) (v : AV) (q k : Int) (st s1 s2 s3 : St)
theorem cpRun : cpEv 35 [.ptr d 0] st [.eff v id, .eff .undef (fun _ => s1), .eff (.mp m) id, .eff (.mp m2) (fun _ => s2), .eff .undef (fun _ => s3)] = some (.ptr st.next 0, s3, [obL st 103 (.ptr d 0) v, storeA E0 (st.push zD) 103 (.ptr st.next 0) v = some s1, obL s1 101 (.ptr d 0) (.mp m), obC 68 [.mp m] s1 (.mp m2) s2, storeA E0 s2 101 (.ptr st.next 0) (.mp m2) = some s3]) := by kernel_rfl
theorem newBad : cpEv 23 [i64 q] st [TT] = some (.tup [.nilp, i64 1], st, [bo (ltN q 0) = TT]) := by kernel_rfl
theorem newOk : cpEv 23 [i64 q] st [FF] = some (.tup [.ptr (st.next + 1) 0, i64 0], (st.push (.map [] [] 0)).push (.row [.mp st.next, i64 q, i64 0, FF] 103), [bo (ltN q 0) = FF]) := by kernel_rfl
def maxN (a b : Int) : AV := match pureVal (Builtin.max_ #[] 0 #[.int .i64 a, .int .i64 b]) with | some x => x | none => .undef
theorem fuRun : cpEv 22 [.ptr d 0, i64 q] st [i64 k, .eff .undef (fun _ => s1)] = some (.tup [], s1, [maxN q 0 = i64 k, storeA E0 st 3 (.ptr d 2) (i64 k) = some s1]) := by kernel_rfl
theorem quRun : cpEv 32 [.ptr d 0, i64 q] st [i64 k, .eff .undef (fun _ => s1)] = some (.tup [], s1, [maxN q 0 = i64 k, storeA E0 st 3 (.ptr d 1) (i64 k) = some s1]) := by kernel_rfl
end
theorem maxN_eq (a : Int) : maxN a 0 = i64 (if a < 0 then 0 else a) := rfl
theorem cp_run {f : Nat} {args : List AV} {a : AV} {st st' : St} {o : List Or} {ob : Ob} (h : cpEv f args st o = some (a, st', ob)) (hob : ob.ok) : obC f args st a st' := by
  obtain ⟨⟨a1, s1, x1, o1⟩, h1, h2⟩ := Option.map_eq_some_iff.1 h
  simp only [Prod.mk.injEq] at h2
  obtain ⟨rfl, rfl, rfl⟩ := h2
  exact ACalls.run hE (ov := noOv) noOv_ok h1 hob
theorem new_ok {st : St} (hw : st.wf) (q : Int) : (q < 0 → obC 23 [i64 q] st (.tup [.nilp, i64 1]) st) ∧ (0 ≤ q → ∃ st', obC 23 [i64 q] st (.tup [.ptr (st.next + 1) 0, i64 0]) st' ∧ PDs st' (st.next + 1) st.next ⟨[], q, 0, false⟩ ∧ Rest st st' []) := by
  refine ⟨fun h => cp_run (newBad q st) (by simp only [Ob.ok_cons, Ob.ok_nil, and_true]; exact lt_T h), fun h => ⟨_, cp_run (newOk q st) (by simp only [Ob.ok_cons, Ob.ok_nil, and_true]; exact lt_F h), ⟨by rw [St.get_push, if_pos (by simp)]; rfl, [], 0, ?_⟩, (Rest.push hw _ _).trans (Rest.push (push_wf hw _) _ _)⟩⟩
  rw [St.get_push, if_neg (by simp), St.get_push, if_pos rfl]
  rfl
def nn (a : Int) : Int := if a < 0 then 0 else a
theorem storeQ {st : St} {d : Nat} {a b c e : AV} {ty : Nat} (hg : st.get d = some (.row [a, b, c, e] ty)) (hl : st.lock = []) (x : Int) : storeA E0 st 3 (.ptr d 1) (i64 x) = some (st.set d (.row [a, i64 x, c, e] ty)) := by
  have hwg := St.wget_of hg (show d ∉ st.lock by rw [hl]; simp)
  simp [storeA, avCells, oneA, size3, hwg]
theorem fuse_ok {st : St} {d m : Nat} {s : PS} (hp : PDs st d m s) (hw : st.wf) (hl : st.lock = []) (k : Int) : ∃ st', obC 22 [.ptr d 0, i64 k] st (.tup []) st' ∧ PDs st' d m { s with fu := nn k } ∧ Rest st st' [d, m] := by
  obtain ⟨bs, c, hm⟩ := hp.map
  have hs := storeN hp.row hl (nn k)
  refine ⟨_, cp_run (fuRun d k (nn k) st (st.set d (.row [.mp m, i64 s.q, i64 (nn k), bo s.off] 103))) (by simp only [Ob.ok_cons, Ob.ok_nil, and_true]; exact ⟨maxN_eq k, hs⟩), ⟨by rw [St.get_set, if_pos rfl], bs, c, ?_⟩, Rest.set hw (hw _ _ hp.row) _ (by simp)⟩
  rw [St.get_set, if_neg (PD.ne hp).symm]; exact hm
theorem quota_ok {st : St} {d m : Nat} {s : PS} (hp : PDs st d m s) (hw : st.wf) (hl : st.lock = []) (k : Int) : ∃ st', obC 32 [.ptr d 0, i64 k] st (.tup []) st' ∧ PDs st' d m { s with q := nn k } ∧ Rest st st' [d, m] := by
  obtain ⟨bs, c, hm⟩ := hp.map
  have hs := storeQ hp.row hl (nn k)
  refine ⟨_, cp_run (quRun d k (nn k) st (st.set d (.row [.mp m, i64 (nn k), i64 s.fu, bo s.off] 103))) (by simp only [Ob.ok_cons, Ob.ok_nil, and_true]; exact ⟨maxN_eq k, hs⟩), ⟨by rw [St.get_set, if_pos rfl], bs, c, ?_⟩, Rest.set hw (hw _ _ hp.row) _ (by simp)⟩
  rw [St.get_set, if_neg (PD.ne hp).symm]; exact hm
theorem off_ok {st : St} {d m : Nat} {s : PS} (hp : PDs st d m s) : obC 29 [.ptr d 0] st (bo s.off) st :=
  bp_run (offEv d st s.off) (by simp only [Ob.ok_cons, Ob.ok_nil, and_true]; exact ⟨load_row hp.row (p4 rfl), rfl⟩)
theorem size103 : tySize E0 103 = some 4 := by kernel_rfl
theorem size101 : tySize E0 101 = some 1 := by kernel_rfl
theorem p103 {a b c e : AV} : partA E0 103 [a, b, c, e] 0 = some (.agg [a, b, c, e]) := by
  simp only [partA, ty103]
  rfl
/-- a copy: another disk with the same files -/
theorem copy_ok {st : St} {d m : Nat} {s : PS} (hp : PDs st d m s) (hw : st.wf) (hl : st.lock = []) : ∃ st' m2, obC 35 [.ptr d 0] st (.ptr st.next 0) st' ∧ PDs st' st.next m2 s ∧ Rest st st' [] ∧ st.next ≤ m2 := by
  obtain ⟨bs, c, hm⟩ := hp.map
  have hd := hw _ _ hp.row
  have o1 : obL st 103 (.ptr d 0) (.agg [.mp m, i64 s.q, i64 s.fu, bo s.off]) := ⟨load_row hp.row p103, rfl⟩
  have g0 : (st.push zD).get st.next = some zD := by rw [St.get_push, if_pos rfl]
  have l0 : (st.push zD).lock = [] := by simpa using hl
  have hwg := St.wget_of g0 (by rw [l0]; simp)
  have hs1 : storeA E0 (st.push zD) 103 (.ptr st.next 0) (.agg [.mp m, i64 s.q, i64 s.fu, bo s.off]) = some ((st.push zD).set st.next (.row [.mp m, i64 s.q, i64 s.fu, bo s.off] 103)) := by
    simp only [storeA, avCells, hwg, size103]
    simp [zD]
  have w1 : ((st.push zD).set st.next (.row [.mp m, i64 s.q, i64 s.fu, bo s.off] 103)).wf := set_wf (push_wf hw _) (by simp) _
  have r1 : Rest st ((st.push zD).set st.next (.row [.mp m, i64 s.q, i64 s.fu, bo s.off] 103)) [] := ⟨fun i o _ h => by
    have := hw _ _ h
    rw [St.get_set, if_neg (by omega), St.get_push, if_neg (by omega)]; exact h, by simp, rfl, rfl, w1⟩
  have n1 : ((st.push zD).set st.next (.row [.mp m, i64 s.q, i64 s.fu, bo s.off] 103)).next = st.next + 1 := rfl
  have gn : ((st.push zD).set st.next (.row [.mp m, i64 s.q, i64 s.fu, bo s.off] 103)).get st.next = some (.row [.mp m, i64 s.q, i64 s.fu, bo s.off] 103) := by rw [St.get_set, if_pos rfl]
  generalize (st.push zD).set st.next (.row [.mp m, i64 s.q, i64 s.fu, bo s.off] 103) = s1 at *
  have p1 := PD.rest hp r1
  have hc := mclone_ok (r1.keep _ _ (by simp) hm)
  have gn2 : (s1.push (.map (s.L.map ent) bs c)).get st.next = some (.row [.mp m, i64 s.q, i64 s.fu, bo s.off] 103) := by rw [St.get_push, if_neg (by omega)]; exact gn
  have l2 : (s1.push (.map (s.L.map ent) bs c)).lock = [] := by show s1.lock = []; exact r1.lock.trans hl
  have hwg2 := St.wget_of gn2 (by rw [l2]; simp)
  have hs3 : storeA E0 (s1.push (.map (s.L.map ent) bs c)) 101 (.ptr st.next 0) (.mp s1.next) = some ((s1.push (.map (s.L.map ent) bs c)).set st.next (.row [.mp s1.next, i64 s.q, i64 s.fu, bo s.off] 103)) := by
    simp [storeA, avCells, oneA, size101, hwg2]
  refine ⟨((s1.push (.map (s.L.map ent) bs c)).set st.next (.row [.mp s1.next, i64 s.q, i64 s.fu, bo s.off] 103)), s1.next, cp_run (cpRun d m s1.next (.agg [.mp m, i64 s.q, i64 s.fu, bo s.off]) st s1 (s1.push (.map (s.L.map ent) bs c)) ((s1.push (.map (s.L.map ent) bs c)).set st.next (.row [.mp s1.next, i64 s.q, i64 s.fu, bo s.off] 103))) ?_, ⟨by rw [St.get_set, if_pos rfl], bs, c, ?_⟩, ⟨fun i o _ h => ?_, ?_, ?_, ?_, ?_⟩, by omega⟩
  · simp only [Ob.ok_cons, Ob.ok_nil, and_true]
    exact ⟨o1, hs1, ⟨load_row (PD.row p1) (p101 rfl), rfl⟩, hc, hs3⟩
  · rw [St.get_set, if_neg (by omega), St.get_push, if_pos rfl]
  · have := hw _ _ h
    rw [St.get_set, if_neg (by omega), St.get_push, if_neg (by omega)]; exact r1.keep _ _ (by simp) h
  · show st.next ≤ s1.next + 1; omega
  · exact r1.lock
  · exact r1.gl
  · exact set_wf (push_wf r1.wf _) (by simp; omega) _
end
section
set_option maxRecDepth 4000
/-- what ready answers to two names -/
def rd2E (L : List PF) (off : Bool) (n n2 : ByteArray) : Int :=
  if off = true then 8 else if ¬ mayS n then 1 else if ¬ mayS n2 then 1 else if find n L = none then 6 else 0
theorem ready2_ok {st : St} {d m : Nat} {L : List PF} {q fu : Int} {off : Bool} (hp : PD st d L q fu off m) (hw : st.wf) {i : Nat} {fl : Bool} {n n2 : ByteArray} {ty : Nat} (hi : st.get i = some (.row [str n, str n2] ty)) (hl : st.lock = []) :
    ∃ k, obC 63 [.ptr d 0, TT, .sl i 1 0 2 fl] st (i64 (rd2E L off n n2)) (bump st k) := by
  obtain ⟨bs, clock, hm⟩ := hp.map
  have o1 : obL st 101 (.ptr d 0) (.mp m) := ⟨load_row hp.row (p101 rfl), rfl⟩
  have b0 : bump st 0 = st := rfl
  cases off with
  | true =>
    refine ⟨0, ?_⟩
    rw [b0]
    have e : rd2E L true n n2 = 8 := by unfold rd2E; rw [if_pos rfl]
    rw [e]
    refine dk_run (rdOff d m st true _) ?_
    simp only [Ob.ok_cons, Ob.ok_nil, and_true]
    exact ⟨o1, load_row hp.row (p4 rfl), rfl⟩
  | false =>
    have o2 : obL st 4 (.ptr d 3) FF := ⟨load_row hp.row (p4 rfl), rfl⟩
    have o3 : obL st 9 (.ptr i 0) (str n) := ⟨load_row hi (p9 rfl), rfl⟩
    have o5 : obL st 9 (.ptr i 1) (str n2) := ⟨load_row hi (p9 rfl), rfl⟩
    have o4 := may_ok n st
    have o6 := may_ok n2 st
    by_cases hmay : mayS n
    · rw [decide_eq_true hmay] at o4
      by_cases hmay2 : mayS n2
      · rw [decide_eq_true hmay2] at o6
        have e : rd2E L false n n2 = if find n L = none then 6 else 0 := by unfold rd2E; rw [if_neg (by simp), if_neg (fun h => h hmay), if_neg (fun h => h hmay2)]
        rw [e]
        refine ⟨1, ?_⟩
        have hob : ∀ {o : Ob}, o.ok → Ob.ok ([obL st 101 (.ptr d 0) (.mp m), obL st 4 (.ptr d 3) FF, obL st 9 (.ptr i 0) (str n), obC 85 [str n] st TT st, obL st 9 (.ptr i 1) (str n2), obC 85 [str n2] st TT st] ++ o) := fun h => by
          rw [Ob.ok_append]
          simp only [Ob.ok_cons, Ob.ok_nil, and_true]
          exact ⟨⟨o1, o2, o3, o4, o5, o6⟩, h⟩
        cases hf : find n L with
        | none =>
          obtain ⟨f1, f2, k1, k2, k3, k4, k5⟩ := rd_end (x := .nils) (y := i64 0) hp.row hm hw hi hl (lookup_miss hm hf true)
          exact forget_bump (bp_run (rd2Miss d m i st.next n n2 (.agg [.nils, i64 0]) st fl f1 f2) (hob k1)) k2 k3 k4 k5
        | some k =>
          obtain ⟨f, hk, hn⟩ := find_some hf
          obtain ⟨f1, f2, k1, k2, k3, k4, k5⟩ := rd_end (x := f.dv) (y := i64 f.last) hp.row hm hw hi hl (lookup_hit hm hf hk true)
          exact forget_bump (bp_run (rd2Hit d m i st.next n n2 (.agg [f.dv, i64 f.last]) st fl f1 f2) (hob k1)) k2 k3 k4 k5
      · rw [decide_eq_false hmay2] at o6
        refine ⟨0, ?_⟩
        rw [b0]
        have e : rd2E L false n n2 = 1 := by unfold rd2E; rw [if_neg (by simp), if_neg (fun h => h hmay), if_pos hmay2]
        rw [e]
        refine bp_run (rd2Bad2 d m i n n2 st fl) ?_
        simp only [Ob.ok_cons, Ob.ok_nil, and_true]
        exact ⟨o1, o2, o3, o4, o5, o6⟩
    · rw [decide_eq_false hmay] at o4
      refine ⟨0, ?_⟩
      rw [b0]
      have e : rd2E L false n n2 = 1 := by unfold rd2E; rw [if_neg (by simp), if_pos hmay]
      rw [e]
      refine bp_run (rd2Bad d m i n st fl) ?_
      simp only [Ob.ok_cons, Ob.ok_nil, and_true]
      exact ⟨o1, o2, o3, o4⟩
def pRename (s : PS) (n n2 : ByteArray) : Int × PS :=
  if rd2E s.L s.off n n2 ≠ 0 then (rd2E s.L s.off n n2, s) else
  if burnB s.fu = true then (8, burnt s) else
  match find n s.L with
  | some k => match s.L[k]? with
    | some f => (0, { burnt s with L := putL (s.L.eraseIdx k) { f with name := n2 } })
    | none => (0, burnt s)
  | none => (0, burnt s)
theorem rd2_0 {L : List PF} {off : Bool} {n n2 : ByteArray} (h : ¬ rd2E L off n n2 ≠ 0) : off = false ∧ ∃ k f, find n L = some k ∧ L[k]? = some f ∧ f.name = n := by
  have hoff : off = false := by
    cases off with
    | false => rfl
    | true => exact absurd (show rd2E L true n n2 ≠ 0 by unfold rd2E; rw [if_pos rfl]; decide) h
  refine ⟨hoff, ?_⟩
  cases hf : find n L with
  | some k =>
    obtain ⟨f, h1, h2⟩ := find_some hf
    exact ⟨k, f, rfl, h1, h2⟩
  | none =>
    refine absurd ?_ h
    unfold rd2E
    rw [hf]
    split
    · decide
    · split
      · decide
      · split
        · decide
        · simp
theorem rename_ok {st : St} {d m : Nat} {s : PS} (hp : PDs st d m s) (hw : st.wf) (hl : st.lock = []) (hg : Good s) (n n2 : ByteArray) :
    ∃ st', obC 27 [.ptr d 0, str n, str n2] st (i64 (pRename s n n2).1) st' ∧ PDs st' d m (pRename s n n2).2 ∧ Rest st st' [d, m] := by
  unfold pRename
  have hpn : PD (nmSt2 st n n2) d s.L s.q s.fu s.off m := PD.rest hp (Rest.push hw _ _)
  obtain ⟨kk, hrdy⟩ := ready2_ok (i := st.next) (fl := true) (n := n) (n2 := n2) (ty := 9) hpn (push_wf hw _) (by unfold nmSt2; rw [St.get_push, if_pos rfl]) (by simpa [nmSt2] using hl)
  have k1 : Rest st (bump (nmSt2 st n n2) kk) [] := (Rest.push hw _ _).trans (Rest.bump (push_wf hw _) kk _)
  have r1 : obR2 d n n2 st (rd2E s.L s.off n n2) (bump (nmSt2 st n n2) kk) := hrdy
  generalize bump (nmSt2 st n n2) kk = s1 at *
  have p1 : PDs s1 d m s := PD.rest hp k1
  have l1 : s1.lock = [] := k1.lock.trans hl
  by_cases hr : rd2E s.L s.off n n2 ≠ 0
  · rw [if_pos hr]
    refine ⟨s1, bp_run (rnNot d n n2 _ st s1) ?_, p1, k1.weak (by simp)⟩
    simp only [Ob.ok_cons, Ob.ok_nil, and_true]
    exact ⟨r1, neE_T hr⟩
  rw [if_neg hr]
  have hr0 : rd2E s.L s.off n n2 = 0 := by simpa using hr
  rw [hr0] at r1
  obtain ⟨hoff, k, f, hfi, hk, hn⟩ := rd2_0 hr
  have pb : PD s1 d s.L s.q s.fu false m := by have := p1; unfold PDs at this; rw [hoff] at this; exact this
  obtain ⟨s2, b1, b2, b3⟩ := burns_ok pb k1.wf l1 hg.fu
  have R2 : Rest st s2 [d, m] := (k1.weak (by simp)).trans (b3.weak (by simp))
  have l2 : s2.lock = [] := b3.lock.trans l1
  by_cases hb : burnB s.fu = true
  · rw [if_pos hb]
    rw [hb] at b1
    refine ⟨s2, bp_run (rnBurn d n n2 st s1 s2) ?_, b2, R2⟩
    simp only [Ob.ok_cons, Ob.ok_nil, and_true]
    exact ⟨r1, neE_F, b1⟩
  rw [if_neg hb]
  rw [Bool.not_eq_true] at hb
  rw [hb] at b1
  obtain ⟨bs, c, hm⟩ := b2.map
  have o2 : obL s2 101 (.ptr d 0) (.mp m) := ⟨load_row b2.row (p101 rfl), rfl⟩
  have olk : obK s2 m n false (.agg [f.dv, i64 f.last]) := ⟨lookup_hit hm hfi hk false, rfl⟩
  obtain ⟨s3, a1, a2, a3, a4⟩ := local_ok R2.wf l2 f.dv (i64 f.last)
  have p3 := b2.rest a3
  obtain ⟨bs3, c3, hm3⟩ := p3.map
  have l3 : s3.lock = [] := a3.lock.trans l2
  have hd := delete_hit hm3 (by rw [l3]; simp) hfi
  have hmm := a3.wf _ _ hm3
  have w4 := set_wf a3.wf hmm (.map ((s.L.eraseIdx k).map ent) (bs3.eraseIdx k) c3)
  have p4 : PD (s3.set m (.map ((s.L.eraseIdx k).map ent) (bs3.eraseIdx k) c3)) d (s.L.eraseIdx k) s.q (burnN s.fu) (burnB s.fu) m := ⟨by rw [St.get_set, if_neg b2.ne]; exact p3.row, _, _, by rw [St.get_set, if_pos rfl]⟩
  have g4 : (s3.set m (.map ((s.L.eraseIdx k).map ent) (bs3.eraseIdx k) c3)).get s2.next = some (.row [f.dv, i64 f.last] 105) := by
    rw [St.get_set, if_neg (fun e => by rw [e, hm3] at a2; cases a2)]; exact a2
  obtain ⟨s5, u1, u2, u3⟩ := upd_ok p4 w4 (by simpa using l3) { f with name := n2 } (a := s2.next) g4
  rw [hfi]
  simp only [hk]
  refine ⟨s5, bp_run (rnOk d m n n2 (.agg [f.dv, i64 f.last]) (.agg [f.dv, i64 f.last]) st s1 s2 s3 (s3.set m (.map ((s.L.eraseIdx k).map ent) (bs3.eraseIdx k) c3)) s5) ?_, u2, ((R2.trans (a3.weak (by simp))).trans (Rest.set a3.wf hmm _ (by simp))).trans u3⟩
  rw [Ob.ok_append]
  refine ⟨?_, u1⟩
  simp only [Ob.ok_cons, Ob.ok_nil, and_true]
  exact ⟨r1, neE_F, b1, o2, olk, a1, ⟨load_row p3.row (p101 rfl), rfl⟩, hd⟩
end
end Go.Proofs.Ytniaiciabfdbnaa.E
