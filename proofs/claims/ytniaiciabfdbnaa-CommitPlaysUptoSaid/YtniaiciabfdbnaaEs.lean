/- The evaluator with given outcomes, stores that stand in one another, frozen rows, laws of operations, and how arguments come into the abstract machine. No condition beyond those that the lemmas name. -/
import Derived.Test.YtniaiciabfdbnaaEm
import Derived.Deep.Slices
import Derived.OpenShut
import Derived.IntWalk
namespace Go.Proofs.Ytniaiciabfdbnaa.E
open Go Go.Proofs
section
set_option maxRecDepth 4000

/-! ### the evaluator with given values: at chosen places a value is replaced by one that is given; that both are the same is left to be shown -/
abbrev Ob := List Prop
/-- what is given: a value, or an operation's whole outcome -/
inductive Or where
  | av (a : AV)
  | eff (a : AV) (f : St → St)
instance : Coe AV Or := ⟨.av⟩
def Ob.ok (o : Ob) : Prop := ∀ p ∈ o, p
theorem Ob.ok_nil : Ob.ok [] := fun p h => by cases h
theorem Ob.ok_append {a b : Ob} : Ob.ok (a ++ b) ↔ a.ok ∧ b.ok := by
  unfold Ob.ok
  constructor
  · exact fun h => ⟨fun p hp => h p (List.mem_append_left _ hp), fun p hp => h p (List.mem_append_right _ hp)⟩
  · rintro ⟨h1, h2⟩ p hp
    rcases List.mem_append.1 hp with h | h
    · exact h1 p h
    · exact h2 p h
theorem Ob.ok_cons {p : Prop} {b : Ob} : Ob.ok (p :: b) ↔ p ∧ b.ok := by
  constructor
  · exact fun h => ⟨h p (List.mem_cons_self ..), fun q hq => h q (List.mem_cons_of_mem _ hq)⟩
  · rintro ⟨h1, h2⟩ q hq
    rcases List.mem_cons.1 hq with rfl | h
    · exact h1
    · exact h2 q h
def tagA (ss : List Nat) (d : Option Nat) (av : AV) (x : List Or) : AV × List Or × Ob :=
  match ss with
  | [] => (av, x, [])
  | _ => match d with
    | none => (av, x, [])
    | some d => if ss.contains d then (match x with
      | .av a :: r => (a, r, [av = a])
      | _ => (av, x, [])) else (av, x, [])
theorem tagA_ok {ss : List Nat} {d : Option Nat} {av : AV} {x : List Or} (h : (tagA ss d av x).2.2.ok) : av = (tagA ss d av x).1 := by
  unfold tagA at h ⊢
  split
  · rfl
  · split
    · rfl
    · split
      · rename_i hc
        simp only [hc, if_true] at h
        split
        · exact h _ (List.mem_singleton.2 rfl)
        · rfl
      · rfl
/-- a slice that has its whole row -/
def exP (vs : List AV) (off len sz : Nat) : Prop := off = 0 ∧ vs.length = len * sz
theorem exP_cells {vs : List AV} {off len sz : Nat} (h : exP vs off len sz) : (vs.drop off).take (len * sz) = vs ∧ off + len * sz = vs.length ∧ vs.drop off = vs := by
  obtain ⟨rfl, h⟩ := h
  exact ⟨by rw [List.drop_zero, ← h, List.take_length], by omega, List.drop_zero⟩
/-- a slice's cells, what is asked left to be shown -/
def sliceG (st : St) (x : AV) : Option (Nat × List AV × Prop) :=
  match x with
  | .nils => some (0, [], True)
  | .sl id sz off len _ => match st.get id with
    | some (.row vs _) => some (len, vs, exP vs off len sz)
    | _ => none
  | .imm _ len _ cells => some (len, cells, True)
  | _ => none
theorem sliceG_ok {st : St} {x : AV} {n : Nat} {c : List AV} {p : Prop} (h : sliceG st x = some (n, c, p)) (hp : p) : sliceCells st x = some (n, c) := by
  unfold sliceG at h
  split at h
  · cases h; rfl
  · rename_i id sz off len full
    split at h
    · rename_i vs ty hg
      cases h
      obtain ⟨h1, h2, h3⟩ := exP_cells hp
      simp only [sliceCells, hg]
      rw [if_pos (Nat.le_of_eq h2), h1]
    · cases h
  · cases h; rfl
  · cases h
def srcG (E : Env) (st : St) (tx : Nat) (x : AV) : Option (Nat × List AV × Prop) :=
  match E.ty tx with
  | some i => match i.desc with
    | .slice _ => sliceG st x
    | _ => none
  | none => none
theorem srcG_ok {E : Env} {st : St} {tx : Nat} {x : AV} {n : Nat} {c : List AV} {p : Prop} (h : srcG E st tx x = some (n, c, p)) (hp : p) : srcA E st tx x = some (n, c) := by
  unfold srcG at h
  split at h
  · rename_i i hi
    split at h
    · rename_i e hd
      simp only [srcA, hi, hd]
      exact sliceG_ok h hp
    · cases h
  · cases h
/-- an append of n elements behind len others -/
def growP (n len size bytes : Nat) (c : List AV) (str : Bool) : Prop := (c.length = n * size ∧ (str = true → size = 1)) ∧ n ≠ 0 ∧ ((len + n) * bytes ≤ 140737488355328 ∧ len + n ≤ 140737488355328)
def zeroP (n size : Nat) (c : List AV) (str : Bool) : Prop := (c.length = n * size ∧ (str = true → size = 1)) ∧ n = 0
def appendG (E : Env) (st : St) (t tx : Nat) (s x : AV) (grow : Bool) : Option (AV × St × Prop) :=
  match elemA E t, srcG E st tx x with
  | some q, some (n, c, p) =>
    if grow then (match s with
      | .nils => some (.sl st.next q.2.1.size 0 n false, st.push (.row c q.1), p ∧ growP n 0 q.2.1.size q.2.1.bytes c (isStrTy E tx))
      | .sl id sz off len full => match st.get id with
        | some (.row vs ty) => if sz = q.2.1.size ∧ ty = q.1 then (if full then some (.sl st.next sz 0 (len + n) false, st.push (.row (vs ++ c) ty), p ∧ growP n len q.2.1.size q.2.1.bytes c (isStrTy E tx) ∧ exP vs off len sz)
          else if st.lock = [] then some (.sl st.next sz 0 (len + n) false, (st.del id).push (.row (vs ++ c) ty), p ∧ growP n len q.2.1.size q.2.1.bytes c (isStrTy E tx) ∧ exP vs off len sz) else none) else none
        | _ => none
      | _ => none)
    else (match s with
      | .nils => some (.nils, st, p ∧ zeroP n q.2.1.size c (isStrTy E tx))
      | .sl id sz off len full => if sz = q.2.1.size then some (.sl id sz off len full, st, p ∧ zeroP n q.2.1.size c (isStrTy E tx)) else none
      | _ => none)
  | _, _ => none
theorem appendG_ok {E : Env} {st : St} {t tx : Nat} {s x : AV} {grow : Bool} {av : AV} {st' : St} {p : Prop} (h : appendG E st t tx s x grow = some (av, st', p)) (hp : p) : appendA E st t tx s x = some (av, st') := by
  unfold appendG at h
  split at h
  · rename_i q n c p0 hq hs
    split at h
    · split at h
      · cases h
        obtain ⟨h1, h2, h3, h4⟩ := hp
        simp only [appendA, hq, srcG_ok hs h1]
        rw [if_pos h2, if_neg h3, if_pos ⟨by simpa using h4.1, by simpa using h4.2⟩]
      · rename_i id sz off len full
        split at h
        · rename_i vs ty hg
          split at h
          · rename_i hsz
            split at h
            · rename_i hf
              cases h
              obtain ⟨h1, ⟨h2, h3, h5⟩, h6⟩ := hp
              obtain ⟨k1, k2, k3⟩ := exP_cells h6
              simp only [appendA, hq, srcG_ok hs h1]
              rw [if_pos h2, if_neg (fun h => h hsz.1), if_neg h3, if_pos h5]
              simp only [hg]
              rw [if_pos ⟨hsz.2, Nat.le_of_eq k2⟩, if_pos hf, k1]
            · rename_i hf
              split at h
              · rename_i hlk
                cases h
                obtain ⟨h1, ⟨h2, h3, h5⟩, h6⟩ := hp
                obtain ⟨k1, k2, k3⟩ := exP_cells h6
                simp only [appendA, hq, srcG_ok hs h1]
                rw [if_pos h2, if_neg (fun h => h hsz.1), if_neg h3, if_pos h5]
                simp only [hg]
                rw [if_pos ⟨hsz.2, Nat.le_of_eq k2⟩, if_neg hf, if_pos ⟨k2, by rw [hlk]; simp⟩, k3]
              · cases h
          · cases h
        · cases h
      · cases h
    · split at h
      · cases h
        obtain ⟨h1, h2, h3⟩ := hp
        simp only [appendA, hq, srcG_ok hs h1]
        rw [if_pos h2, if_pos h3]
      · split at h
        · rename_i hsz
          cases h
          obtain ⟨h1, h2, h3⟩ := hp
          simp only [appendA, hq, srcG_ok hs h1]
          rw [if_pos h2, if_neg (fun h => h hsz), if_pos h3]
        · cases h
      · cases h
  · cases h
def intOf : AV → Int | .val (.int .u8 n) => n | _ => 0
def convG (E : Env) (st : St) (s d : Nat) (x : AV) : Option (AV × Prop) :=
  match E.ty s, E.ty d, sliceG st x with
  | some i, some j, some (n, c, p) => match i.desc, j.desc with
    | .slice e, .string => match E.ty e with
      | some k => match k.desc with
        | .int .u8 => some (.val (.string (strOfNums (c.map intOf))), p ∧ numsA c = some (c.map intOf) ∧ (c.map intOf).length = n)
        | _ => none
      | none => none
    | _, _ => none
  | _, _, _ => none
theorem convG_ok {E : Env} {st : St} {s d : Nat} {x : AV} {av : AV} {p : Prop} (h : convG E st s d x = some (av, p)) (hp : p) : bytesStrA E st s d x = some av := by
  unfold convG at h
  split at h
  · rename_i i j n c p0 hi hj hs
    split at h
    · rename_i e h1 h2
      split at h
      · rename_i k hk
        split at h
        · rename_i h3
          cases h
          obtain ⟨q1, q2, q3⟩ := hp
          simp only [bytesStrA, hi, hj, sliceG_ok hs q1, h1, h2, hk, h3, q2]
          rw [if_pos q3]
        · cases h
      · cases h
    · cases h
  · cases h
/-- an operation's outcome that is given as a whole: what it asks -/
def convO (E : Env) (st : St) (s d : Nat) (v : AV) : Option (AV × St) :=
  match (match E.ty s, E.ty d, v with
    | some _, some i, .val (.int _ n) => match i.desc with
      | .int k => some (.val (.int k (k.wrap n)))
      | _ => none
    | some _, some i, .val (.string b) => match i.desc with
      | .string => some (.val (.string b))
      | _ => none
    | _, _, _ => none : Option AV) with
  | some a => some (a, st)
  | none => convA E st s d v
def effA (E : Env) (op : Op) (T : Tm) (st : St) (a : AV) (st' : St) : Option Prop :=
  match op with
  | .convert s d y => some (convO E st s d (T.eval y) = some (a, st'))
  | .lookup t m k ok => some (lookupA E st t (T.eval m) (T.eval k) ok = some a ∧ st' = st)
  | .load t y => some (loadA E st t (T.eval y) = some a ∧ st' = st)
  | .makeSlice t l c => some (makeSliceA E st t (T.eval l) (T.eval c) = some (a, st'))
  | .alloc t => some (allocA E st t = some (a, st'))
  | .box t y => some (boxA st t (T.eval y) = some (a, st'))
  | .buildSlice t n parts => some (buildSliceA E st t n (parts.toList.map fun p => (p.1, T.eval p.2)) = some (a, st'))
  | .slice t y lo hi mx => some (sliceA E st t (T.eval y) (lo.map T.eval) (hi.map T.eval) (mx.map T.eval) = some a ∧ st' = st)
  | .index t y i => some (indexA E t (T.eval y) (T.eval i) = some a ∧ st' = st)
  | .indexAddr t y i => some (indexAddrA E t (T.eval y) (T.eval i) = some a ∧ st' = st)
  | .binOp b t y z _ => some (binA E b t (T.eval y) (T.eval z) = some a ∧ st' = st)
  | .call ⟨.builtin b, args, ts⟩ => match b, args.toList, ts.toList with
    | .append, [s, y], [t, tx] => some (appendA E st t tx (T.eval s) (T.eval y) = some (a, st'))
    | .copy, [s, y], [t, tx] => some (copyA E st t tx (T.eval s) (T.eval y) = some (a, st'))
    | .delete, [m, k], [t, _] => some (mapDeleteA E st t (T.eval m) (T.eval k) = some st' ∧ a = .tup [])
    | .len, [m], [t] => some (lenA E t (T.eval m) = none ∧ mapLenA E st t (T.eval m) = some a ∧ st' = st)
    | _, _, _ => none
  | _ => none
theorem effA_ok {E : Env} {op : Op} {T : Tm} {st : St} {a : AV} {st' : St} {p : Prop} (h : effA E op T st a st' = some p) (hp : p) : evOp E op T st = some (.val a st') := by
  unfold effA at h
  split at h
  · rename_i s d y
    cases h
    have e : evOp E (.convert s d y) T st = match pureA E st (.convert s d y) T with
      | some av => some (.val av st)
      | none => (convA E st s d (T.eval y)).map fun r => .val r.1 r.2 := rfl
    have e2 : convO E st s d (T.eval y) = match pureA E st (.convert s d y) T with
      | some av => some (av, st)
      | none => convA E st s d (T.eval y) := rfl
    rw [e2] at hp
    rw [e]
    split at hp
    · cases hp; rfl
    · rw [hp]; rfl
  · cases h
    obtain ⟨h1, rfl⟩ := hp
    unfold evOp
    simp only [pureA, h1, Option.map_some]
  · cases h
    obtain ⟨h1, rfl⟩ := hp
    unfold evOp
    simp only [pureA, h1, Option.map_some]
  · cases h
    unfold evOp
    simp only [pureA, hp, Option.map_some]
  · cases h
    unfold evOp
    simp only [pureA, hp, Option.map_some]
  · cases h
    unfold evOp
    simp only [pureA, hp, Option.map_some]
  · cases h
    unfold evOp
    simp only [pureA, hp, Option.map_some]
  · cases h
    obtain ⟨h1, rfl⟩ := hp
    unfold evOp
    simp only [pureA, h1]
  · cases h
    obtain ⟨h1, rfl⟩ := hp
    unfold evOp
    simp only [pureA, h1]
  · cases h
    obtain ⟨h1, rfl⟩ := hp
    unfold evOp
    simp only [pureA, h1]
  · cases h
    obtain ⟨h1, rfl⟩ := hp
    unfold evOp
    simp only [pureA, h1]
  · rename_i b args ts
    split at h
    · rename_i s y t tx ha ht
      cases h
      unfold evOp
      simp only [pureA, ha, ht, builtinA, List.map_cons, List.map_nil, hp, Option.map_some]
    · rename_i s y t tx ha ht
      cases h
      unfold evOp
      simp only [pureA, ha, ht, builtinA, List.map_cons, List.map_nil, hp, Option.map_some]
    · rename_i m k t t2 ha ht
      cases h
      obtain ⟨h1, rfl⟩ := hp
      unfold evOp
      simp only [pureA, ha, ht, builtinA, List.map_cons, List.map_nil, h1, Option.map_some]
    · rename_i m t ha ht
      cases h
      obtain ⟨h0, h1, rfl⟩ := hp
      unfold evOp
      simp only [pureA, ha, ht, h0, builtinA, List.map_cons, List.map_nil, h1, Option.map_some]
    · cases h
  · cases h
/-- what only computes, its outcome given -/
def pureG (E : Env) (ss : List Nat) (o : Oper) (T : Tm) (st : St) (x : List Or) : Option (AV × List Or × Prop) :=
  match o.dst, x with
  | some d, .eff a _ :: r => if ss.contains (2000 + d) then (match o.op with
      | .slice t y lo hi mx => some (a, r, sliceA E st t (T.eval y) (lo.map T.eval) (hi.map T.eval) (mx.map T.eval) = some a)
      | .index t y i => some (a, r, indexA E t (T.eval y) (T.eval i) = some a)
      | .indexAddr t y i => some (a, r, indexAddrA E t (T.eval y) (T.eval i) = some a)
      | .binOp b t y z _ => some (a, r, binA E b t (T.eval y) (T.eval z) = some a)
      | _ => none) else if ss.contains (7000 + d) then some (a, r, pureA E st o.op T = some a) else none
  | _, _ => none
theorem pureG_ok {E : Env} {ss : List Nat} {o : Oper} {T : Tm} {st : St} {x : List Or} {a : AV} {r : List Or} {p : Prop} (h : pureG E ss o T st x = some (a, r, p)) (hp : p) : pureA E st o.op T = some a := by
  unfold pureG at h
  split at h
  · split at h
    · split at h
      · rename_i ho; cases h; rw [ho]; exact hp
      · rename_i ho; cases h; rw [ho]; exact hp
      · rename_i ho; cases h; rw [ho]; exact hp
      · rename_i ho; cases h; rw [ho]; exact hp
      · cases h
    · split at h
      · cases h; exact hp
      · cases h
  · cases h
/-- places 2000 + d: an operation whose outcome is given -/
def giveA (E : Env) (ss : List Nat) (op : Op) (d : Option Nat) (T : Tm) (st : St) (x : List Or) : Option (AV × St × List Or × Prop) :=
  match ss with
  | [] => none
  | _ => match d with
    | none => if ss.contains 5000 then (match op, x with
      | .call ⟨.builtin b, args, ts⟩, .eff a f :: r => (effA E (.call ⟨.builtin b, args, ts⟩) T st a (f st)).map fun p => (a, f st, r, p)
      | _, _ => none) else none
    | some d => if ss.contains (2000 + d) then (match op, x with
      | .slice t y none (some hi) (some mx), .av (.sl n _ _ _ _) :: r => match E.ty t, T.eval y, T.eval hi, T.eval mx with
        | some i, .sl id sz off len _, .val (.int _ a), .val (.int _ b) => match i.desc with
          | .slice e => if tySize E e = some sz then some (.sl id sz off n true, st, r, a = (n : Int) ∧ b = (n : Int) ∧ 0 < n ∧ n ≤ len) else none
          | _ => none
        | _, _, _, _ => none
      | .indexAddr t y ix, _ => match E.ty t, T.eval y, T.eval ix with
        | some i, .imm sz len _ cells, .val (.int _ a) => match i.desc with
          | .slice e => if tySize E e = some sz ∧ sz ≠ 0 then some (.iptr (cells.drop (a.toNat * sz)), st, x, 0 ≤ a ∧ a < (len : Int)) else none
          | _ => none
        | some i, .sl id sz off len _, .val (.int _ a) => match i.desc with
          | .slice e => if tySize E e = some sz then some (.ptr id (off + a.toNat * sz), st, x, 0 ≤ a ∧ a < (len : Int)) else none
          | _ => none
        | _, _, _ => none
      | .load t y, .av b :: r => match T.eval y with
        | .iptr cs => some (b, st, r, partA E t cs 0 = some b)
        | .ptr id off => match st.get id with
          | some (.row vs _) => some (b, st, r, partA E t vs off = some b)
          | _ => none
        | _ => none
      | .convert s d y, .eff a f :: r => (effA E (.convert s d y) T st a (f st)).map fun p => (a, f st, r, p)
      | .convert s d y, _ => match T.eval y with
        | .val _ => none
        | y => match convG E st s d y with
          | some (av, p) => some (av, st, x, p)
          | none => none
      | .call ⟨.builtin .append, args, ts⟩, .av (.val (.bool grow)) :: r => match args.toList, ts.toList with
        | [s, y], [t, tx] => match appendG E st t tx (T.eval s) (T.eval y) grow with
          | some (av, st', p) => some (av, st', r, p)
          | none => none
        | _, _ => none
      | op, .eff a f :: r => (effA E op T st a (f st)).map fun p => (a, f st, r, p)
      | _, _ => none) else if ss.contains (7000 + d) then (match x with
      | .av a :: r => some (a, st, r, pureA E st op T = some a)
      | _ => none) else none
theorem giveA_ok {E : Env} {ss : List Nat} {op : Op} {d : Option Nat} {T : Tm} {st : St} {x : List Or} {av : AV} {st' : St} {x' : List Or} {p : Prop} (h : giveA E ss op d T st x = some (av, st', x', p)) (hp : p) : evOp E op T st = some (.val av st') := by
  unfold giveA at h
  split at h
  · cases h
  split at h
  · split at h
    · split at h
      · obtain ⟨q, hq, he⟩ := Option.map_eq_some_iff.1 h
        simp only [Prod.mk.injEq] at he
        obtain ⟨rfl, rfl, rfl, rfl⟩ := he
        exact effA_ok hq hp
      · cases h
    · cases h
  split at h
  · split at h
    · rename_i t y hi mx n _ _ _ _ r
      split at h
      · rename_i i id sz off len full k a k' b h1 h2 h3 h4
        split at h
        · rename_i e hd
          split at h
          · rename_i hs
            simp only [Option.some.injEq, Prod.mk.injEq] at h
            obtain ⟨rfl, rfl, rfl, rfl⟩ := h
            obtain ⟨rfl, rfl, h5, h6⟩ := hp
            have e1 : natLe (.val (.int k' n)) len = some n := by
              show (if 0 ≤ (n : Int) ∧ (n : Int) ≤ len then some (n : Int).toNat else none) = some n
              rw [if_pos ⟨by omega, by omega⟩]; rfl
            have e2 : natLe (.val (.int k n)) n = some n := by
              show (if 0 ≤ (n : Int) ∧ (n : Int) ≤ n then some (n : Int).toNat else none) = some n
              rw [if_pos ⟨by omega, by omega⟩]; rfl
            have hb : boundsA len len none (some (.val (.int k n))) (some (.val (.int k' n))) = some (0, n, n) := by
              delta boundsA
              simp only [e1, e2]
            have : sliceA E st t (.sl id sz off len full) none (some (.val (.int k n))) (some (.val (.int k' n))) = some (.sl id sz off n true) := by
              simp only [sliceA, h1, hd, hs, if_true, hb]
              rw [if_neg (by omega)]
              simp [fullOf]
            unfold evOp
            simp only [pureA, Option.map_none, Option.map_some, h2, h3, h4, this]
          · cases h
        · cases h
      · cases h
    · rename_i _ t y ix
      split at h
      · rename_i i sz len full cells k a h1 h2 h3
        split at h
        · rename_i e hd
          split at h
          · rename_i hs
            simp only [Option.some.injEq, Prod.mk.injEq] at h
            obtain ⟨rfl, rfl, rfl, rfl⟩ := h
            have : indexAddrA E t (.imm sz len full cells) (.val (.int k a)) = some (.iptr (cells.drop (a.toNat * sz))) := by
              simp only [indexAddrA, h1, hd]
              rw [if_pos ⟨hs.1, hp.1, hp.2, hs.2⟩]
            unfold evOp
            simp only [pureA, h2, h3, this]
          · cases h
        · cases h
      · rename_i i id sz off len full k a h1 h2 h3
        split at h
        · rename_i e hd
          split at h
          · rename_i hs
            simp only [Option.some.injEq, Prod.mk.injEq] at h
            obtain ⟨rfl, rfl, rfl, rfl⟩ := h
            have : indexAddrA E t (.sl id sz off len full) (.val (.int k a)) = some (.ptr id (off + a.toNat * sz)) := by
              simp only [indexAddrA, h1, hd]
              rw [if_pos ⟨hs, hp.1, hp.2⟩]
            unfold evOp
            simp only [pureA, h2, h3, this]
          · cases h
        · cases h
      · cases h
    · rename_i t y b r
      split at h
      · rename_i cs h1
        simp only [Option.some.injEq, Prod.mk.injEq] at h
        obtain ⟨rfl, rfl, rfl, rfl⟩ := h
        unfold evOp
        simp only [pureA, h1, loadA, hp, Option.map_some]
      · rename_i id off h1
        split at h
        · rename_i vs ty hg
          simp only [Option.some.injEq, Prod.mk.injEq] at h
          obtain ⟨rfl, rfl, rfl, rfl⟩ := h
          unfold evOp
          simp only [pureA, h1, loadA, hg, hp, Option.map_some]
        · cases h
      · cases h
    · obtain ⟨q, hq, he⟩ := Option.map_eq_some_iff.1 h
      simp only [Prod.mk.injEq] at he
      obtain ⟨rfl, rfl, rfl, rfl⟩ := he
      exact effA_ok hq hp
    · rename_i s d y _
      split at h
      · cases h
      · rename_i hnv
        split at h
        · rename_i av' p' hc
          simp only [Option.some.injEq, Prod.mk.injEq] at h
          obtain ⟨rfl, rfl, rfl, rfl⟩ := h
          have hb := convG_ok hc hp
          have hpu : pureA E st (.convert s d y) T = none := by
            simp only [pureA]
            split
            · rename_i h3; exact absurd h3 (hnv _)
            · rename_i h3; exact absurd h3 (hnv _)
            · rfl
          unfold evOp
          simp only [hpu, convA, hb, Option.map_some]
        · cases h
    · rename_i args ts grow r
      split at h
      · rename_i s y t tx ha ht
        split at h
        · rename_i av' st2 p' hc
          simp only [Option.some.injEq, Prod.mk.injEq] at h
          obtain ⟨rfl, rfl, rfl, rfl⟩ := h
          have hb := appendG_ok hc hp
          unfold evOp
          simp only [pureA, ha, ht, builtinA, List.map_cons, List.map_nil, hb, Option.map_some]
        · cases h
      · cases h
    · rename_i a f r _ _ _ _
      obtain ⟨q, hq, he⟩ := Option.map_eq_some_iff.1 h
      simp only [Prod.mk.injEq] at he
      obtain ⟨rfl, rfl, rfl, rfl⟩ := he
      exact effA_ok hq hp
    · cases h
  · split at h
    · split at h
      · simp only [Option.some.injEq, Prod.mk.injEq] at h
        obtain ⟨rfl, rfl, rfl, rfl⟩ := h
        unfold evOp
        rw [hp]
      · cases h
    · cases h
/-- place 5000: stores whose outcome is given -/
def skipG (E : Env) (ss : List Nat) (op : Op) (T : Tm) (st : St) (x : List Or) : Option (St × List Or × Prop) :=
  match ss with
  | [] => none
  | _ => if ss.contains 5000 then (match op, x with
    | .store t y v, .eff _ f :: r => some (f st, r, storeA E st t (T.eval y) (T.eval v) = some (f st))
    | .mapUpdate t m k v, .eff _ f :: r => some (f st, r, mapUpdateA E st t (T.eval m) (T.eval k) (T.eval v) = some (f st))
    | _, _ => none) else none
theorem skipG_ok {E : Env} {ss : List Nat} {op : Op} {T : Tm} {st : St} {x : List Or} {st' : St} {x' : List Or} {p : Prop} (h : skipG E ss op T st x = some (st', x', p)) (hp : p) : evOp E op T st = some (.skip st') := by
  unfold skipG at h
  split at h
  · cases h
  split at h
  · split at h
    · cases h
      unfold evOp
      simp only [pureA, hp, Option.map_some]
    · cases h
      unfold evOp
      simp only [pureA, hp, Option.map_some]
    · cases h
  · cases h
/-- places 6000 + f: calls of f whose outcome is given -/
def callG (ss : List Nat) (fn : Nat) (x : List Or) : Option (AV × (St → St) × List Or) :=
  match ss with
  | [] => none
  | _ => match x with
    | .eff a f :: r => if ss.contains (6000 + fn) then some (a, f, r) else none
    | _ => none
/-- places 1000 + d: a condition whose answer is given -/
def condA (ss : List Nat) (c : Operand) (x : List Or) : Option (Bool × List Or) :=
  match ss with
  | [] => none
  | _ => match c with
    | .tmp d => if ss.contains (1000 + d) then (match x with
      | .av (.val (.bool b)) :: r => some (b, r)
      | _ => none) else none
    | _ => none
/-- the objects that such a region loads from before anything else, the given values being put in -/
def idsOfS (E : Env) (ss : List Nat) (ops : Array Oper) : List DStep → Tm → St → List Or → List Nat
  | [], _, _, _ => []
  | s :: rest, T, st, x => if s.take then (match ops[s.i]? with
      | none => []
      | some o => match wantedA ops o T with
        | some true => match pureA E st o.op T with
          | some av => idsOfS E ss ops rest (T.put o.dst (tagA ss o.dst av x).1) st (tagA ss o.dst av x).2.1
          | none => match o.op with
            | .load t y => match T.eval y with
              | .ptr id off => match loadA E st t (.ptr id off) with
                | some av => id :: idsOfS E ss ops rest (T.put o.dst (tagA ss o.dst av x).1) st (tagA ss o.dst av x).2.1
                | none => []
              | _ => []
            | .lookup t m k ok => match lookupA E st t (T.eval m) (T.eval k) ok with
              | some av => match T.eval m with
                | .mp id => id :: idsOfS E ss ops rest (T.put o.dst (tagA ss o.dst av x).1) st (tagA ss o.dst av x).2.1
                | _ => idsOfS E ss ops rest (T.put o.dst (tagA ss o.dst av x).1) st (tagA ss o.dst av x).2.1
              | none => []
            | _ => []
        | some false => idsOfS E ss ops rest (T.put o.dst (.tup [])) st x
        | none => []) else []
/-- place 8000: regions whose order the tape picks, with given loads and outcomes -/
def idsG (E : Env) (ss : List Nat) (ops : Array Oper) : List DStep → Tm → St → List Or → List Nat
  | [], _, _, _ => []
  | s :: rest, T, st, x => if s.take then (match ops[s.i]? with
      | none => []
      | some o => match wantedA ops o T with
        | some true => match pureG E ss o T st x with
         | some (a, r, _) => idsG E ss ops rest (T.put o.dst a) st r
         | none => match pureA E st o.op T with
          | some av => idsG E ss ops rest (T.put o.dst av) st x
          | none => match o.op, x with
            | .load _ y, .eff a _ :: r => match T.eval y with
              | .ptr id _ => id :: idsG E ss ops rest (T.put o.dst a) st r
              | _ => []
            | .lookup _ m _ _, .eff a _ :: r => match T.eval m with
              | .mp id => id :: idsG E ss ops rest (T.put o.dst a) st r
              | _ => []
            | _, _ => []
        | some false => idsG E ss ops rest (T.put o.dst (.tup [])) st x
        | none => []) else []
def heldG (E : Env) (ss : List Nat) (st : St) (ids : List Nat) (o : Oper) (T : Tm) (x : List Or) : Option (AV × List Or × Prop) :=
  match ss with
  | [] => none
  | _ => if ss.contains 8000 then (match pureG E ss o T st x with
   | some q => some q
   | none => match o.op, x with
    | .load t y, .eff a _ :: r => match T.eval y with
      | .ptr id off => some (a, r, ids.contains id = true ∧ loadA E st t (.ptr id off) = some a)
      | _ => none
    | .lookup t m k ok, .eff a _ :: r => match T.eval m with
      | .mp id => some (a, r, ids.contains id = true ∧ lookupA E st t (.mp id) (T.eval k) ok = some a)
      | _ => none
    | _, _ => none) else none
theorem heldG_ok {E : Env} {ss : List Nat} {st : St} {ids : List Nat} {o : Oper} {T : Tm} {x : List Or} {a : AV} {r : List Or} {p : Prop} (h : heldG E ss st ids o T x = some (a, r, p)) (hp : p) : heldA E st ids o.op T = some a := by
  unfold heldG at h
  split at h
  · cases h
  split at h
  · split at h
    · rename_i hq
      cases h
      unfold heldA
      rw [pureG_ok hq hp]
    split at h
    · rename_i ho _
      split at h
      · rename_i hy
        cases h
        unfold heldA
        simp only [ho, pureA, hy, hp.1, if_true, hp.2]
      · cases h
    · rename_i ho _
      split at h
      · rename_i hy
        cases h
        unfold heldA
        simp only [ho, pureA, hy, hp.1, if_true, hp.2]
      · cases h
    · cases h
  · cases h
def drG (P : Program) (E : Env) (ss : List Nat) (op : Op) (T : Tm) (st : St) (x : List Or) : Option (AV × St × List Or × Prop) :=
  match ss with
  | [] => none
  | _ => if ss.contains 8000 then (match x with
    | .eff a f :: r => match op with
      | .store t y v => some (.tup [], f st, r, storeA E st t (T.eval y) (T.eval v) = some (f st))
      | .mapUpdate t m k v => some (.tup [], f st, r, mapUpdateA E st t (T.eval m) (T.eval k) (T.eval v) = some (f st))
      | op => match effA E op T st a (f st) with
        | some p => some (a, f st, r, p)
        | none => match evOp E op T st with
          | some (.call k args) => if ss.contains (6000 + k) then some (a, f st, r, ACalls P k args (fun q s => q = a ∧ s = f st) st) else none
          | _ => none
    | _ => none) else none
theorem drG_ok {P : Program} {E : Env} {ss : List Nat} {op : Op} {T : Tm} {st : St} {x : List Or} {a : AV} {st' : St} {r : List Or} {p : Prop} (h : drG P E ss op T st x = some (a, st', r, p)) (hp : p) :
    evOp E op T st = some (.val a st') ∨ (evOp E op T st = some (.skip st') ∧ a = .tup []) ∨ ∃ f args, evOp E op T st = some (.call f args) ∧ ACalls P f args (fun q s => q = a ∧ s = st') st := by
  unfold drG at h
  split at h
  · cases h
  split at h
  · split at h
    · split at h
      · cases h
        refine .inr (.inl ⟨?_, rfl⟩)
        unfold evOp
        simp only [pureA, hp, Option.map_some]
      · cases h
        refine .inr (.inl ⟨?_, rfl⟩)
        unfold evOp
        simp only [pureA, hp, Option.map_some]
      · split at h
        · rename_i he
          cases h
          exact .inl (effA_ok he hp)
        · split at h
          · rename_i he
            split at h
            · cases h
              exact .inr (.inr ⟨_, _, he, hp⟩)
            · cases h
          · cases h
    · cases h
  · cases h
abbrev OvP := Nat → List AV → St → Option (AV × St × Prop)
def Ov.p (ov : Ov) : OvP := fun f args st => (ov f args st).map fun r => (r.1, r.2, True)
mutual
def evS (P : Program) (E : Env) (ov : OvP) (sites : Nat → List Nat) : Nat → List Nat → Code → Tm → St → List Or → Option (Exit × Tm × St × List Or × Ob)
  | 0, _, _, _, _, _ => none
  | k + 1, ss, c, T, st, x => match c with
    | .skip => some (.normal, T, st, x, [])
    | .label _ => some (.normal, T, st, x, [])
    | .exit id => some (.exit id, T, st, x, [])
    | .ret => some (.ret, T, st, x, [])
    | .seq a b => match evS P E ov sites k ss a T st x with
      | some (.normal, T1, st1, x1, o1) => match evS P E ov sites k ss b T1 st1 x1 with
        | some (e2, T2, st2, x2, o2) => some (e2, T2, st2, x2, o1 ++ o2)
        | none => none
      | r => r
    | .cond c y z => match condA ss c x with
      | some (b, x1) => match evS P E ov sites k ss (if b then y else z) T st x1 with
        | some (e2, T2, st2, x2, o2) => some (e2, T2, st2, x2, (T.eval c = .val (.bool b)) :: o2)
        | none => none
      | none => match T.eval c with
        | .val (.bool b) => evS P E ov sites k ss (if b then y else z) T st x
        | _ => none
    | .block id c => match evS P E ov sites k ss c T st x with
      | some (.exit i, T1, st1, x1, o1) => if i = id then some (.normal, T1, st1, x1, o1) else some (.exit i, T1, st1, x1, o1)
      | r => r
    | .scope c => match evS P E ov sites k ss c T st x with
      | some (.goto _, _, _, _, _) => none
      | r => r
    | .loop c => match evS P E ov sites k ss c T st x with
      | some (.normal, T1, st1, x1, o1) => match evS P E ov sites k ss (.loop c) T1 st1 x1 with
        | some (e2, T2, st2, x2, o2) => some (e2, T2, st2, x2, o1 ++ o2)
        | none => none
      | r => r
    | .region _ ops false => match evOpsS P E ov sites k ss ops ops.toList T st x with
      | some (T1, st1, x1, o1) => some (.normal, T1, st1, x1, o1)
      | none => none
    | .region _ ops true => match planOf ops with
      | some l => match (match ss with | [] => false | _ => ss.contains 8000) with
       | true => match evDrS P E ov sites k ss ops (idsG E ss ops l T st x) l T st x with
        | some (T1, st1, x1, o1) => some (.normal, T1, st1, x1, (∀ i ∈ idsG E ss ops l T st x, i < st.next) :: o1)
        | none => none
       | false => match evDrS P E ov sites k ss ops ((idsOfS E ss ops l T st x).filter (· < st.next)) l T st x with
        | some (T1, st1, x1, o1) => some (.normal, T1, st1, x1, o1)
        | none => none
      | none => none
    | _ => none
def evDrS (P : Program) (E : Env) (ov : OvP) (sites : Nat → List Nat) : Nat → List Nat → Array Oper → List Nat → List DStep → Tm → St → List Or → Option (Tm × St × List Or × Ob)
  | 0, _, _, _, _, _, _, _ => none
  | k + 1, ss, ops, ids, l, T, st, x => match l with
    | [] => some (T, st, x, [])
    | s :: rest => match ops[s.i]? with
      | none => none
      | some o => if T.fits o.dst then (match wantedA ops o T with
        | some false => if s.take || s.single then evDrS P E ov sites k ss ops ids rest (T.put o.dst (.tup [])) st x else none
        | some true => match (if s.take then heldG E ss st ids o T x else none) with
         | some (a, r, p) => match evDrS P E ov sites k ss ops ids rest (T.put o.dst a) st r with
            | some (T2, st2, x2, o2) => some (T2, st2, x2, p :: o2)
            | none => none
         | none => match (if s.take then heldA E st ids o.op T else none) with
          | some av => match evDrS P E ov sites k ss ops ids rest (T.put o.dst (tagA ss o.dst av x).1) st (tagA ss o.dst av x).2.1 with
            | some (T2, st2, x2, o2) => some (T2, st2, x2, (tagA ss o.dst av x).2.2 ++ o2)
            | none => none
          | none => match (if s.single then drG P E ss o.op T (if s.ph then st.hide ids else st) x else none) with
           | some (a, st', x1, p) => match evDrS P E ov sites k ss ops ids rest (T.put o.dst a) (if s.ph then st'.show st ids else st') x1 with
            | some (T2, st2, x2, o2) => some (T2, st2, x2, (s.ph = true → ids.all (fun id => (st.get id).isSome) = true) :: p :: o2)
            | none => none
           | none => if s.single && (!s.ph || ids.all (fun id => (st.get id).isSome)) then (match evOp E o.op T (if s.ph then st.hide ids else st) with
            | some (.val av st') => match evDrS P E ov sites k ss ops ids rest (T.put o.dst (tagA ss o.dst av x).1) (if s.ph then st'.show st ids else st') (tagA ss o.dst av x).2.1 with
              | some (T2, st2, x2, o2) => some (T2, st2, x2, (tagA ss o.dst av x).2.2 ++ o2)
              | none => none
            | some (.skip st') => evDrS P E ov sites k ss ops ids rest (T.put o.dst (.tup [])) (if s.ph then st'.show st ids else st') x
            | some (.call f args) => match evCallS P E ov sites k f args (if s.ph then st.hide ids else st) x with
              | some (r, st', x1, o1) => match evDrS P E ov sites k ss ops ids rest (T.put o.dst r) (if s.ph then st'.show st ids else st') x1 with
                | some (T2, st2, x2, o2) => some (T2, st2, x2, o1 ++ o2)
                | none => none
              | none => none
            | _ => none) else none
        | none => none) else none
def evOpsS (P : Program) (E : Env) (ov : OvP) (sites : Nat → List Nat) : Nat → List Nat → Array Oper → List Oper → Tm → St → List Or → Option (Tm × St × List Or × Ob)
  | 0, _, _, _, _, _, _ => none
  | k + 1, ss, ops, l, T, st, x => match l with
    | [] => some (T, st, x, [])
    | o :: rest => if T.fits o.dst then (match wantedA ops o T with
      | some true => match skipG E ss o.op T st x with
       | some (st1, x1, p) => match evOpsS P E ov sites k ss ops rest (T.put o.dst (.tup [])) st1 x1 with
         | some (T2, st2, x2, o2) => some (T2, st2, x2, p :: o2)
         | none => none
       | none => match giveA E ss o.op o.dst T st x with
       | some (av, st1, x1, p) => match evOpsS P E ov sites k ss ops rest (T.put o.dst av) st1 x1 with
         | some (T2, st2, x2, o2) => some (T2, st2, x2, p :: o2)
         | none => none
       | none => match evOp E o.op T st with
        | some (.val av st') => match evOpsS P E ov sites k ss ops rest (T.put o.dst (tagA ss o.dst av x).1) st' (tagA ss o.dst av x).2.1 with
          | some (T2, st2, x2, o2) => some (T2, st2, x2, (tagA ss o.dst av x).2.2 ++ o2)
          | none => none
        | some (.skip st') => evOpsS P E ov sites k ss ops rest (T.put o.dst (.tup [])) st' x
        | some (.any [q]) => evOpsS P E ov sites k ss ops rest (T.put o.dst q.1) q.2 x
        | some (.any _) => none
        | some (.call f args) => match callG ss f x with
         | some (a, h, x1) => match evOpsS P E ov sites k ss ops rest (T.put o.dst a) (h st) x1 with
            | some (T2, st2, x2, o2) => some (T2, st2, x2, ACalls P f args (fun r s => r = a ∧ s = h st) st :: o2)
            | none => none
         | none => match evCallS P E ov sites k f args st x with
          | some (r, st', x1, o1) => match evOpsS P E ov sites k ss ops rest (T.put o.dst (tagA ss o.dst r x1).1) st' (tagA ss o.dst r x1).2.1 with
            | some (T2, st2, x2, o2) => some (T2, st2, x2, o1 ++ ((tagA ss o.dst r x1).2.2 ++ o2))
            | none => none
          | none => none
        | none => none
      | some false => evOpsS P E ov sites k ss ops rest (T.put o.dst (.tup [])) st x
      | none => none) else none
def evCallS (P : Program) (E : Env) (ov : OvP) (sites : Nat → List Nat) : Nat → Nat → List AV → St → List Or → Option (AV × St × List Or × Ob)
  | 0, _, _, _, _ => none
  | k + 1, f, args, st, x => match ov f args st with
    | some (r, st', p) => some (r, st', x, [p])
    | none => match E.fn f with
      | some fn => match fn.body with
        | some c => match evS P E ov sites k (sites f) c (enterT fn args st.gl) st x with
          | some (.normal, T1, st1, x1, o1) => (resA E T1 st1 fn.results.toList).map fun vs => (oneOrTup vs, st1, x1, o1)
          | some (.ret, T1, st1, x1, o1) => (resA E T1 st1 fn.results.toList).map fun vs => (oneOrTup vs, st1, x1, o1)
          | _ => none
        | none => none
      | none => none
end

structure EvSOK (P : Program) (E : Env) (ov : OvP) (sites : Nat → List Nat) (k : Nat) : Prop where
  code : ∀ ss c T st x e1 T1 st1 x1 ob, evS P E ov sites k ss c T st x = some (e1, T1, st1, x1, ob) → ob.ok → AW P c (fun e T' st' => e = e1 ∧ T' = T1 ∧ st' = st1) T st
  ops : ∀ ss ops l T st x T1 st1 x1 ob, evOpsS P E ov sites k ss ops l T st x = some (T1, st1, x1, ob) → ob.ok → AOps P E ops (fun e T' st' => e = .normal ∧ T' = T1 ∧ st' = st1) l T st
  call : ∀ f args st x a1 st1 x1 ob, evCallS P E ov sites k f args st x = some (a1, st1, x1, ob) → ob.ok → ACalls P f args (fun a st' => a = a1 ∧ st' = st1) st
  dr : ∀ ss ops ids l T st x T1 st1 x1 ob, evDrS P E ov sites k ss ops ids l T st x = some (T1, st1, x1, ob) → ob.ok → ∀ listed, planOK ops l listed = true → ADr P E ops ids (fun e T' st' => e = .normal ∧ T' = T1 ∧ st' = st1) (l.map (·.i)) listed T st

theorem evS_ok {P : Program} {E : Env} (hE : EOK' P E) {ov : OvP} {sites : Nat → List Nat} (hov : ∀ f args st r st' p, ov f args st = some (r, st', p) → p → ACalls P f args (fun a s => a = r ∧ s = st') st) : ∀ k, EvSOK P E ov sites k := by
  intro k
  induction k using Nat.strongRecOn with
  | _ k ih =>
  cases k with
  | zero => exact ⟨fun ss c T st x e1 T1 st1 x1 ob h => by simp [evS] at h, fun ss ops l T st x T1 st1 x1 ob h => by simp [evOpsS] at h, fun f args st x a1 st1 x1 ob h => by simp [evCallS] at h, fun ss ops ids l T st x T1 st1 x1 ob h => by simp [evDrS] at h⟩
  | succ k =>
  have ih0 := ih k (Nat.lt_succ_self _)
  refine ⟨fun ss c T st x e1 T1 st1 x1 ob h hob => ?_, fun ss ops l T st x T1 st1 x1 ob h hob => ?_, fun f args st x a1 st1 x1 ob h hob => ?_, fun ss ops ids l T st x T1 st1 x1 ob h hob listed hl => ?_⟩
  · simp only [evS] at h
    split at h
    · cases h; exact .skip ⟨rfl, rfl, rfl⟩
    · cases h; exact .label ⟨rfl, rfl, rfl⟩
    · cases h; exact .exit ⟨rfl, rfl, rfl⟩
    · cases h; exact .ret ⟨rfl, rfl, rfl⟩
    · rename_i a b
      refine .seq ?_
      split at h
      · rename_i T2 st2 x2 o1 h1
        split at h
        · rename_i e3 T3 st3 x3 o3 h3
          cases h
          obtain ⟨ob1, ob2⟩ := Ob.ok_append.1 hob
          refine (ih0.code _ _ _ _ _ _ _ _ _ _ h1 ob1).mono fun e T' st' he => ?_
          obtain ⟨rfl, rfl, rfl⟩ := he
          exact ih0.code _ _ _ _ _ _ _ _ _ _ h3 ob2
        · cases h
      · rename_i hne
        refine (ih0.code _ _ _ _ _ _ _ _ _ _ h hob).mono fun e T' st' he => ?_
        obtain ⟨rfl, rfl, rfl⟩ := he
        cases e with
        | normal => exact absurd h (hne _ _ _ _)
        | _ => exact ⟨rfl, rfl, rfl⟩
    · split at h
      · rename_i b x2 hc
        split at h
        · rename_i e3 T3 st3 x3 o3 h3
          cases h
          obtain ⟨ob1, ob2⟩ := Ob.ok_cons.1 hob
          exact .cond ob1 (ih0.code _ _ _ _ _ _ _ _ _ _ h3 ob2)
        · cases h
      · split at h
        · rename_i b hc
          exact .cond hc (ih0.code _ _ _ _ _ _ _ _ _ _ h hob)
        · cases h
    · rename_i id c
      refine .block ?_
      split at h
      · rename_i i T2 st2 x2 o2 h1
        split at h
        · rename_i hi
          cases h
          refine (ih0.code _ _ _ _ _ _ _ _ _ _ h1 hob).mono fun e T' st' he => ?_
          obtain ⟨rfl, rfl, rfl⟩ := he
          simp [blockA, hi]
        · rename_i hi
          cases h
          refine (ih0.code _ _ _ _ _ _ _ _ _ _ h1 hob).mono fun e T' st' he => ?_
          obtain ⟨rfl, rfl, rfl⟩ := he
          simp [blockA, hi]
      · rename_i hne
        refine (ih0.code _ _ _ _ _ _ _ _ _ _ h hob).mono fun e T' st' he => ?_
        obtain ⟨rfl, rfl, rfl⟩ := he
        cases e with
        | exit i => exact absurd h (hne _ _ _ _ _)
        | _ => exact ⟨rfl, rfl, rfl⟩
    · rename_i c
      refine .scope ?_
      split at h
      · cases h
      · rename_i hne
        refine (ih0.code _ _ _ _ _ _ _ _ _ _ h hob).mono fun e T' st' he => ?_
        obtain ⟨rfl, rfl, rfl⟩ := he
        refine ⟨fun l hl => ?_, rfl, rfl, rfl⟩
        subst hl
        exact hne _ _ _ _ _ h
    · rename_i c
      refine .loop (fun n T st => n ≤ k + 1 ∧ ∃ x ob, evS P E ov sites n ss (.loop c) T st x = some (e1, T1, st1, x1, ob) ∧ ob.ok) (k + 1) ⟨Nat.le_refl _, x, ob, by simp only [evS]; exact h, hob⟩ fun n T st hI => ?_
      obtain ⟨hn, x', ob', hI, hob'⟩ := hI
      cases n with
      | zero => simp [evS] at hI
      | succ n =>
        have ihn := ih n (by omega)
        simp only [evS] at hI
        split at hI
        · rename_i T2 st2 x2 o2 h1
          split at hI
          · rename_i e3 T3 st3 x3 o3 h3
            cases hI
            obtain ⟨ob1, ob2⟩ := Ob.ok_append.1 hob'
            refine (ihn.code _ _ _ _ _ _ _ _ _ _ h1 ob1).mono fun e T' st' he => ?_
            obtain ⟨rfl, rfl, rfl⟩ := he
            exact ⟨n, Nat.lt_succ_self _, by omega, _, _, h3, ob2⟩
          · cases hI
        · rename_i hne
          refine (ihn.code _ _ _ _ _ _ _ _ _ _ hI hob').mono fun e T' st' he => ?_
          obtain ⟨rfl, rfl, rfl⟩ := he
          cases e with
          | normal => exact absurd hI (hne _ _ _ _)
          | _ => exact ⟨rfl, rfl, rfl⟩
    · rename_i id ops
      split at h
      · rename_i T2 st2 x2 o2 h1
        cases h
        exact .region hE (AOps.mono (fun e T' st' ⟨he, hr⟩ => by subst he; exact ⟨rfl, hr⟩) _ (ih0.ops _ _ _ _ _ _ _ _ _ _ h1 hob))
      · cases h
    · rename_i id ops
      split at h
      · rename_i l hl
        unfold planOf at hl
        simp only [] at hl
        split at hl
        · rename_i hc
          cases hl
          split at h
          · split at h
            · rename_i T2 st2 x2 o2 h1
              cases h
              obtain ⟨ob1, ob2⟩ := Ob.ok_cons.1 hob
              refine .drawn hE hE.mixed hc.2.2 _ _ ?_ (by rw [List.length_map]; exact hc.1) (ADr.mono (fun e T' st' ⟨he, hr⟩ => by subst he; exact ⟨rfl, hr⟩) _ (ih0.dr _ _ _ _ _ _ _ _ _ _ _ h1 ob2 _ hc.2.1))
              rw [List.all_eq_true]
              exact fun i hi => decide_eq_true (ob1 i hi)
            · cases h
          · split at h
            · rename_i T2 st2 x2 o2 h1
              cases h
              refine .drawn hE hE.mixed hc.2.2 _ _ ?_ (by rw [List.length_map]; exact hc.1) (ADr.mono (fun e T' st' ⟨he, hr⟩ => by subst he; exact ⟨rfl, hr⟩) _ (ih0.dr _ _ _ _ _ _ _ _ _ _ _ h1 hob _ hc.2.1))
              simp [List.all_eq_true]
            · cases h
        · cases hl
      · cases h
    · cases h
  · simp only [evOpsS] at h
    split at h
    · cases h; exact ⟨rfl, rfl, rfl⟩
    · rename_i o rest
      split at h
      · rename_i hfit
        simp only [AOps]
        split at h
        · rename_i hw
          simp only [hw]
          split at h
          · rename_i st5 x3 p hskip
            split at h
            · rename_i T3 st3 x3 o3 h3
              cases h
              obtain ⟨ob1, ob2⟩ := Ob.ok_cons.1 hob
              simp only [skipG_ok hskip ob1]
              exact ⟨hfit, ih0.ops _ _ _ _ _ _ _ _ _ _ h3 ob2⟩
            · cases h
          split at h
          · rename_i av st5 x3 p hgive
            split at h
            · rename_i T3 st3 x3 o3 h3
              cases h
              obtain ⟨ob1, ob2⟩ := Ob.ok_cons.1 hob
              simp only [giveA_ok hgive ob1]
              exact ⟨hfit, ih0.ops _ _ _ _ _ _ _ _ _ _ h3 ob2⟩
            · cases h
          split at h
          · rename_i av st' he
            simp only [he]
            split at h
            · rename_i T3 st3 x3 o3 h3
              cases h
              obtain ⟨ob1, ob2⟩ := Ob.ok_append.1 hob
              have := ih0.ops _ _ _ _ _ _ _ _ _ _ h3 ob2
              rw [← tagA_ok ob1] at this
              exact ⟨hfit, this⟩
            · cases h
          · rename_i st' he
            simp only [he]
            exact ⟨hfit, ih0.ops _ _ _ _ _ _ _ _ _ _ h hob⟩
          · rename_i q he
            simp only [he]
            refine ⟨hfit, fun q' hq' => ?_⟩
            obtain rfl := List.mem_singleton.1 hq'
            exact ih0.ops _ _ _ _ _ _ _ _ _ _ h hob
          · cases h
          · rename_i f args he
            simp only [he]
            split at h
            · rename_i a hh x2 hc
              split at h
              · rename_i T3 st3 x3 o3 h3
                cases h
                obtain ⟨ob1, ob2⟩ := Ob.ok_cons.1 hob
                refine ⟨hfit, ob1.mono fun a st'' ha => ?_⟩
                obtain ⟨rfl, rfl⟩ := ha
                exact ih0.ops _ _ _ _ _ _ _ _ _ _ h3 ob2
              · cases h
            split at h
            · rename_i r' st' x2 o2 hc
              split at h
              · rename_i T3 st3 x3 o3 h3
                cases h
                obtain ⟨ob1, ob2⟩ := Ob.ok_append.1 hob
                obtain ⟨ob2, ob3⟩ := Ob.ok_append.1 ob2
                refine ⟨hfit, (ih0.call _ _ _ _ _ _ _ _ hc ob1).mono fun a st'' ha => ?_⟩
                obtain ⟨rfl, rfl⟩ := ha
                have := ih0.ops _ _ _ _ _ _ _ _ _ _ h3 ob3
                rw [← tagA_ok ob2] at this
                exact this
              · cases h
            · cases h
          · cases h
        · rename_i hw
          simp only [hw]
          exact ⟨hfit, ih0.ops _ _ _ _ _ _ _ _ _ _ h hob⟩
        · cases h
      · cases h
  · simp only [evCallS] at h
    split at h
    · rename_i r' st' p ho
      cases h
      exact hov _ _ _ _ _ _ ho (Ob.ok_cons.1 hob).1
    · split at h
      · rename_i fn hfn
        split at h
        · rename_i c hc
          refine .body hE (hE.fn _ _ hfn) hc ?_
          split at h
          · rename_i T2 st2 x2 o2 h1
            obtain ⟨vs, hv, hq⟩ := Option.map_eq_some_iff.1 h
            cases hq
            refine (ih0.code _ _ _ _ _ _ _ _ _ _ h1 hob).mono fun e T' st' he => ?_
            obtain ⟨rfl, rfl, rfl⟩ := he
            exact ⟨vs, hv, rfl, rfl⟩
          · rename_i T2 st2 x2 o2 h1
            obtain ⟨vs, hv, hq⟩ := Option.map_eq_some_iff.1 h
            cases hq
            refine (ih0.code _ _ _ _ _ _ _ _ _ _ h1 hob).mono fun e T' st' he => ?_
            obtain ⟨rfl, rfl, rfl⟩ := he
            exact ⟨vs, hv, rfl, rfl⟩
          · cases h
        · cases h
      · cases h
  · simp only [evDrS] at h
    split at h
    · cases h
      simp only [planOK, beq_iff_eq] at hl
      exact ⟨hl, rfl, rfl, rfl⟩
    · rename_i s rest
      simp only [planOK, Bool.and_eq_true, Bool.or_eq_true, Bool.not_eq_true', beq_iff_eq] at hl
      obtain ⟨⟨⟨hl1, hl2⟩, hl3⟩, hl4⟩ := hl
      split at h
      · cases h
      rename_i o ho
      rcases Bool.eq_false_or_eq_true (T.fits o.dst) with hfit | hfit
      rotate_left
      · rw [hfit] at h; simp at h
      rw [if_pos hfit] at h
      simp only [List.map_cons, ADr, ho]
      refine ⟨hfit, ?_⟩
      have mt : mayTake ops listed s.i = (!effOp o.op && Region.free MD ops listed s.i && (Region.ready MD ops listed).contains s.i && noWait ops listed s.i && !waits o s.i) := by simp only [mayTake, ho]
      have sg : s.single = true → Region.ready MD ops listed = [s.i] := fun hs => by
        rcases hl2 with h1 | h1
        · rw [hs] at h1; cases h1
        · exact h1
      rw [← mt, ← hl1]
      split at h
      · rename_i hw
        split at h
        · rename_i hts
          have hA := ih0.dr _ _ _ _ _ _ _ _ _ _ _ h hob _ hl4
          simp only [hw]
          split
          · exact hA
          · rename_i hc
            refine ⟨sg ?_, hA⟩
            cases hs : s.single with
            | true => rfl
            | false =>
              rw [hs, Bool.or_false] at hts
              exact absurd ⟨hts, by first | exact .inl trivial | simp⟩ hc
        · cases h
      · rename_i hw
        split at h
        · rename_i a' r' p' hh
          split at hh
          · rename_i ht
            split at h
            · rename_i T3 st3 x3 o3 h3
              cases h
              obtain ⟨ob1, ob2⟩ := Ob.ok_cons.1 hob
              have hh' := heldG_ok hh ob1
              have hA := ih0.dr _ _ _ _ _ _ _ _ _ _ _ h3 ob2 _ hl4
              rw [if_pos ⟨ht, .inr ⟨hw, by rw [hh']; rfl⟩⟩]
              simp only [hw, hh']
              exact hA
            · cases h
          · cases hh
        split at h
        · rename_i av hh
          split at hh
          · rename_i ht
            split at h
            · rename_i T3 st3 x3 o3 h3
              cases h
              obtain ⟨ob1, ob2⟩ := Ob.ok_append.1 hob
              have hA := ih0.dr _ _ _ _ _ _ _ _ _ _ _ h3 ob2 _ hl4
              rw [← tagA_ok ob1] at hA
              rw [if_pos ⟨ht, .inr ⟨hw, by rw [hh]; rfl⟩⟩]
              simp only [hw, hh]
              exact hA
            · cases h
          · cases hh
        · rename_i hh
          split at h
          · rename_i a' st'' x3 p' hd
            split at hd
            · rename_i hs1
              split at h
              · rename_i T3 st3 x4 o3 h3
                cases h
                obtain ⟨ob1, ob2⟩ := Ob.ok_cons.1 hob
                obtain ⟨ob2, ob3⟩ := Ob.ok_cons.1 ob2
                have hcond : ¬ (s.take = true ∧ (wantedA ops o T = some false ∨ (wantedA ops o T = some true ∧ (heldA E st ids o.op T).isSome = true))) := by
                  rintro ⟨h1, h2⟩
                  rw [if_pos h1] at hh
                  rw [hw, hh] at h2
                  simp at h2
                rw [if_neg hcond]
                refine ⟨sg hs1, ?_⟩
                rw [← hl3]
                simp only [hw]
                refine ⟨ob1, ?_⟩
                have hK : ADrK s.ph st ids (fun st' => ADr P E ops ids (fun e T' st' => e = .normal ∧ T' = T1 ∧ st' = st1) (rest.map (·.i)) (listed.setIfInBounds s.i true) (T.put o.dst a') st') st'' := by
                  unfold ADrK
                  split
                  · rename_i hp
                    rw [if_pos hp] at h3
                    exact ih0.dr _ _ _ _ _ _ _ _ _ _ _ h3 ob3 _ hl4
                  · rename_i hp
                    rw [if_neg hp] at h3
                    exact ih0.dr _ _ _ _ _ _ _ _ _ _ _ h3 ob3 _ hl4
                rcases drG_ok hd ob2 with he | ⟨he, rfl⟩ | ⟨f, args, he, hc⟩
                · simp only [he]; exact hK
                · simp only [he]; exact hK
                · simp only [he]
                  refine hc.mono fun a st5 ha => ?_
                  obtain ⟨rfl, rfl⟩ := ha
                  exact hK
              · cases h
            · cases hd
          split at h
          · rename_i hsg
            simp only [Bool.and_eq_true, Bool.or_eq_true, Bool.not_eq_true'] at hsg
            have hcond : ¬ (s.take = true ∧ (wantedA ops o T = some false ∨ (wantedA ops o T = some true ∧ (heldA E st ids o.op T).isSome = true))) := by
              rintro ⟨h1, h2⟩
              rw [if_pos h1] at hh
              rw [hw, hh] at h2
              simp at h2
            rw [if_neg hcond]
            refine ⟨sg hsg.1, ?_⟩
            rw [← hl3]
            simp only [hw]
            refine ⟨fun hp => ?_, ?_⟩
            · rcases hsg.2 with h1 | h1
              · rw [hp] at h1; cases h1
              · exact h1
            · have hK : ∀ {av : AV} {st' : St} {x : List Or} {ob : Ob}, evDrS P E ov sites k ss ops ids rest (T.put o.dst av) (if s.ph = true then st'.show st ids else st') x = some (T1, st1, x1, ob) → ob.ok → ADrK s.ph st ids (fun st' => ADr P E ops ids (fun e T' st' => e = .normal ∧ T' = T1 ∧ st' = st1) (rest.map (·.i)) (listed.setIfInBounds s.i true) (T.put o.dst av) st') st' := by
                intro av st' x ob h hob
                unfold ADrK
                split
                · rename_i hp
                  rw [if_pos hp] at h
                  exact ih0.dr _ _ _ _ _ _ _ _ _ _ _ h hob _ hl4
                · rename_i hp
                  rw [if_neg hp] at h
                  exact ih0.dr _ _ _ _ _ _ _ _ _ _ _ h hob _ hl4
              split at h
              · rename_i av st' he
                simp only [he]
                split at h
                · rename_i T3 st3 x3 o3 h3
                  cases h
                  obtain ⟨ob1, ob2⟩ := Ob.ok_append.1 hob
                  have := hK h3 ob2
                  rw [← tagA_ok ob1] at this
                  exact this
                · cases h
              · rename_i st' he
                simp only [he]
                exact hK h hob
              · rename_i f args he
                simp only [he]
                split at h
                · rename_i r' st' x2 o2 hc
                  split at h
                  · rename_i T3 st3 x3 o3 h3
                    cases h
                    obtain ⟨ob1, ob2⟩ := Ob.ok_append.1 hob
                    refine (ih0.call _ _ _ _ _ _ _ _ hc ob1).mono fun a st'' ha => ?_
                    obtain ⟨rfl, rfl⟩ := ha
                    exact hK h3 ob2
                  · cases h
                · cases h
              · cases h
          · cases h
      · cases h
end
section
set_option maxRecDepth 4000

/-! ### other names for the objects: what was shown at one store holds at each that holds it -/
mutual
def ren (ρ : Nat → Nat) : AV → AV
  | .val v => .val v
  | .nilp => .nilp
  | .nilm => .nilm
  | .nilf => .nilf
  | .nili => .nili
  | .ptr id off => .ptr (ρ id) off
  | .iptr cells => .iptr (renL ρ cells)
  | .nils => .nils
  | .sl id sz off len full => .sl (ρ id) sz off len full
  | .imm sz len full cells => .imm sz len full (renL ρ cells)
  | .mp id => .mp (ρ id)
  | .fn f first captured => .fn f (renL ρ first) (renL ρ captured)
  | .agg cells => .agg (renL ρ cells)
  | .tup vs => .tup (renL ρ vs)
  | .ifc t v => .ifc t (ren ρ v)
  | .undef => .undef
def renL (ρ : Nat → Nat) : List AV → List AV
  | [] => []
  | a :: r => ren ρ a :: renL ρ r
end
theorem renL_eq (ρ : Nat → Nat) : ∀ l : List AV, renL ρ l = l.map (ren ρ)
  | [] => by simp [renL]
  | a :: r => by simp [renL, renL_eq ρ r]
@[simp] theorem renL_length (ρ : Nat → Nat) (l : List AV) : (renL ρ l).length = l.length := by rw [renL_eq]; simp
theorem renL_getD (ρ : Nat → Nat) (l : List AV) (i : Nat) : (renL ρ l).getD i .undef = ren ρ (l.getD i .undef) := by
  rw [renL_eq, List.getD_eq_getElem?_getD, List.getD_eq_getElem?_getD, List.getElem?_map]
  cases l[i]? with
  | none => simp [ren]
  | some a => simp
structure GE (g0 g : G) (ρ : Nat → Nat) : Prop where
  lt : ∀ i, i < g0.n ↔ ρ i < g.n
  blk : ∀ i, i < g0.n → g.blk (ρ i) = g0.blk i
  base : ∀ i, i < g0.n → g.base (ρ i) = g0.base i
  siz : ∀ i, i < g0.n → g.siz (ρ i) = g0.siz i
  M : g.M = g0.M
theorem VR.ren {g0 g : G} {ρ : Nat → Nat} (h : GE g0 g ρ) {a : AV} {v : Value} (hv : VR g0 a v) : VR g (ren ρ a) v := by
  induction hv with
  | val v hs => simp only [E.ren]; exact .val v hs
  | nilp => simp only [E.ren]; exact .nilp
  | nilm => simp only [E.ren]; exact .nilm
  | nilf => simp only [E.ren]; exact .nilf
  | nili => simp only [E.ren]; exact .nili
  | ptr id off hi => simp only [E.ren]; rw [← h.blk id hi, ← h.base id hi]; exact .ptr _ off ((h.lt id).1 hi)
  | iptr cells us A hu _ h1 hA ih =>
    simp only [E.ren]
    exact .iptr _ us A (by simpa using hu) (fun i hi => by rw [renL_getD]; exact ih i (by simpa using hi)) h1 (by rw [h.M]; exact hA)
  | nils => simp only [E.ren]; exact .nils
  | sl id sz off len cap full hi hc hl hf hm =>
    simp only [E.ren]
    rw [← h.blk id hi, ← h.base id hi]
    exact .sl _ sz off len cap full ((h.lt id).1 hi) (by rw [h.siz id hi]; exact hc) hl hf hm
  | imm sz len cap full cells us A hn hu _ h1 hA hl hf hm ih =>
    simp only [E.ren]
    exact .imm sz len cap full _ us A (by simpa using hn) (by simpa using hu) (fun i hi => by rw [renL_getD]; exact ih i (by simpa using hi)) h1 (by rw [h.M]; exact hA) hl hf hm
  | mp id hi => simp only [E.ren]; rw [← h.blk id hi]; exact .mp _ ((h.lt id).1 hi)
  | fn f cs ds us vs hu _ hv _ ih1 ih2 =>
    simp only [E.ren]
    exact .fn f _ _ us vs (by simpa using hu) (fun i hi => by rw [renL_getD]; exact ih1 i (by simpa using hi)) (by simpa using hv) (fun i hi => by rw [renL_getD]; exact ih2 i (by simpa using hi))
  | agg cs us hu _ h1 ih => simp only [E.ren]; exact .agg _ us (by simpa using hu) (fun i hi => by rw [renL_getD]; exact ih i (by simpa using hi)) h1
  | tup cs us hu _ ih => simp only [E.ren]; exact .tup _ us (by simpa using hu) (fun i hi => by rw [renL_getD]; exact ih i (by simpa using hi))
  | ifc t a v _ ih => simp only [E.ren]; exact .ifc t _ v ih
  | undef v => simp only [E.ren]; exact .undef v
theorem VR.unren {g0 g : G} {ρ : Nat → Nat} (h : GE g0 g ρ) {b : AV} {v : Value} (hv : VR g b v) : ∀ a, b = E.ren ρ a → VR g0 a v := by
  induction hv with
  | val v hs => intro a e; cases a <;> simp only [E.ren] at e <;> cases e; exact .val v hs
  | nilp => intro a e; cases a <;> simp only [E.ren] at e <;> cases e; exact .nilp
  | nilm => intro a e; cases a <;> simp only [E.ren] at e <;> cases e; exact .nilm
  | nilf => intro a e; cases a <;> simp only [E.ren] at e <;> cases e; exact .nilf
  | nili => intro a e; cases a <;> simp only [E.ren] at e <;> cases e; exact .nili
  | ptr id off hi =>
    intro a e; cases a <;> simp only [E.ren] at e <;> cases e
    rename_i i
    have hi' := (h.lt i).2 hi
    rw [h.blk i hi', h.base i hi']
    exact .ptr i off hi'
  | iptr cells us A hu _ h1 hA ih =>
    intro a e; cases a <;> simp only [E.ren] at e <;> cases e
    exact .iptr _ us A (by simpa using hu) (fun i hi => ih i (by simpa using hi) _ (renL_getD ..)) h1 (by rw [← h.M]; exact hA)
  | nils => intro a e; cases a <;> simp only [E.ren] at e <;> cases e; exact .nils
  | sl id sz off len cap full hi hc hl hf hm =>
    intro a e; cases a <;> simp only [E.ren] at e <;> cases e
    rename_i i
    have hi' := (h.lt i).2 hi
    rw [h.blk i hi', h.base i hi']
    exact .sl i sz off len cap full hi' (by rw [← h.siz i hi']; exact hc) hl hf hm
  | imm sz len cap full cells us A hn hu _ h1 hA hl hf hm ih =>
    intro a e; cases a <;> simp only [E.ren] at e <;> cases e
    exact .imm sz len cap full _ us A (by simpa using hn) (by simpa using hu) (fun i hi => ih i (by simpa using hi) _ (renL_getD ..)) h1 (by rw [← h.M]; exact hA) hl hf hm
  | mp id hi =>
    intro a e; cases a <;> simp only [E.ren] at e <;> cases e
    rename_i i
    have hi' := (h.lt i).2 hi
    rw [h.blk i hi']
    exact .mp i hi'
  | fn f cs ds us vs hu _ hv _ ih1 ih2 =>
    intro a e; cases a <;> simp only [E.ren] at e <;> cases e
    exact .fn f _ _ us vs (by simpa using hu) (fun i hi => ih1 i (by simpa using hi) _ (renL_getD ..)) (by simpa using hv) (fun i hi => ih2 i (by simpa using hi) _ (renL_getD ..))
  | agg cs us hu _ h1 ih =>
    intro a e; cases a <;> simp only [E.ren] at e <;> cases e
    exact .agg _ us (by simpa using hu) (fun i hi => ih i (by simpa using hi) _ (renL_getD ..)) h1
  | tup cs us hu _ ih =>
    intro a e; cases a <;> simp only [E.ren] at e <;> cases e
    exact .tup _ us (by simpa using hu) (fun i hi => ih i (by simpa using hi) _ (renL_getD ..))
  | ifc t b v _ ih =>
    intro a e; cases a <;> simp only [E.ren] at e <;> cases e
    exact .ifc t _ v (ih _ rfl)
  | undef v => intro a e; cases a <;> simp only [E.ren] at e <;> cases e; exact .undef v
theorem VRs.ren {g0 g : G} {ρ : Nat → Nat} (h : GE g0 g ρ) {cs : List AV} {us : List Value} (hv : VRs g0 cs us) : VRs g (renL ρ cs) us :=
  ⟨by simpa using hv.1, fun i hi => by rw [renL_getD]; exact (hv.2 i (by simpa using hi)).ren h⟩
theorem VRs.unren {g0 g : G} {ρ : Nat → Nat} (h : GE g0 g ρ) {cs : List AV} {us : List Value} (hv : VRs g (renL ρ cs) us) : VRs g0 cs us :=
  ⟨by simpa using hv.1, fun i hi => (hv.2 i (by simpa using hi)).unren h _ (renL_getD ..)⟩
def AObj.ren (ρ : Nat → Nat) : AObj → AObj
  | .row vs ty => .row (renL ρ vs) ty
  | .map es bs clock => .map (es.map fun p => (E.ren ρ p.1, E.ren ρ p.2)) bs clock
  | .iter m since seen c0 => .iter (ρ m) since seen c0
  | .siter s pos => .siter s pos
theorem renL_fst (ρ : Nat → Nat) (es : List (AV × AV)) : (es.map fun p => (E.ren ρ p.1, E.ren ρ p.2)).map (·.1) = renL ρ (es.map (·.1)) := by
  rw [renL_eq]; simp
theorem renL_snd (ρ : Nat → Nat) (es : List (AV × AV)) : (es.map fun p => (E.ren ρ p.1, E.ren ρ p.2)).map (·.2) = renL ρ (es.map (·.2)) := by
  rw [renL_eq]; simp
theorem ObjR.ren {g0 g : G} {ρ : Nat → Nat} (h : GE g0 g ρ) {w : World} {id : Nat} (hid : id < g0.n) {o : AObj} (ho : ObjR g0 w id o) : ObjR g w (ρ id) (o.ren ρ) := by
  have e1 := h.blk id hid
  have e2 := h.base id hid
  have e3 := h.siz id hid
  cases o with
  | row vs ty =>
    obtain ⟨cs, fr, us, h1, h2, h3, h4, h5, h6⟩ := ho
    exact ⟨cs, fr, us, by rw [e1]; exact h1, by rw [e2, e3]; exact h2, h3.ren h, h4, by rw [e2]; exact h5, h6⟩
  | map es bs clock =>
    obtain ⟨es', h1, h2, h3, h4, h5, h6⟩ := ho
    exact ⟨es', by rw [e1]; exact h1, by rw [renL_fst]; exact h2.ren h, by rw [renL_snd]; exact h3.ren h, h4, h5, h6⟩
  | iter m since seen c0 =>
    obtain ⟨h1, h2, h3⟩ := ho
    exact ⟨by rw [e1, h.blk m h2]; exact h1, (h.lt m).1 h2, by rw [e2]; exact h3⟩
  | siter s pos =>
    obtain ⟨h1, h2⟩ := ho
    exact ⟨by rw [e1]; exact h1, by rw [e2]; exact h2⟩
theorem ObjR.unren {g0 g : G} {ρ : Nat → Nat} (h : GE g0 g ρ) {w : World} {id : Nat} (hid : id < g0.n) {o : AObj} (ho : ObjR g w (ρ id) (o.ren ρ)) : ObjR g0 w id o := by
  have e1 := h.blk id hid
  have e2 := h.base id hid
  have e3 := h.siz id hid
  cases o with
  | row vs ty =>
    obtain ⟨cs, fr, us, h1, h2, h3, h4, h5, h6⟩ := ho
    exact ⟨cs, fr, us, by rw [← e1]; exact h1, by rw [← e2, ← e3]; exact h2, h3.unren h, h4, by rw [← e2]; exact h5, h6⟩
  | map es bs clock =>
    obtain ⟨es', h1, h2, h3, h4, h5, h6⟩ := ho
    rw [renL_fst] at h2
    rw [renL_snd] at h3
    exact ⟨es', by rw [← e1]; exact h1, h2.unren h, h3.unren h, h4, h5, h6⟩
  | iter m since seen c0 =>
    obtain ⟨h1, h2, h3⟩ := ho
    have hm := (h.lt m).2 h2
    exact ⟨by rw [← e1, ← h.blk m hm]; exact h1, hm, by rw [← e2]; exact h3⟩
  | siter s pos =>
    obtain ⟨h1, h2⟩ := ho
    exact ⟨by rw [← e1]; exact h1, by rw [← e2]; exact h2⟩

/-- a small store that stands in a great one -/
structure Emb (st0 st : St) (ρ : Nat → Nat) : Prop where
  new : ∀ i, st0.next ≤ i → ρ i = st.next + (i - st0.next)
  lt : ∀ i, i < st0.next → ρ i < st.next
  inj : ∀ i j o o', st0.get i = some o → st0.get j = some o' → ρ i = ρ j → i = j
  get : ∀ id o, st0.get id = some o → st.get (ρ id) = some (o.ren ρ)
  wf : ∀ id o, st0.get id = some o → id < st0.next
  lock : ∀ id o, st0.get id = some o → (id ∈ st0.lock ↔ ρ id ∈ st.lock)
  gl : ∀ p ∈ st0.gl, p ∈ st.gl ∧ ∀ a ∈ p.2, ∃ v, a = .val v
/-- new objects, and those that the small store had -/
def St.had (st0 : St) (i : Nat) : Bool := decide (st0.next ≤ i) || (st0.get i).isSome
def hadL (st0 st0' : St) : List Nat := (List.range st0'.next).filter st0.had
theorem mem_hadL {st0 st0' : St} {i : Nat} : i ∈ hadL st0 st0' ↔ i < st0'.next ∧ st0.had i = true := by simp [hadL]
theorem Emb.inj' {st0 st : St} {ρ : Nat → Nat} (h : Emb st0 st ρ) {i j : Nat} (hi : st0.had i = true) (hj : st0.had j = true) (e : ρ i = ρ j) : i = j := by
  have key : ∀ i, st0.had i = true → st0.next ≤ i ∨ (i < st0.next ∧ ∃ o, st0.get i = some o) := fun i hi => by
    rcases Nat.lt_or_ge i st0.next with h1 | h1
    · right
      simp only [St.had, Bool.or_eq_true, decide_eq_true_eq] at hi
      rcases hi with h2 | h2
      · omega
      · exact ⟨h1, Option.isSome_iff_exists.1 h2⟩
    · exact .inl h1
  rcases key i hi with h1 | ⟨h1, o, ho⟩ <;> rcases key j hj with h2 | ⟨h2, o', ho'⟩
  · have := h.new i h1; have := h.new j h2; omega
  · have := h.new i h1; have := h.lt j h2; omega
  · have := h.new j h2; have := h.lt i h1; omega
  · exact h.inj i j o o' ho ho' e
theorem St.had_of {st0 : St} {i : Nat} {o : AObj} (h : st0.get i = some o) : st0.had i = true := by simp [St.had, h]
def mergeSt (st0' st st0 : St) (ρ : Nat → Nat) : St :=
  { next := st.next + (st0'.next - st0.next), objs := (hadL st0 st0').foldl (fun t i => Tr.put (ρ i + 1) t (ρ i) ((st0'.get i).map (AObj.ren ρ))) st.objs, lock := st.lock, gl := st.gl }
theorem fold_get (ρ : Nat → Nat) (f : Nat → Option AObj) : ∀ (l : List Nat) (t : Tr AObj) (k : Nat), (∀ i ∈ l, ∀ j ∈ l, ρ i = ρ j → i = j) →
    ((∀ i ∈ l, ρ i ≠ k) → (l.foldl (fun t i => Tr.put (ρ i + 1) t (ρ i) (f i)) t).get k = t.get k) ∧ (∀ i ∈ l, ρ i = k → (l.foldl (fun t i => Tr.put (ρ i + 1) t (ρ i) (f i)) t).get k = f i)
  | [], t, k, _ => ⟨fun _ => rfl, fun i hi => by cases hi⟩
  | a :: l, t, k, hinj => by
    have ih := fold_get ρ f l (Tr.put (ρ a + 1) t (ρ a) (f a)) k (fun i hi j hj => hinj i (List.mem_cons_of_mem _ hi) j (List.mem_cons_of_mem _ hj))
    simp only [List.foldl_cons]
    refine ⟨fun h => ?_, fun i hi e => ?_⟩
    · rw [ih.1 fun i hi => h i (List.mem_cons_of_mem _ hi), Tr.get_put _ _ _ _ _ (Nat.lt_succ_self _), if_neg (fun e => h a (List.mem_cons_self ..) e.symm)]
    · by_cases hl : ∃ j ∈ l, ρ j = k
      · obtain ⟨j, hj, ej⟩ := hl
        have : i = j := hinj i hi j (List.mem_cons_of_mem _ hj) (e.trans ej.symm)
        subst this
        exact ih.2 i hj ej
      · have hne : ∀ j ∈ l, ρ j ≠ k := fun j hj ej => hl ⟨j, hj, ej⟩
        rw [ih.1 hne, Tr.get_put _ _ _ _ _ (Nat.lt_succ_self _)]
        rcases List.mem_cons.1 hi with rfl | hi
        · rw [if_pos e.symm]
        · exact absurd e (hne i hi)
theorem merge_in {st0 st st0' : St} {ρ : Nat → Nat} (h : Emb st0 st ρ) {i : Nat} (hi : i < st0'.next) (hh : st0.had i = true) : (mergeSt st0' st st0 ρ).get (ρ i) = (st0'.get i).map (AObj.ren ρ) :=
  (fold_get ρ _ _ st.objs (ρ i) (fun _ hi _ hj e => h.inj' (mem_hadL.1 hi).2 (mem_hadL.1 hj).2 e)).2 i (mem_hadL.2 ⟨hi, hh⟩) rfl
theorem merge_out {st0 st st0' : St} {ρ : Nat → Nat} (h : Emb st0 st ρ) {k : Nat} (hk : ∀ i, i < st0'.next → st0.had i = true → ρ i ≠ k) : (mergeSt st0' st st0 ρ).get k = st.get k :=
  (fold_get ρ _ _ st.objs k (fun _ hi _ hj e => h.inj' (mem_hadL.1 hi).2 (mem_hadL.1 hj).2 e)).1 fun i hi => hk i (mem_hadL.1 hi).1 (mem_hadL.1 hi).2
theorem merge_cases {st0 st st0' : St} {ρ : Nat → Nat} (h : Emb st0 st ρ) {k : Nat} {o : AObj} (hk : (mergeSt st0' st st0 ρ).get k = some o) :
    (∃ i o0, i < st0'.next ∧ ρ i = k ∧ st0'.get i = some o0 ∧ o = o0.ren ρ) ∨ (st.get k = some o ∧ ∀ i, i < st0'.next → st0.had i = true → ρ i ≠ k) := by
  by_cases hx : ∃ i, i < st0'.next ∧ st0.had i = true ∧ ρ i = k
  · obtain ⟨i, hi, hh, rfl⟩ := hx
    rw [merge_in h hi hh] at hk
    obtain ⟨o0, h1, h2⟩ := Option.map_eq_some_iff.1 hk
    exact .inl ⟨i, o0, hi, rfl, h1, h2.symm⟩
  · have hne : ∀ i, i < st0'.next → st0.had i = true → ρ i ≠ k := fun i hi hh e => hx ⟨i, hi, hh, e⟩
    rw [merge_out h hne] at hk
    exact .inr ⟨hk, hne⟩
/-- the small store's ghost -/
def subG (g : G) (n0 : Nat) (ρ : Nat → Nat) : G := { n := n0, blk := fun i => g.blk (ρ i), base := fun i => g.base (ρ i), siz := fun i => g.siz (ρ i), M := g.M }
theorem subG_ge {g : G} {st0 st : St} {ρ : Nat → Nat} (h : Emb st0 st ρ) (hn : g.n = st.next) : GE (subG g st0.next ρ) g ρ := {
  lt i := by
    simp only [subG, hn]
    constructor
    · exact h.lt i
    · intro hi
      rcases Nat.lt_or_ge i st0.next with h1 | h1
      · exact h1
      · have := h.new i h1; omega
  blk _ _ := rfl
  base _ _ := rfl
  siz _ _ := rfl
  M := rfl }
theorem renL_vals (ρ : Nat → Nat) : ∀ (l : List AV), (∀ a ∈ l, ∃ v, a = .val v) → renL ρ l = l
  | [], _ => by simp [renL]
  | a :: r, h => by
    obtain ⟨v, rfl⟩ := h a (List.mem_cons_self ..)
    simp only [renL, E.ren]
    rw [renL_vals ρ r fun b hb => h b (List.mem_cons_of_mem _ hb)]
theorem glob_sub {g0 g : G} {ρ : Nat → Nat} (h : GE g0 g ρ) {p : Nat × List AV} (hp : ∀ a ∈ p.2, ∃ v, a = .val v) {v : Value} (hv : VR g (.iptr p.2) v) : VR g0 (.iptr p.2) v := by
  refine hv.unren h _ ?_
  simp only [E.ren]
  rw [renL_vals ρ _ hp]
theorem OK.small {g : G} {st0 st : St} {ρ : Nat → Nat} {w : World} (h : OK g st w) (hE : Emb st0 st ρ) : OK (subG g st0.next ρ) st0 w := by
  have hge := subG_ge hE h.n
  refine ⟨h.imm, fun id o ho => ⟨hE.wf id o ho, ?_⟩, fun id o id' o' h1 h2 e => hE.inj' (St.had_of h1) (St.had_of h2) (h.inj _ _ _ _ (hE.get _ _ h1) (hE.get _ _ h2) e), fun id o ho => h.sep _ _ (hE.get id o ho), rfl, fun p hp => glob_sub hge (hE.gl p hp).2 (h.glob p (hE.gl p hp).1)⟩
  exact ObjR.unren hge (hE.wf id o ho) (h.obj _ _ (hE.get id o ho)).2
/-- the great store's ghost behind it -/
def supG (g g0' : G) (n0 : Nat) : G :=
  { n := g.n + (g0'.n - n0), blk := fun k => if k < g.n then g.blk k else g0'.blk (n0 + (k - g.n)), base := fun k => if k < g.n then g.base k else g0'.base (n0 + (k - g.n)), siz := fun k => if k < g.n then g.siz k else g0'.siz (n0 + (k - g.n)), M := g0'.M }
theorem supG_ge {g g0' : G} {st0 st : St} {ρ : Nat → Nat} (h : Emb st0 st ρ) (hn : g.n = st.next) (hle : (subG g st0.next ρ).le g0') : GE g0' (supG g g0' st0.next) ρ := by
  have hn0 : st0.next ≤ g0'.n := hle.n
  have key : ∀ i, i < g0'.n → (i < st0.next ∧ ρ i < g.n) ∨ (st0.next ≤ i ∧ ¬ ρ i < g.n ∧ st0.next + (ρ i - g.n) = i) := fun i hi => by
    rcases Nat.lt_or_ge i st0.next with h1 | h1
    · exact .inl ⟨h1, by rw [hn]; exact h.lt i h1⟩
    · have := h.new i h1
      exact .inr ⟨h1, by omega, by omega⟩
  refine ⟨fun i => ?_, fun i hi => ?_, fun i hi => ?_, fun i hi => ?_, rfl⟩
  · simp only [supG]
    constructor
    · intro hi
      rcases key i hi with ⟨h1, h2⟩ | ⟨h1, h2, h3⟩ <;> omega
    · intro hi
      rcases Nat.lt_or_ge i st0.next with h1 | h1
      · omega
      · have := h.new i h1; omega
  · simp only [supG]
    rcases key i hi with ⟨h1, h2⟩ | ⟨h1, h2, h3⟩
    · rw [if_pos h2]; exact (hle.blk i h1).symm
    · rw [if_neg h2, h3]
  · simp only [supG]
    rcases key i hi with ⟨h1, h2⟩ | ⟨h1, h2, h3⟩
    · rw [if_pos h2]; exact (hle.base i h1).symm
    · rw [if_neg h2, h3]
  · simp only [supG]
    rcases key i hi with ⟨h1, h2⟩ | ⟨h1, h2, h3⟩
    · rw [if_pos h2]; exact (hle.siz i h1).symm
    · rw [if_neg h2, h3]
theorem supG_le {g g0' : G} {n0 : Nat} {ρ : Nat → Nat} (hle : (subG g n0 ρ).le g0') : g.le (supG g g0' n0) :=
  ⟨Nat.le_add_right _ _, fun id hi => by simp only [supG]; rw [if_pos hi], fun id hi => by simp only [supG]; rw [if_pos hi], fun id hi => by simp only [supG]; rw [if_pos hi], fun b => hle.M b⟩
/-- A step of the small store is one of the great one. -/
theorem Step.great {g : G} {st0 st : St} {ρ : Nat → Nat} {w : World} (h : OK g st w) (hE : Emb st0 st ρ) {g0' : G} {st0' : St} {w' : World} (k : Step (subG g st0.next ρ) st0 w g0' st0' w') :
    Step g st w (supG g g0' st0.next) (mergeSt st0' st st0 ρ) w' := by
  have hge := supG_ge hE h.n k.le
  have hle := supG_le k.le
  have hn' : g0'.n = st0'.next := k.ok.n
  have hn0 : st0.next ≤ st0'.next := by rw [← hn']; exact k.le.n
  have wg : ∀ id o, st0.wget id = some o → st.wget (ρ id) = some (o.ren ρ) := fun id o ho => by
    obtain ⟨h1, h2⟩ := St.wget_get ho
    exact St.wget_of (hE.get id o h1) fun hl => h2 ((hE.lock id o h1).2 hl)
  -- a block that the great store's untouched objects have
  have apart : ∀ {k' : Nat} {o : AObj}, st.get k' = some o → (∀ i, i < st0'.next → st0.had i = true → ρ i ≠ k') → ∀ id o', st0.wget id = some o' → (subG g st0.next ρ).blk id ≠ g.blk k' := fun {k' o} hk hne id o' ho e => by
    have h1 := (St.wget_get ho).1
    have := h.inj _ _ _ _ (hE.get id o' h1) hk e
    exact hne id (Nat.lt_of_lt_of_le (hE.wf id o' h1) hn0) (by simp [St.had, h1]) this
  have blkOut : ∀ {k' : Nat} {o : AObj}, st.get k' = some o → (supG g g0' st0.next).blk k' = g.blk k' := fun {k' o} hk => hle.blk k' (h.lt hk).1
  have blkIn : ∀ {i : Nat}, i < st0'.next → (supG g g0' st0.next).blk (ρ i) = g0'.blk i := fun {i} hi => hge.blk i (by rw [hn']; exact hi)
  -- no new object of the small store shares a block with an untouched one
  have mixed : ∀ {i k' : Nat} {o o0 : AObj}, st0'.get i = some o0 → st.get k' = some o → (∀ i, i < st0'.next → st0.had i = true → ρ i ≠ k') → g0'.blk i ≠ g.blk k' := fun {i k' o o0} h1 h2 hne e => by
    obtain ⟨id0, o1, q1, q2, _⟩ := k.from_ i o0 h1 (by rw [e]; exact (h.lt h2).2)
    have := h.inj _ _ _ _ (hE.get id0 o1 q1) h2 (q2.trans e)
    exact hne id0 (Nat.lt_of_lt_of_le (hE.wf id0 o1 q1) hn0) (by simp [St.had, q1]) this
  refine ⟨hle, ⟨k.ok.imm, fun id o ho => ?_, fun id o id' o' h1 h2 e => ?_, fun id o ho => ?_, ?_, fun p hp => (h.glob p hp).mono hle⟩, k.os, k.tape, k.output, k.size, fun b hb hn => ?_, fun id o ho hlt => ?_, fun b hb hn => ?_, rfl, rfl⟩
  · rcases merge_cases hE ho with ⟨i, o0, hi, rfl, h1, rfl⟩ | ⟨h1, hne⟩
    · refine ⟨?_, ObjR.ren hge (by rw [hn']; exact hi) (k.ok.obj i o0 h1).2⟩
      have := (hge.lt i).1 (by rw [hn']; exact hi)
      simp only [supG, hn', h.n] at this
      exact this
    · obtain ⟨h2, h3⟩ := h.obj id o h1
      refine ⟨Nat.lt_of_lt_of_le h2 (Nat.le_add_right _ _), h3.keep hle (h.lt h1).1 (k.frame _ (h.lt h1).2 (apart h1 hne))⟩
  · rcases merge_cases hE h1 with ⟨i, o0, hi, rfl, q1, rfl⟩ | ⟨q1, hne⟩ <;> rcases merge_cases hE h2 with ⟨j, o2, hj, rfl, q2, rfl⟩ | ⟨q2, hne2⟩
    · rw [blkIn hi, blkIn hj] at e
      rw [k.ok.inj _ _ _ _ q1 q2 e]
    · rw [blkIn hi, blkOut q2] at e
      exact absurd e (mixed q1 q2 hne2)
    · rw [blkOut q1, blkIn hj] at e
      exact absurd e.symm (mixed q2 q1 hne)
    · rw [blkOut q1, blkOut q2] at e
      exact h.inj _ _ _ _ q1 q2 e
  · rcases merge_cases hE ho with ⟨i, o0, hi, rfl, h1, rfl⟩ | ⟨h1, hne⟩
    · rw [blkIn hi]; exact k.ok.sep i o0 h1
    · rw [blkOut h1]
      have := k.froz _ (h.lt h1).2 (apart h1 hne)
      exact this.trans (h.sep id o h1)
  · simp only [supG, mergeSt, h.n, hn']
  · exact k.frame b hb fun id o ho => hn _ _ (wg id o ho)
  · rcases merge_cases hE ho with ⟨i, o0, hi, rfl, h1, rfl⟩ | ⟨h1, hne⟩
    · rw [blkIn hi] at hlt ⊢
      obtain ⟨id0, o1, q1, q2, q3⟩ := k.from_ i o0 h1 hlt
      refine ⟨ρ id0, o1.ren ρ, hE.get id0 o1 q1, q2, fun hl => ?_⟩
      obtain ⟨rfl, rfl⟩ := q3 ((hE.lock id0 o1 q1).2 hl)
      exact ⟨rfl, rfl⟩
    · exact ⟨id, o, h1, (blkOut h1).symm, fun _ => ⟨rfl, rfl⟩⟩
  · exact k.froz b hb fun id o ho => hn _ _ (wg id o ho)
/-- frames -/
def renT (ρ : Nat → Nat) (T0 : Tm) (gl : List (Nat × List AV)) : Tm := { n := T0.n, l := T0.l.map fun p => (p.1, ren ρ p.2), gl := gl }
theorem look_ren (ρ : Nat → Nat) : ∀ (l : List (Nat × AV)) (t : Nat), look (l.map fun p => (p.1, ren ρ p.2)) t = ren ρ (look l t)
  | [], t => by simp [look, ren]
  | (u, v) :: r, t => by
    simp only [List.map_cons, look]
    split
    · rfl
    · exact look_ren ρ r t
theorem renT_get (ρ : Nat → Nat) (T0 : Tm) (gl : List (Nat × List AV)) (t : Nat) : (renT ρ T0 gl).get t = ren ρ (T0.get t) := look_ren ρ T0.l t
section
variable {P : Program}
theorem AW.frame {c : Code} {Q0 : Exit → Tm → St → Prop} {T0 T : Tm} {st0 st : St} {ρ : Nat → Nat} (h : AW P c Q0 T0 st0) (hE : Emb st0 st ρ) (hn : T.n = T0.n) (hT : ∀ t, T0.get t = .undef ∨ T.get t = ren ρ (T0.get t))
    (hgl : ∀ p ∈ T0.gl, p ∈ T.gl ∧ ∀ a ∈ p.2, ∃ v, a = .val v) :
    AW P c (fun e T' st' => ∃ T0' st0', Q0 e T0' st0' ∧ T' = renT ρ T0' T.gl ∧ st' = mergeSt st0' st st0 ρ ∧ st0.next ≤ st0'.next ∧ st0'.wf) T st := by
  intro g w a hok hTR
  have hge := subG_ge hE hok.n
  have hTR0 : TR (subG g st0.next ρ) T0 a := ⟨hTR.size.trans hn, fun t => by
      rcases hT t with e | e
      · rw [e]; exact .undef _
      · exact (hTR.get t).unren hge _ e, hTR.defers, fun p hp => glob_sub hge (hgl p hp).2 (hTR.glob p (hgl p hp).1)⟩
  refine wp_mono (h _ w a (hok.small hE) hTR0) fun e a' w' k => ?_
  obtain ⟨g0', T0', st0', k1, k2, k3⟩ := k
  have hst := k1.great hok hE
  have hge' := supG_ge hE hok.n k1.le
  refine ⟨_, renT ρ T0' T.gl, _, hst, ⟨k2.size, fun t => by rw [renT_get]; exact (k2.get t).ren hge', k2.defers, fun p hp => (hTR.glob p hp).mono hst.le⟩, T0', st0', k3, rfl, rfl, ?_, fun id o ho => (k1.ok.obj id o ho).1⟩
  rw [← k1.ok.n]; exact k1.le.n
theorem ACalls.frame {f : Nat} {args0 : List AV} {Q0 : AV → St → Prop} {st0 st : St} {ρ : Nat → Nat} (h : ACalls P f args0 Q0 st0) (hE : Emb st0 st ρ) :
    ACalls P f (renL ρ args0) (fun r st' => ∃ r0 st0', Q0 r0 st0' ∧ r = ren ρ r0 ∧ st' = mergeSt st0' st st0 ρ ∧ st0.next ≤ st0'.next ∧ st0'.wf) st := by
  intro g w us hok hv
  have hge := subG_ge hE hok.n
  refine (h _ w us (hok.small hE) (hv.unren hge)).mono fun e w' k => ?_
  obtain ⟨g0', st0', r, v, h1, k1, k2, k3⟩ := k
  have hst := k1.great hok hE
  have hge' := supG_ge hE hok.n k1.le
  refine ⟨_, _, ren ρ r, v, h1, hst, k2.ren hge', r, st0', k3, rfl, rfl, ?_, fun id o ho => (k1.ok.obj id o ho).1⟩
  rw [← k1.ok.n]; exact k1.le.n
end
end
section
set_option maxRecDepth 4000

/-! ### code that leaves the store as it is -/
structure Same (st st' : St) : Prop where
  get : ∀ k o, st.get k = some o → st'.get k = some o
  next : st'.next = st.next
  lock : st'.lock = st.lock
  gl : st'.gl = st.gl
theorem Same.refl (st : St) : Same st st := ⟨fun _ _ h => h, rfl, rfl, rfl⟩
theorem Same.trans {a b c : St} (h : Same a b) (k : Same b c) : Same a c := ⟨fun i o ho => k.get i o (h.get i o ho), k.next.trans h.next, k.lock.trans h.lock, k.gl.trans h.gl⟩
theorem merge_same {st0 st : St} {ρ : Nat → Nat} (h : Emb st0 st ρ) : Same st (mergeSt st0 st st0 ρ) := by
  refine ⟨fun k o ho => ?_, by simp [mergeSt], rfl, rfl⟩
  by_cases hx : ∃ i, i < st0.next ∧ st0.had i = true ∧ ρ i = k
  · obtain ⟨i, hi, hh, rfl⟩ := hx
    rw [merge_in h hi hh]
    have : ∃ o0, st0.get i = some o0 := by
      simp only [St.had, Bool.or_eq_true, decide_eq_true_eq] at hh
      rcases hh with h1 | h1
      · omega
      · exact Option.isSome_iff_exists.1 h1
    obtain ⟨o0, h0⟩ := this
    have := h.get i o0 h0
    rw [ho] at this
    cases this
    rw [h0]; rfl
  · rw [merge_out h fun i hi hh e => hx ⟨i, hi, hh, e⟩]
    exact ho
theorem AW.same {P : Program} {E : Env} (hE : EOK' P E) {ov : OvP} {sites : Nat → List Nat} (hov : ∀ f args st r st' p, ov f args st = some (r, st', p) → p → ACalls P f args (fun a s => a = r ∧ s = st') st) {k : Nat} {ss : List Nat} {c : Code} {T0 T1 T : Tm} {st0 st : St} {x x1 : List Or} {e1 : Exit} {ob : Ob}
    (h : evS P E ov sites k ss c T0 st0 x = some (e1, T1, st0, x1, ob)) (hob : ob.ok) {ρ : Nat → Nat} (hEm : Emb st0 st ρ) (hn : T.n = T0.n) (hT : ∀ t, T0.get t = .undef ∨ T.get t = ren ρ (T0.get t)) (hgl : T0.gl = []) :
    AW P c (fun e' T' st' => e' = e1 ∧ T' = renT ρ T1 T.gl ∧ Same st st') T st := by
  have hc := (evS_ok hE hov k).code _ _ _ _ _ _ _ _ _ _ h hob
  refine (hc.frame hEm hn hT (fun p hp => by rw [hgl] at hp; cases hp)).mono fun e' T' st' hpost => ?_
  obtain ⟨T0', st0', ⟨rfl, rfl, rfl⟩, rfl, rfl, _, _⟩ := hpost
  exact ⟨rfl, rfl, merge_same hEm⟩
/-- a call that leaves the store as it is may be said to leave the very store -/
theorem ACalls.very {P : Program} {f : Nat} {args : List AV} {r : AV} {st : St} (h : ACalls P f args (fun a st' => a = r ∧ Same st st') st) : ACalls P f args (fun a st' => a = r ∧ st' = st) st :=
  h.forget fun _ _ ⟨h1, h2⟩ _ => ⟨st, ⟨h1, rfl⟩, h2.get, h2.next.symm, h2.lock.symm, h2.gl.symm⟩
end
section
set_option maxRecDepth 4000

/-! ### a row that nobody writes any more may be frozen: slices of it become values -/
mutual
def frz (id : Nat) (vs : List AV) : AV → AV
  | .val v => .val v
  | .nilp => .nilp
  | .nilm => .nilm
  | .nilf => .nilf
  | .nili => .nili
  | .ptr i off => .ptr i off
  | .iptr cells => .iptr (frzL id vs cells)
  | .nils => .nils
  | .sl i sz off len full => if i = id then (if off + len * sz ≤ vs.length then .imm sz len full ((vs.drop off).take (len * sz)) else .undef) else .sl i sz off len full
  | .imm sz len full cells => .imm sz len full (frzL id vs cells)
  | .mp i => .mp i
  | .fn f first captured => .fn f (frzL id vs first) (frzL id vs captured)
  | .agg cells => .agg (frzL id vs cells)
  | .tup l => .tup (frzL id vs l)
  | .ifc t v => .ifc t (frz id vs v)
  | .undef => .undef
def frzL (id : Nat) (vs : List AV) : List AV → List AV
  | [] => []
  | a :: r => frz id vs a :: frzL id vs r
end
theorem frzL_eq (id : Nat) (vs : List AV) : ∀ l : List AV, frzL id vs l = l.map (frz id vs)
  | [] => by simp [frzL]
  | a :: r => by simp [frzL, frzL_eq id vs r]
@[simp] theorem frzL_length (id : Nat) (vs : List AV) (l : List AV) : (frzL id vs l).length = l.length := by rw [frzL_eq]; simp
theorem frzL_getD (id : Nat) (vs : List AV) (l : List AV) (i : Nat) : (frzL id vs l).getD i .undef = frz id vs (l.getD i .undef) := by
  rw [frzL_eq, List.getD_eq_getElem?_getD, List.getD_eq_getElem?_getD, List.getElem?_map]
  cases l[i]? with
  | none => simp [frz]
  | some a => simp
/-- the ghost in which the row is frozen -/
structure FG (g g2 : G) (id : Nat) (vs : List AV) (us : List Value) (cs : List Value) : Prop where
  le : g.le g2
  M : g2.M (g.blk id) = cs
  pre : us <+: cs.drop (g.base id)
  vs : VRs g vs us
  one : ∀ u ∈ us, u.oneCell' = true
theorem drop_take_prefix {us cs : List Value} {b off n : Nat} (h : us <+: cs.drop b) : (us.drop off).take n <+: cs.drop (b + off) := by
  obtain ⟨t, ht⟩ := h
  rw [← List.drop_drop, ← ht, List.drop_append]
  exact (List.take_prefix n (us.drop off)).trans (List.prefix_append _ _)
theorem VR.frz {g g2 : G} {id : Nat} {vs : List AV} {us cs : List Value} (h : FG g g2 id vs us cs) {a : AV} {v : Value} (hv : VR g a v) : VR g2 (frz id vs a) v := by
  induction hv with
  | val v hs => simp only [E.frz]; exact .val v hs
  | nilp => simp only [E.frz]; exact .nilp
  | nilm => simp only [E.frz]; exact .nilm
  | nilf => simp only [E.frz]; exact .nilf
  | nili => simp only [E.frz]; exact .nili
  | ptr i off hi => simp only [E.frz]; exact (VR.ptr i off hi).mono h.le
  | iptr cells us' A hu _ h1 hA ih =>
    simp only [E.frz]
    exact .iptr _ us' A (by simpa using hu) (fun i hi => by rw [frzL_getD]; exact ih i (by simpa using hi)) h1 ⟨hA.1, h.le.pre hA.2⟩
  | nils => simp only [E.frz]; exact .nils
  | sl i sz off len cap full hi hc hl hf hm =>
    simp only [E.frz]
    split
    · rename_i he
      subst he
      split
      · rename_i hle
        have hlen : ((vs.drop off).take (len * sz)).length = len * sz := by simp; omega
        have hlu : us.length = vs.length := h.vs.1
        refine .imm sz len cap full _ ((us.drop off).take (len * sz)) _ hlen (by simp; omega) (fun k hk => ?_) (fun u hu => h.one u (List.mem_of_mem_drop (List.mem_of_mem_take hu))) (fun _ => ⟨rfl, ?_⟩) hl hf hm
        · have hk' : k < len * sz := by omega
          have := h.vs.2 (off + k) (by omega)
          rw [List.getD_eq_getElem?_getD, List.getD_eq_getElem?_getD] at this ⊢
          rw [List.getElem?_take, if_pos hk', List.getElem?_take, if_pos hk', List.getElem?_drop, List.getElem?_drop]
          exact this.mono h.le
        · rw [h.M]; exact drop_take_prefix h.pre
      · exact .undef _
    · exact (VR.sl i sz off len cap full hi hc hl hf hm).mono h.le
  | imm sz len cap full cells us' A hn hu _ h1 hA hl hf hm ih =>
    simp only [E.frz]
    exact .imm sz len cap full _ us' A (by simpa using hn) (by simpa using hu) (fun i hi => by rw [frzL_getD]; exact ih i (by simpa using hi)) h1 (fun h0 => ⟨(hA h0).1, h.le.pre (hA h0).2⟩) hl hf hm
  | mp i hi => simp only [E.frz]; exact (VR.mp i hi).mono h.le
  | fn f as ds us' vs' hu _ hv' _ ih1 ih2 =>
    simp only [E.frz]
    exact .fn f _ _ us' vs' (by simpa using hu) (fun i hi => by rw [frzL_getD]; exact ih1 i (by simpa using hi)) (by simpa using hv') (fun i hi => by rw [frzL_getD]; exact ih2 i (by simpa using hi))
  | agg as us' hu _ h1 ih => simp only [E.frz]; exact .agg _ us' (by simpa using hu) (fun i hi => by rw [frzL_getD]; exact ih i (by simpa using hi)) h1
  | tup as us' hu _ ih => simp only [E.frz]; exact .tup _ us' (by simpa using hu) (fun i hi => by rw [frzL_getD]; exact ih i (by simpa using hi))
  | ifc t a v _ ih => simp only [E.frz]; exact .ifc t _ v ih
  | undef v => simp only [E.frz]; exact .undef v
theorem VRs.frz {g g2 : G} {id : Nat} {vs : List AV} {us cs : List Value} (h : FG g g2 id vs us cs) {l : List AV} {u : List Value} (hv : VRs g l u) : VRs g2 (frzL id vs l) u :=
  ⟨by simpa using hv.1, fun i hi => by rw [frzL_getD]; exact (hv.2 i (by simpa using hi)).frz h⟩
def frzO (id : Nat) (vs : List AV) : AObj → AObj
  | .row l ty => .row (frzL id vs l) ty
  | .map es bs clock => .map (es.map fun p => (frz id vs p.1, frz id vs p.2)) bs clock
  | .iter m since seen c0 => .iter m since seen c0
  | .siter s pos => .siter s pos
structure Frozen (id : Nat) (vs : List AV) (st st2 : St) : Prop where
  get : ∀ i, st2.get i = if i = id then none else (st.get i).map (frzO id vs)
  next : st2.next = st.next
  lock : st2.lock = st.lock
  gl : st2.gl = st.gl
theorem frzL_fst (id : Nat) (vs : List AV) (es : List (AV × AV)) : (es.map fun p => (frz id vs p.1, frz id vs p.2)).map (·.1) = frzL id vs (es.map (·.1)) := by
  rw [frzL_eq]; simp
theorem frzL_snd (id : Nat) (vs : List AV) (es : List (AV × AV)) : (es.map fun p => (frz id vs p.1, frz id vs p.2)).map (·.2) = frzL id vs (es.map (·.2)) := by
  rw [frzL_eq]; simp
theorem ObjR.frz {g g2 : G} {w : World} {id : Nat} {vs : List AV} {us cs : List Value} (h : FG g g2 id vs us cs) {i : Nat} (hi : i < g.n) {o : AObj} (ho : ObjR g w i o) : ObjR g2 w i (frzO id vs o) := by
  cases o with
  | row l ty =>
    obtain ⟨c, fr, u, h1, h2, h3, h4, h5, h6⟩ := ho
    exact ⟨c, fr, u, by rw [h.le.blk i hi]; exact h1, by rw [h.le.base i hi, h.le.siz i hi]; exact h2, h3.frz h, h4, by rw [h.le.base i hi]; exact h5, h6⟩
  | map es bs clock =>
    obtain ⟨es', h1, h2, h3, h4, h5, h6⟩ := ho
    exact ⟨es', by rw [h.le.blk i hi]; exact h1, by rw [frzL_fst]; exact h2.frz h, by rw [frzL_snd]; exact h3.frz h, h4, h5, h6⟩
  | iter m since seen c0 =>
    obtain ⟨h1, h2, h3⟩ := ho
    exact ⟨by rw [h.le.blk i hi, h.le.blk m h2]; exact h1, Nat.lt_of_lt_of_le h2 h.le.n, by rw [h.le.base i hi]; exact h3⟩
  | siter s pos =>
    obtain ⟨h1, h2⟩ := ho
    exact ⟨by rw [h.le.blk i hi]; exact h1, by rw [h.le.base i hi]; exact h2⟩
/-- the ghost's step -/
theorem freeze_step {g : G} {st st2 : St} {w : World} (hok : OK g st w) {id : Nat} {vs : List AV} {ty : Nat} (hg : st.get id = some (.row vs ty)) (hl : st.lock = []) (hF : Frozen id vs st st2) :
    ∃ g2, Step g st w g2 st2 w ∧ ∀ a v, VR g a v → VR g2 (frz id vs a) v := by
  obtain ⟨hlt, c, fr, us, h1, h2, h3, h4, h5, h6⟩ := hok.obj id _ hg
  have hn : id < g.n := by rw [hok.n]; exact hlt
  have h0 := hok.sep id _ hg
  let g2 : G := { n := g.n, blk := g.blk, base := g.base, siz := g.siz, M := fun b => if b = g.blk id then c.toList else g.M b }
  have le : g.le g2 := ⟨Nat.le_refl _, fun _ _ => rfl, fun _ _ => rfl, fun _ _ => rfl, fun b => by
    show g.M b <+: if b = g.blk id then c.toList else g.M b
    split
    · rename_i e; rw [e, h0]; exact List.nil_prefix
    · exact List.prefix_refl _⟩
  have hFG : FG g g2 id vs us c.toList := ⟨le, by show (if g.blk id = g.blk id then _ else _) = _; rw [if_pos rfl], h5, h3, h4⟩
  have back : ∀ i o, st2.get i = some o → i ≠ id ∧ ∃ o0, st.get i = some o0 ∧ o = frzO id vs o0 := fun i o ho => by
    rw [hF.get] at ho
    split at ho
    · cases ho
    · rename_i hne
      obtain ⟨o0, h7, h8⟩ := Option.map_eq_some_iff.1 ho
      exact ⟨hne, o0, h7, h8.symm⟩
  refine ⟨g2, ⟨le, ⟨fun b hb => ?_, fun i o ho => ?_, fun i o j o' hi hj he => ?_, fun i o ho => ?_, hok.n.trans hF.next.symm, fun p hp => (hok.glob p (by rw [← hF.gl]; exact hp)).mono le⟩, rfl, rfl, rfl, Nat.le_refl _, fun _ _ _ => rfl, fun i o ho hlt' => ?_, fun b hb hn' => ?_, hF.lock, hF.gl⟩, fun a v hv => hv.frz hFG⟩
  · by_cases e : b = g.blk id
    · subst e
      exact ⟨c, ty, fr, h1, by rw [hFG.M]; exact List.prefix_refl _⟩
    · have : g2.M b = g.M b := by show (if b = g.blk id then _ else _) = _; rw [if_neg e]
      rw [this] at hb ⊢
      exact hok.imm b hb
  · obtain ⟨hne, o0, h7, rfl⟩ := back i o ho
    have := hok.obj i o0 h7
    exact ⟨by rw [hF.next]; exact this.1, ObjR.frz hFG (by rw [hok.n]; exact this.1) this.2⟩
  · obtain ⟨_, o0, h7, _⟩ := back i o hi
    obtain ⟨_, o1, h8, _⟩ := back j o' hj
    exact hok.inj i o0 j o1 h7 h8 he
  · obtain ⟨hne, o0, h7, _⟩ := back i o ho
    show (if g.blk i = g.blk id then _ else _) = _
    rw [if_neg fun e => hne (hok.inj i o0 id _ h7 hg e)]
    exact hok.sep i o0 h7
  · obtain ⟨hne, o0, h7, _⟩ := back i o ho
    exact ⟨i, o0, h7, rfl, fun hc => by rw [hl] at hc; cases hc⟩
  · show (if b = g.blk id then _ else _) = _
    rw [if_neg fun e => hn' id _ (St.wget_of hg (by rw [hl]; simp)) e.symm]
def frzT (id : Nat) (vs : List AV) (T : Tm) : Tm := { n := T.n, l := T.l.map fun p => (p.1, frz id vs p.2), gl := T.gl }
theorem look_frz (id : Nat) (vs : List AV) : ∀ (l : List (Nat × AV)) (t : Nat), look (l.map fun p => (p.1, frz id vs p.2)) t = frz id vs (look l t)
  | [], t => by simp [look, frz]
  | (u, v) :: r, t => by
    simp only [List.map_cons, look]
    split
    · rfl
    · exact look_frz id vs r t
theorem frzT_get (id : Nat) (vs : List AV) (T : Tm) (t : Nat) : (frzT id vs T).get t = frz id vs (T.get t) := look_frz id vs T.l t
/-- such a store -/
def frzSt (id : Nat) (vs : List AV) (st : St) : St :=
  { st with objs := (List.range st.next).foldl (fun t i => Tr.put (i + 1) t i (if i = id then none else (st.get i).map (frzO id vs))) .nil }
theorem frzSt_ok {id : Nat} {vs : List AV} {st : St} (hw : st.wf) : Frozen id vs st (frzSt id vs st) := by
  refine ⟨fun k => ?_, rfl, rfl, rfl⟩
  have h := fold_get (fun i => i) (fun i => if i = id then none else (st.get i).map (frzO id vs)) (List.range st.next) .nil k (fun _ _ _ _ e => e)
  show Tr.get _ k = _
  rcases Nat.lt_or_ge k st.next with hk | hk
  · exact h.2 k (List.mem_range.2 hk) rfl
  · have e := h.1 fun i hi e => by have := List.mem_range.1 hi; omega
    refine e.trans ?_
    have : st.get k = none := by
      cases hg : st.get k with
      | none => rfl
      | some o => have := hw k o hg; omega
    rw [this]
    simp [Tr.get]
/-- behind code, a row may be frozen -/
theorem AW.freeze {P : Program} {c : Code} {Q Q' : Exit → Tm → St → Prop} {T : Tm} {st : St} (h : AW P c Q T st)
    (hq : ∀ e T' st', Q e T' st' → st'.lock = st.lock → st'.wf → ∃ id vs ty, st'.get id = some (.row vs ty) ∧ st'.lock = [] ∧ Q' e (frzT id vs T') (frzSt id vs st')) : AW P c Q' T st := by
  intro g w a hok hT
  refine wp_mono (h g w a hok hT) fun e a' w' k => ?_
  obtain ⟨g', T', st', k1, k2, k3⟩ := k
  have hwf : st'.wf := fun id o ho => (k1.ok.obj id o ho).1
  obtain ⟨id, vs, ty, hg, hl, hq'⟩ := hq e T' st' k3 k1.lock hwf
  obtain ⟨g2, hs, hv⟩ := freeze_step k1.ok hg hl (frzSt_ok hwf)
  exact ⟨g2, frzT id vs T', frzSt id vs st', k1.trans hs, ⟨k2.size, fun t => by rw [frzT_get]; exact hv _ _ (k2.get t), k2.defers, fun p hp => (k2.glob p hp).mono hs.le⟩, hq'⟩
/-- behind a call -/
theorem ACalls.freeze {P : Program} {f : Nat} {args : List AV} {Q Q' : AV → St → Prop} {st : St} (h : ACalls P f args Q st)
    (hq : ∀ a st', Q a st' → st'.lock = st.lock → st'.wf → ∃ id vs ty, st'.get id = some (.row vs ty) ∧ st'.lock = [] ∧ Q' (frz id vs a) (frzSt id vs st')) : ACalls P f args Q' st :=
  fun g w us hok hv => (h g w us hok hv).mono fun e w' ⟨g', st', r, v, h1, k1, h3, k3⟩ => by
    have hwf : st'.wf := fun id o ho => (k1.ok.obj id o ho).1
    obtain ⟨id, vs, ty, hg, hl, hq'⟩ := hq r st' k3 k1.lock hwf
    obtain ⟨g2, hs, hv2⟩ := freeze_step k1.ok hg hl (frzSt_ok hwf)
    exact ⟨g2, frzSt id vs st', frz id vs r, v, h1, k1.trans hs, hv2 _ _ h3, hq'⟩
end
section
set_option maxRecDepth 4000
/-! ### runs at any store -/
theorem TR.temps {g : G} {T T0 : Tm} {a : Act} (h : TR g T a) (hn : T.n = T0.n) (hT : ∀ t, T0.get t = .undef ∨ T.get t = T0.get t) (hgl : T0.gl = []) : TR g T0 a :=
  ⟨h.size.trans hn, fun t => by
    rcases hT t with e | e
    · rw [e]; exact .undef _
    · rw [← e]; exact h.get t, h.defers, fun p hp => by rw [hgl] at hp; cases hp⟩
theorem AW.temps {P : Program} {c : Code} {Q : Exit → Tm → St → Prop} {T0 T : Tm} {st : St} (h : AW P c Q T0 st) (hn : T.n = T0.n) (hT : ∀ t, T0.get t = .undef ∨ T.get t = T0.get t) (hgl : T0.gl = []) : AW P c Q T st :=
  fun g w a hok hTR => h g w a hok (hTR.temps hn hT hgl)
theorem look_or (T : Tm) : ∀ (l : List (Nat × AV)), (∀ p ∈ l, T.get p.1 = p.2) → ∀ t, look l t = .undef ∨ T.get t = look l t
  | [], _, t => .inl rfl
  | (u, v) :: r, h, t => by
    simp only [look]
    by_cases hu : u = t
    · subst hu; rw [if_pos rfl]; exact .inr (h (u, v) (List.mem_cons_self ..))
    · rw [if_neg hu]; exact look_or T r (fun q hq => h q (List.mem_cons_of_mem _ hq)) t
/-- a piece of code, run from a few temporaries -/
theorem AW.run {P : Program} {E : Env} (hE : EOK' P E) {ov : OvP} {sites : Nat → List Nat} (hov : ∀ f args st r st' p, ov f args st = some (r, st', p) → p → ACalls P f args (fun a s => a = r ∧ s = st') st) {k : Nat} {ss : List Nat} {c : Code} {n : Nat} {l : List (Nat × AV)} {T T1 : Tm} {st st1 : St} {x x1 : List Or} {e1 : Exit} {ob : Ob}
    (h : evS P E ov sites k ss c ⟨n, l, []⟩ st x = some (e1, T1, st1, x1, ob)) (hob : ob.ok) (hn : T.n = n) (hT : ∀ p ∈ l, T.get p.1 = p.2) :
    AW P c (fun e' T' st' => e' = e1 ∧ T' = T1 ∧ st' = st1) T st :=
  ((evS_ok hE hov k).code _ _ _ _ _ _ _ _ _ _ h hob).temps hn (look_or T l hT) rfl
theorem ACalls.run {P : Program} {E : Env} (hE : EOK' P E) {ov : OvP} {sites : Nat → List Nat} (hov : ∀ f args st r st' p, ov f args st = some (r, st', p) → p → ACalls P f args (fun a s => a = r ∧ s = st') st) {k f : Nat} {args : List AV} {st st1 : St} {x x1 : List Or} {a1 : AV} {ob : Ob}
    (h : evCallS P E ov sites k f args st x = some (a1, st1, x1, ob)) (hob : ob.ok) : ACalls P f args (fun a st' => a = a1 ∧ st' = st1) st :=
  (evS_ok hE hov k).call _ _ _ _ _ _ _ _ h hob
theorem noOv_ok {P : Program} : ∀ f args st r st' p, (fun (_ : Nat) (_ : List AV) (_ : St) => (none : Option (AV × St × Prop))) f args st = some (r, st', p) → p → ACalls P f args (fun a s => a = r ∧ s = st') st := fun f args st r st' p h => by cases h
end
section
set_option maxRecDepth 4000
/-! ### runs of pieces -/
theorem gen_run {P : Program} {E : Env} (hE : EOK' P E) {c : Code} {ss : List Nat} {sites : Nat → List Nat} {n0 : Nat} {l : List (Nat × AV)} {st st1 : St} {x : List Or} {e : Exit} {n : Nat} {F : List AV} {ob : Ob} {G : Tm → List AV} (h : ((evS P E (fun _ _ _ => none) sites 100000 ss c ⟨n0, l, []⟩ st x).map fun q => (q.1, q.2.1.n, G q.2.1, q.2.2.1, q.2.2.2.2)) = some (e, n, F, st1, ob)) (hob : ob.ok) {T : Tm} (hn : T.n = n0) (hT : ∀ p ∈ l, T.get p.1 = p.2) :
    AW P c (fun e' T' st' => e' = e ∧ T'.n = n ∧ G T' = F ∧ st' = st1) T st := by
  obtain ⟨⟨e1, T1, s1, x1, o1⟩, h1, h2⟩ := Option.map_eq_some_iff.1 h
  simp only [Prod.mk.injEq] at h2
  obtain ⟨rfl, h3, h4, rfl, rfl⟩ := h2
  exact (AW.run hE noOv_ok h1 hob hn hT).mono fun e T' st' ⟨q1, q2, q3⟩ => ⟨q1, by rw [q2, h3], by rw [q2, h4], q3⟩
end
section
set_option maxRecDepth 4000
/-! ### laws of the operations -/
section
variable {E : Env} {t : Nat} {k : IntKind} {a b : Int}
theorem lssA : binA E .lss t (.val (.int k a)) (.val (.int k b)) = some (.val (.bool (decide (a < b)))) := by cases k <;> rfl
theorem leqA : binA E .leq t (.val (.int k a)) (.val (.int k b)) = some (.val (.bool (decide (a ≤ b)))) := by cases k <;> rfl
theorem gtrA : binA E .gtr t (.val (.int k a)) (.val (.int k b)) = some (.val (.bool (decide (b < a)))) := by cases k <;> rfl
theorem geqA : binA E .geq t (.val (.int k a)) (.val (.int k b)) = some (.val (.bool (decide (b ≤ a)))) := by cases k <;> rfl
theorem eqlA : binA E .eql t (.val (.int k a)) (.val (.int k b)) = some (.val (.bool (a == b))) := by cases k <;> rfl
theorem neqA : binA E .neq t (.val (.int k a)) (.val (.int k b)) = some (.val (.bool (!(a == b)))) := by cases k <;> rfl
theorem lssT (h : a < b) : binA E .lss t (.val (.int k a)) (.val (.int k b)) = some (.val (.bool true)) := by
  rw [lssA]; rw [decide_eq_true h]
theorem lssF (h : ¬ a < b) : binA E .lss t (.val (.int k a)) (.val (.int k b)) = some (.val (.bool false)) := by
  rw [lssA]; rw [decide_eq_false h]
theorem leqT (h : a ≤ b) : binA E .leq t (.val (.int k a)) (.val (.int k b)) = some (.val (.bool true)) := by
  rw [leqA]; rw [decide_eq_true h]
theorem leqF (h : ¬ a ≤ b) : binA E .leq t (.val (.int k a)) (.val (.int k b)) = some (.val (.bool false)) := by
  rw [leqA]; rw [decide_eq_false h]
theorem gtrT (h : b < a) : binA E .gtr t (.val (.int k a)) (.val (.int k b)) = some (.val (.bool true)) := by
  rw [gtrA]; rw [decide_eq_true h]
theorem gtrF (h : ¬ b < a) : binA E .gtr t (.val (.int k a)) (.val (.int k b)) = some (.val (.bool false)) := by
  rw [gtrA]; rw [decide_eq_false h]
theorem geqT (h : b ≤ a) : binA E .geq t (.val (.int k a)) (.val (.int k b)) = some (.val (.bool true)) := by
  rw [geqA]; rw [decide_eq_true h]
theorem geqF (h : ¬ b ≤ a) : binA E .geq t (.val (.int k a)) (.val (.int k b)) = some (.val (.bool false)) := by
  rw [geqA]; rw [decide_eq_false h]
theorem eqlT (h : a = b) : binA E .eql t (.val (.int k a)) (.val (.int k b)) = some (.val (.bool true)) := by
  rw [eqlA]; rw [beq_iff_eq.2 h]
theorem eqlF (h : a ≠ b) : binA E .eql t (.val (.int k a)) (.val (.int k b)) = some (.val (.bool false)) := by
  rw [eqlA]; rw [beq_eq_false_iff_ne.2 h]
theorem neqT (h : a ≠ b) : binA E .neq t (.val (.int k a)) (.val (.int k b)) = some (.val (.bool true)) := by
  rw [neqA]; rw [beq_eq_false_iff_ne.2 h]; rfl
theorem neqF (h : a = b) : binA E .neq t (.val (.int k a)) (.val (.int k b)) = some (.val (.bool false)) := by
  rw [neqA]; rw [beq_iff_eq.2 h]; rfl
theorem addI : binA E .add t (.val (.int k a)) (.val (.int k b)) = some (.val (.int k (k.wrap (a + b)))) := by cases k <;> rfl
theorem subI : binA E .sub t (.val (.int k a)) (.val (.int k b)) = some (.val (.int k (k.wrap (a - b)))) := by cases k <;> rfl
theorem mulI : binA E .mul t (.val (.int k a)) (.val (.int k b)) = some (.val (.int k (k.wrap (a * b)))) := by cases k <;> rfl
theorem add64 (h : -9223372036854775808 ≤ a + b ∧ a + b ≤ 9223372036854775807) : binA E .add t (.val (.int .i64 a)) (.val (.int .i64 b)) = some (.val (.int .i64 (a + b))) := by
  rw [addI, IntWalk.i64_in _ (by omega)]
theorem sub64 (h : -9223372036854775808 ≤ a - b ∧ a - b ≤ 9223372036854775807) : binA E .sub t (.val (.int .i64 a)) (.val (.int .i64 b)) = some (.val (.int .i64 (a - b))) := by
  rw [subI, IntWalk.i64_in _ (by omega)]
theorem mul64 (h : -9223372036854775808 ≤ a * b ∧ a * b ≤ 9223372036854775807) : binA E .mul t (.val (.int .i64 a)) (.val (.int .i64 b)) = some (.val (.int .i64 (a * b))) := by
  rw [mulI, IntWalk.i64_in _ (by omega)]
variable {x y : ByteArray}
theorem eqSA : binA E .eql t (.val (.string x)) (.val (.string y)) = some (.val (.bool (x.toList == y.toList))) := rfl
theorem eqST (h : x = y) : binA E .eql t (.val (.string x)) (.val (.string y)) = some (.val (.bool true)) := by rw [eqSA, h, beq_self_eq_true]
theorem eqSF (h : x ≠ y) : binA E .eql t (.val (.string x)) (.val (.string y)) = some (.val (.bool false)) := by
  rw [eqSA, beq_eq_false_iff_ne.2 fun e => h (by rw [ByteArray.toList_eq, ByteArray.toList_eq] at e; cases x with | mk p => cases y with | mk q => rw [show p = q from Array.toList_inj.1 e])]
theorem neSA : binA E .neq t (.val (.string x)) (.val (.string y)) = some (.val (.bool (!(x.toList == y.toList)))) := rfl
theorem neSF (h : x = y) : binA E .neq t (.val (.string x)) (.val (.string y)) = some (.val (.bool false)) := by rw [neSA, h, beq_self_eq_true]; rfl
theorem neST (h : x ≠ y) : binA E .neq t (.val (.string x)) (.val (.string y)) = some (.val (.bool true)) := by
  rw [neSA, beq_eq_false_iff_ne.2 fun e => h (by rw [ByteArray.toList_eq, ByteArray.toList_eq] at e; cases x with | mk p => cases y with | mk q => rw [show p = q from Array.toList_inj.1 e])]; rfl
end
/-! ### pieces, one behind the other -/
theorem AW.andThen {P : Program} {a b : Code} {Q : Exit → Tm → St → Prop} {L : Tm → Prop} {T : Tm} {st s : St} (h : AW P a (fun ex T' st' => ex = .normal ∧ L T' ∧ st' = s) T st) (k : ∀ T', L T' → AW P b Q T' s) : AW P (.seq a b) Q T st :=
  .seq (h.mono fun ex T' st' ⟨h1, h2, h3⟩ => by
    subst h1; subst h3
    exact k T' h2)
theorem AW.atRet {P : Program} {a : Code} {Q : Exit → Tm → St → Prop} {L : Tm → Prop} {T : Tm} {st s : St} (h : AW P a (fun ex T' st' => ex = .ret ∧ L T' ∧ st' = s) T st) (k : ∀ T', L T' → Q .ret T' s) : AW P a Q T st :=
  h.mono fun ex T' st' ⟨h1, h2, h3⟩ => by
    subst h1; subst h3
    exact k T' h2
theorem AW.retThen {P : Program} {a b : Code} {Q : Exit → Tm → St → Prop} {L : Tm → Prop} {T : Tm} {st s : St} (h : AW P a (fun ex T' st' => ex = .ret ∧ L T' ∧ st' = s) T st) (k : ∀ T', L T' → Q .ret T' s) : AW P (.seq a b) Q T st :=
  .seq (h.mono fun ex T' st' ⟨h1, h2, h3⟩ => by
    subst h1; subst h3
    exact k T' h2)
theorem AW.turns {P : Program} {body : Code} {id : Nat} {In : Nat → Tm → Prop} {L : Tm → Prop} {c : Nat → St} {n : Nat} {T : Tm} {st sf : St} (h0 : st = c 0) (hT : In 0 T)
    (turn : ∀ i, i < n → ∀ T, In i T → AW P body (fun ex T' st' => ex = .normal ∧ In (i + 1) T' ∧ st' = c (i + 1)) T (c i))
    (fin : ∀ T, In n T → AW P body (fun ex T' st' => ex = .exit id ∧ L T' ∧ st' = sf) T (c n)) :
    AW P (.block id (.loop body)) (fun ex T' st' => ex = .normal ∧ L T' ∧ st' = sf) T st := by
  subst h0
  refine .block ((AW.loop (fun m T st' => ∃ i : Nat, i ≤ n ∧ m = n - i ∧ st' = c i ∧ In i T) (Q := fun ex T' st' => ex = .exit id ∧ L T' ∧ st' = sf) n ⟨0, by omega, rfl, rfl, hT⟩ fun m T st' hI => ?_).mono fun ex T' st' ⟨h1, h2, h3⟩ => ?_)
  · obtain ⟨i, hi, rfl, rfl, hin⟩ := hI
    by_cases hlt : i < n
    · refine (turn i hlt T hin).mono fun ex T' st2 ⟨he, hin', hst⟩ => ?_
      subst he
      exact ⟨n - (i + 1), by omega, i + 1, by omega, rfl, hst, hin'⟩
    · obtain rfl : i = n := by omega
      refine (fin T hin).mono fun ex T' st2 ⟨he, hL, hst⟩ => ?_
      subst he
      exact ⟨rfl, hL, hst⟩
  · subst h1
    simp only [blockA, if_true]
    exact ⟨trivial, h2, h3⟩
end
section
set_option maxRecDepth 4000
variable {H : Type}
/-- the cells of what is read, as the machine has them -/
def absF (F : TypeId → DataW H → List AV) : List Field → List (DataW H) → List AV
  | f :: fs, d :: ds => F f.type d ++ absF F fs ds
  | _, _ => []
def absC (P : Program) : Nat → TypeId → DataW H → List AV
  | 0, _, _ => []
  | m + 1, t, d => match P.underlying t, d with
    | some .bool, .lit (.bool b) => [.val (.bool b)]
    | some (.int _), .lit (.int k n) => [.val (.int k n)]
    | some .string, .lit (.string bs) => [.val (.string ⟨bs.toArray⟩)]
    | some (.slice _), .nil => [.nils]
    | some (.slice e), .slice l _ => [.imm (P.cellsOf e) l.length false (l.flatMap (absC P m e))]
    | some (.struct fs), .agg ds => absF (absC P m) fs.toList ds
    | some (.array _ e), .agg ds => ds.flatMap (absC P m e)
    | _, _ => []
def contig (P : Program) (tot : Nat) : Nat → List Field → Bool
  | off, [] => off == tot
  | off, f :: fs => f.offset == off && contig P tot (off + P.cellsOf f.type) fs
def goodT (P : Program) : Nat → TypeId → Bool
  | 0, _ => false
  | m + 1, t => match P.underlying t with
    | some .bool => true
    | some (.int _) => true
    | some .string => true
    | some (.slice e) => goodT P m e
    | some (.struct fs) => contig P (P.cellsOf t) 0 fs.toList && fs.toList.all (fun f => goodT P m f.type)
    | some (.array n e) => P.cellsOf t == n * P.cellsOf e && goodT P m e
    | _ => false
def gW (W : World) : G := { n := 0, blk := fun _ => 0, base := fun _ => 0, siz := fun _ => 0, M := fun b => match W.heap[b]? with | some (.cells cs _ _) => cs.toList | _ => [] }
theorem okW (W : World) : OK (gW W) ⟨0, .nil, [], []⟩ W :=
  ⟨fun b h => by
      unfold gW at h ⊢
      simp only at h ⊢
      split at h
      · rename_i cs T fr hb; exact ⟨cs, T, fr, hb, List.prefix_refl _⟩
      · exact absurd rfl h,
    fun id o h => by simp [St.get, Tr.get] at h, fun id o _ _ h => by simp [St.get, Tr.get] at h, fun id o h => by simp [St.get, Tr.get] at h, rfl, fun p hp => by cases hp⟩

theorem cells_get {W : World} {a : Addr} : ∀ {n : Nat} {cs : List Value}, W.cells? 0 a n = some cs → cs.length = n ∧ ∀ i, i < n → W.cell? (a.add i) = cs[i]? := by
  intro n cs h
  unfold World.cells? at h
  rw [if_pos (Nat.zero_le _)] at h
  exact ⟨by simpa using mapM_some_length h, fun i hi => by simpa using mapM_some_get h i i (by simp [hi])⟩
theorem add_none (b o n : Nat) : (Addr.add ⟨b, o, none⟩ n) = ⟨b, o + n, none⟩ := by
  unfold Addr.add
  split
  · rename_i h; subst h; rfl
  · rfl
theorem cells_mem {W : World} {a : Addr} {n : Nat} {cs : List Value} (h : W.cells? 0 a n = some cs) (hn : n ≠ 0) : a.spot = none ∧ cs = (((gW W).M a.block).drop a.off).take n := by
  obtain ⟨h1, h2⟩ := cells_get h
  obtain ⟨b, o, sp⟩ := a
  have h0 := h2 0 (by omega)
  have hc : ∃ c T fr, W.heap[b]? = some (.cells c T fr) ∧ sp = none := by
    unfold World.cell? at h0
    rw [List.getElem?_eq_getElem (by omega)] at h0
    split at h0
    · rename_i c T fr hb
      refine ⟨c, T, fr, by simpa [Addr.add] using hb, ?_⟩
      split at h0
      · cases h0
      · rename_i hs
        simpa [Addr.add] using hs
    · cases h0
  obtain ⟨c, T, fr, hb, rfl⟩ := hc
  refine ⟨rfl, ?_⟩
  have hM : (gW W).M b = c.toList := by simp only [gW, hb]
  simp only [hM]
  have each : ∀ i, i < n → cs[i]? = c[o + i]? := fun i hi => by
    rw [← h2 i hi]
    rw [add_none]
    unfold World.cell?
    simp [hb]
  apply List.ext_getElem?
  intro i
  by_cases hi : i < n
  · rw [each i hi, List.getElem?_take, if_pos hi, List.getElem?_drop]
    simp
  · rw [List.getElem?_eq_none (by omega), List.getElem?_take, if_neg hi]

/-- elements, one behind the other -/
theorem lift_chunks {g : G} {us : List Value} {sz : Nat} {f : Nat → List AV} : ∀ (n : Nat), n * sz ≤ us.length → (∀ i, i < n → VRs g (f i) ((us.drop (i * sz)).take sz)) → VRs g ((List.range n).flatMap f) (us.take (n * sz))
  | 0, _, _ => by simpa using VRs.nil g
  | n + 1, hl, h => by
    rw [List.range_succ, List.flatMap_append]
    have h1 := lift_chunks n (by rw [Nat.add_mul] at hl; omega) fun i hi => h i (by omega)
    have h2 := h n (by omega)
    have e : us.take ((n + 1) * sz) = us.take (n * sz) ++ (us.drop (n * sz)).take sz := by
      rw [show (n + 1) * sz = n * sz + sz by rw [Nat.add_mul, Nat.one_mul], List.take_add]
    rw [e]
    exact h1.append (by simpa using h2)
theorem lift {enc : TypeId × Value → H} {P : Program} {W : World} {spare : Nat → Bool} {held : Bool} : ∀ (m : Nat) (t : TypeId), goodT P m t = true → ∀ (fuel : Nat) (cs : List Value) (x : DataW H × List MemPlace), cs.length = P.cellsOf t →
    DataW.trod enc P W 0 spare held fuel t cs = some x → VRs (gW W) (absC P m t x.1) cs ∧ ∀ u ∈ cs, u.oneCell' = true
  | 0, t, h, _, _, _, _, _ => by simp [goodT] at h
  | m + 1, t, hg, fuel, cs, x, hlen, h => by
    have one : ∀ {a : AV} {u : Value}, VR (gW W) a u → u.oneCell' = true → VRs (gW W) [a] [u] ∧ ∀ v ∈ [u], v.oneCell' = true := fun h1 h2 => ⟨.cons h1 (.nil _), by simpa using h2⟩
    simp only [goodT] at hg
    split at hg
    · rename_i hu
      obtain ⟨b, rfl, rfl⟩ := DataW.trod_bool hu h
      simp only [absC, hu]
      exact one (.val _ rfl) rfl
    · rename_i hu
      obtain ⟨n, rfl, rfl, hw⟩ := DataW.trod_int hu h
      simp only [absC, hu]
      exact one (.val _ rfl) rfl
    · rename_i hu
      obtain ⟨b, rfl, rfl, hw⟩ := DataW.trod_string hu h
      simp only [absC, hu]
      exact one (.val _ rfl) rfl
    · rename_i e hu
      rcases DataW.trod_slice hu h with ⟨rfl, rfl⟩ | ⟨a, len, cap, elems, rest, n, _, rfl, rfl, _, hlc, hcm, hel, hat, _, _⟩
      · simp only [absC, hu]
        exact one .nils rfl
      · simp only [absC, hu]
        refine one ?_ rfl
        rw [List.length_map, hel]
        have each : ∀ i, i < len → ∃ (y : DataW H × List MemPlace) (ci : List Value), elems[i]? = some y ∧ W.cells? 0 (a.add (i * P.cellsOf e)) (P.cellsOf e) = some ci ∧ VRs (gW W) (absC P m e y.1) ci ∧ ∀ u ∈ ci, u.oneCell' = true := fun i hi => by
          have h1 := hat i hi
          rw [List.getElem?_eq_getElem (by omega)] at h1
          obtain ⟨ci, k1, k2⟩ := Option.bind_eq_some_iff.1 h1
          obtain ⟨h3, h4⟩ := lift m e hg n ci _ (cells_get k1).1 k2
          exact ⟨_, ci, List.getElem?_eq_getElem (by omega), k1, h3, h4⟩
        by_cases hz : len * P.cellsOf e = 0
        · have hnil : (List.map (fun x => x.fst) elems).flatMap (absC P m e) = [] := by
            rw [List.flatMap_eq_nil_iff]
            intro d hd
            obtain ⟨y, hy, rfl⟩ := List.mem_map.1 hd
            obtain ⟨i, hi, rfl⟩ := List.mem_iff_getElem.1 hy
            obtain ⟨y', ci, q1, q2, q3, q4⟩ := each i (by omega)
            rw [List.getElem?_eq_getElem hi] at q1
            cases q1
            have : P.cellsOf e = 0 := by
              rcases Nat.mul_eq_zero.1 hz with h0 | h0
              · omega
              · exact h0
            have hl := (cells_get q2).1
            rw [this] at hl
            have hc0 : ci = [] := List.eq_nil_of_length_eq_zero hl
            have := q3.1
            rw [hc0] at this
            exact List.eq_nil_of_length_eq_zero this.symm
          rw [hnil]
          exact .imm _ len cap false [] [] a (by simp [hz]) rfl (fun i hi => by simp at hi) (by simp) (fun h => absurd hz h) hlc (fun h => by cases h) hcm
        · have hpos : 0 < P.cellsOf e := Nat.pos_of_ne_zero fun h0 => hz (by simp [h0])
          have hlen0 : 0 < len := Nat.pos_of_ne_zero fun h0 => hz (by simp [h0])
          obtain ⟨b, o, sp⟩ := a
          obtain ⟨_, ci0, _, q0, _, _⟩ := each 0 hlen0
          have hsp : sp = none := by
            have := (cells_mem q0 (by omega)).1
            simpa [Addr.add] using this
          subst hsp
          have mem : ∀ i, i < len → ∃ ci, W.cells? 0 (Addr.add ⟨b, o, none⟩ (i * P.cellsOf e)) (P.cellsOf e) = some ci ∧ ci = ((((gW W).M b).drop o).drop (i * P.cellsOf e)).take (P.cellsOf e) := fun i hi => by
            obtain ⟨y, ci, q1, q2, q3, q4⟩ := each i hi
            obtain ⟨k1, k2⟩ := cells_mem q2 (by omega)
            refine ⟨ci, q2, ?_⟩
            rw [add_none] at k2
            rw [List.drop_drop]
            exact k2
          have hsz : len * P.cellsOf e ≤ (((gW W).M b).drop o).length := by
            obtain ⟨ci, k1, k3⟩ := mem (len - 1) (by omega)
            have hl := (cells_get k1).1
            rw [k3, List.length_take, List.length_drop] at hl
            have : (len - 1) * P.cellsOf e + P.cellsOf e = len * P.cellsOf e := by
              rw [← Nat.succ_mul]; congr 1; omega
            omega
          have hch := lift_chunks (g := gW W) (us := ((gW W).M b).drop o) (sz := P.cellsOf e) (f := fun i => absC P m e ((elems.map (·.1)).getD i .nil)) len hsz fun i hi => by
            obtain ⟨y, ci, q1, q2, q3, q4⟩ := each i hi
            obtain ⟨ci', k1, k3⟩ := mem i hi
            rw [k1] at q2
            cases q2
            rw [← k3]
            have : (elems.map (·.1)).getD i .nil = y.1 := by rw [List.getD_eq_getElem?_getD, List.getElem?_map, q1]; rfl
            rw [this]
            exact q3
          have hfm : (List.range len).flatMap (fun i => absC P m e ((elems.map (·.1)).getD i .nil)) = (elems.map (·.1)).flatMap (absC P m e) := by
            have : elems.map (·.1) = (List.range len).map (fun i => (elems.map (·.1)).getD i .nil) := by
              apply List.ext_getElem?
              intro i
              by_cases hi : i < len
              · rw [List.getElem?_map, List.getElem?_map, List.getElem?_range hi]
                simp [List.getD_eq_getElem?_getD, List.getElem?_eq_getElem (show i < elems.length by omega)]
              · rw [List.getElem?_eq_none (by simp; omega), List.getElem?_eq_none (by simp; omega)]
            conv => rhs; rw [this]
            rw [List.flatMap_map]
          rw [hfm] at hch
          have hul : ((((gW W).M b).drop o).take (len * P.cellsOf e)).length = len * P.cellsOf e := by rw [List.length_take]; omega
          refine .imm _ len cap false _ ((((gW W).M b).drop o).take (len * P.cellsOf e)) ⟨b, o, none⟩ ?_ hch.1 hch.2 ?_ (fun _ => ⟨rfl, List.take_prefix _ _⟩) hlc (fun h => by cases h) hcm
          · rw [← hch.1, hul]
          · intro u hu
            obtain ⟨k, hk, rfl⟩ := List.mem_iff_getElem.1 hu
            rw [hul] at hk
            have hki : k / P.cellsOf e < len := Nat.div_lt_of_lt_mul (by rw [Nat.mul_comm]; exact hk)
            obtain ⟨y, ci, q1, q2, q3, q4⟩ := each (k / P.cellsOf e) hki
            obtain ⟨ci', k1, k3⟩ := mem (k / P.cellsOf e) hki
            rw [k1] at q2
            cases q2
            refine q4 _ (List.mem_of_getElem? (i := k % P.cellsOf e) ?_)
            rw [k3, List.getElem?_take, if_pos (Nat.mod_lt _ hpos), List.getElem?_drop, Nat.mul_comm, Nat.div_add_mod, List.getElem_take, List.getElem?_eq_getElem]
    · rename_i fs hu
      simp only [Bool.and_eq_true, List.all_eq_true] at hg
      obtain ⟨hg1, hg2⟩ := hg
      obtain ⟨xs, n, _, rfl, _, hxl, hat⟩ := DataW.trod_struct hu h
      simp only [absC, hu]
      have gen : ∀ (l : List Field) (ys : List (DataW H × List MemPlace)) (off : Nat), contig P (P.cellsOf t) off l = true → (∀ f ∈ l, goodT P m f.type = true) → ys.length = l.length →
          (∀ (i : Nat) (f : Field), l[i]? = some f → DataW.trod enc P W 0 spare held n f.type ((cs.drop f.offset).take (P.cellsOf f.type)) = ys[i]?) → off ≤ P.cellsOf t →
          VRs (gW W) (absF (absC P m) l (ys.map (·.1))) (cs.drop off) ∧ ∀ u ∈ cs.drop off, u.oneCell' = true := by
        intro l
        induction l with
        | nil =>
          intro ys off hc _ hy _ _
          simp only [contig, beq_iff_eq] at hc
          have : cs.drop off = [] := List.drop_eq_nil_iff.2 (by omega)
          rw [this]
          exact ⟨.nil _, by simp⟩
        | cons f l ih =>
          intro ys off hc hgd hy hd hoff
          simp only [contig, Bool.and_eq_true, beq_iff_eq] at hc
          obtain ⟨hc1, hc2⟩ := hc
          match ys, hy with
          | y :: ys, hy =>
          have h0 := hd 0 f rfl
          simp only [List.getElem?_cons_zero] at h0
          rw [hc1] at h0
          have hle : ∀ (l : List Field) (o : Nat), contig P (P.cellsOf t) o l = true → o ≤ P.cellsOf t := by
            intro l
            induction l with
            | nil => intro o h; simp only [contig, beq_iff_eq] at h; omega
            | cons f l ih => intro o h; simp only [contig, Bool.and_eq_true] at h; have := ih _ h.2; omega
          have hle2 := hle l _ hc2
          have hl1 : ((cs.drop off).take (P.cellsOf f.type)).length = P.cellsOf f.type := by rw [List.length_take, List.length_drop]; omega
          obtain ⟨k1, k2⟩ := lift m f.type (hgd f (by simp)) n _ _ hl1 h0
          obtain ⟨k3, k4⟩ := ih ys (off + P.cellsOf f.type) hc2 (fun f' hf => hgd f' (by simp [hf])) (by simpa using hy) (fun i f' hf => hd (i + 1) f' (by simpa using hf)) hle2
          have e : cs.drop off = (cs.drop off).take (P.cellsOf f.type) ++ cs.drop (off + P.cellsOf f.type) := by
            rw [← List.drop_drop, List.take_append_drop]
          rw [e]
          refine ⟨?_, fun u hu => ?_⟩
          · simp only [List.map_cons, absF]
            exact k1.append k3
          · rcases List.mem_append.1 hu with h | h
            · exact k2 u h
            · exact k4 u h
      have := gen fs.toList xs 0 hg1 hg2 (by simpa using hxl) (fun i f hf => hat i f (by simpa using hf)) (Nat.zero_le _)
      simpa using this
    · rename_i nn e hu
      simp only [Bool.and_eq_true, beq_iff_eq] at hg
      obtain ⟨hg1, hg2⟩ := hg
      obtain ⟨xs, n, _, rfl, _, hxl, hat⟩ := DataW.trod_array hu h
      simp only [absC, hu]
      have each : ∀ i, i < nn → ∃ y, xs[i]? = some y ∧ VRs (gW W) (absC P m e y.1) ((cs.drop (i * P.cellsOf e)).take (P.cellsOf e)) ∧ ∀ u ∈ (cs.drop (i * P.cellsOf e)).take (P.cellsOf e), u.oneCell' = true := fun i hi => by
        have h1 := hat i hi
        rw [List.getElem?_eq_getElem (by omega)] at h1
        have hm : (i + 1) * P.cellsOf e ≤ nn * P.cellsOf e := Nat.mul_le_mul_right _ hi
        rw [Nat.add_mul, Nat.one_mul] at hm
        obtain ⟨h3, h4⟩ := lift m e hg2 n _ _ (by rw [List.length_take, List.length_drop]; omega) h1
        exact ⟨_, List.getElem?_eq_getElem (by omega), h3, h4⟩
      have hch := lift_chunks (g := gW W) (us := cs) (sz := P.cellsOf e) (f := fun i => absC P m e ((xs.map (·.1)).getD i .nil)) nn (by omega) fun i hi => by
        obtain ⟨y, q1, q3, q4⟩ := each i hi
        have : (xs.map (·.1)).getD i .nil = y.1 := by rw [List.getD_eq_getElem?_getD, List.getElem?_map, q1]; rfl
        rw [this]
        exact q3
      have hfm : (List.range nn).flatMap (fun i => absC P m e ((xs.map (·.1)).getD i .nil)) = (xs.map (·.1)).flatMap (absC P m e) := by
        have : xs.map (·.1) = (List.range nn).map (fun i => (xs.map (·.1)).getD i .nil) := by
          apply List.ext_getElem?
          intro i
          by_cases hi : i < nn
          · rw [List.getElem?_map, List.getElem?_map, List.getElem?_range hi]
            simp [List.getD_eq_getElem?_getD, List.getElem?_eq_getElem (show i < xs.length by omega)]
          · rw [List.getElem?_eq_none (by simp; omega), List.getElem?_eq_none (by simp; omega)]
        conv => rhs; rw [this]
        rw [List.flatMap_map]
      rw [hfm, List.take_of_length_le (by omega)] at hch
      refine ⟨hch, fun u hu => ?_⟩
      obtain ⟨k, hk, rfl⟩ := List.mem_iff_getElem.1 hu
      have hpos : 0 < P.cellsOf e := Nat.pos_of_ne_zero fun h0 => by rw [h0, Nat.mul_zero] at hg1; omega
      have hki : k / P.cellsOf e < nn := Nat.div_lt_of_lt_mul (by rw [Nat.mul_comm]; omega)
      obtain ⟨y, q1, q3, q4⟩ := each (k / P.cellsOf e) hki
      refine q4 _ (List.mem_of_getElem? (i := k % P.cellsOf e) ?_)
      rw [List.getElem?_take, if_pos (Nat.mod_lt _ hpos), List.getElem?_drop, Nat.mul_comm, Nat.div_add_mod, List.getElem?_eq_getElem]
    · cases hg
end
section
set_option maxRecDepth 4000
variable {H : Type}
/-! ### what is read has its type's shape -/
def ShpF (F : TypeId → DataW H → Prop) : List Field → List (DataW H) → Prop
  | [], [] => True
  | f :: fs, d :: ds => F f.type d ∧ ShpF F fs ds
  | _, _ => False
def Shp (P : Program) : Nat → TypeId → DataW H → Prop
  | 0, _, _ => False
  | m + 1, t, d => match P.underlying t with
    | some .bool => ∃ b, d = .lit (.bool b)
    | some (.int k) => ∃ n, d = .lit (.int k n) ∧ (Lit.int k n).wf = true
    | some .string => ∃ s : ByteArray, d = .lit (.string s.data.toList) ∧ s.size ≤ maxLen
    | some (.slice e) => d = .nil ∨ ∃ l sp, d = .slice l sp ∧ l.length ≤ maxLen ∧ ∀ y ∈ l, Shp P m e y
    | some (.struct fs) => ∃ ds, d = .agg ds ∧ ShpF (Shp P m) fs.toList ds
    | some (.array n e) => ∃ ds, d = .agg ds ∧ ds.length = n ∧ ∀ y ∈ ds, Shp P m e y
    | _ => False
def shpT (P : Program) : Nat → TypeId → Bool
  | 0, _ => false
  | m + 1, t => match P.underlying t with
    | some .bool => true
    | some (.int _) => true
    | some .string => true
    | some (.slice e) => shpT P m e
    | some (.struct fs) => fs.toList.all (fun f => shpT P m f.type)
    | some (.array _ e) => shpT P m e
    | _ => false
theorem shp_of {enc : TypeId × Value → H} {P : Program} {W : World} {spare : Nat → Bool} {held : Bool} : ∀ (m : Nat) (t : TypeId), shpT P m t = true → ∀ (fuel : Nat) (cs : List Value) (x : DataW H × List MemPlace),
    DataW.trod enc P W 0 spare held fuel t cs = some x → Shp P m t x.1
  | 0, t, h, _, _, _, _ => by simp [shpT] at h
  | m + 1, t, hg, fuel, cs, x, h => by
    simp only [shpT] at hg
    simp only [Shp]
    split at hg
    · rename_i hu
      obtain ⟨b, rfl, rfl⟩ := DataW.trod_bool hu h
      simp only
      exact ⟨b, rfl⟩
    · rename_i hu
      obtain ⟨n, rfl, rfl, hw⟩ := DataW.trod_int hu h
      simp only
      exact ⟨n, rfl, hw⟩
    · rename_i hu
      obtain ⟨b, rfl, rfl, hw⟩ := DataW.trod_string hu h
      simp only
      exact ⟨b, rfl, hw⟩
    · rename_i e hu
      -- the fields
      rcases DataW.trod_slice hu h with ⟨rfl, rfl⟩ | ⟨a, len, cap, elems, rest, n, _, rfl, rfl, _, hlc, hcm, hel, hat, _, _⟩
      · exact .inl rfl
      · refine .inr ⟨_, _, rfl, by rw [List.length_map]; omega, fun d hd => ?_⟩
        obtain ⟨y, hy, rfl⟩ := List.mem_map.1 hd
        obtain ⟨i, hi, rfl⟩ := List.mem_iff_getElem.1 hy
        have h1 := hat i (by omega)
        rw [List.getElem?_eq_getElem hi] at h1
        obtain ⟨ci, k1, k2⟩ := Option.bind_eq_some_iff.1 h1
        exact shp_of m e hg n ci _ k2
    · rename_i fs hu
      simp only [List.all_eq_true] at hg
      obtain ⟨xs, n, _, rfl, _, hxl, hat⟩ := DataW.trod_struct hu h
      simp only
      refine ⟨_, rfl, ?_⟩
      have gen : ∀ (l : List Field) (ys : List (DataW H × List MemPlace)), (∀ f ∈ l, shpT P m f.type = true) → ys.length = l.length →
          (∀ (i : Nat) (f : Field), l[i]? = some f → DataW.trod enc P W 0 spare held n f.type ((cs.drop f.offset).take (P.cellsOf f.type)) = ys[i]?) → ShpF (Shp P m) l (ys.map (·.1)) := by
        intro l
        induction l with
        | nil =>
          intro ys _ hy _
          obtain rfl : ys = [] := List.eq_nil_of_length_eq_zero hy
          trivial
        | cons f l ih =>
          intro ys hgd hy hd
          match ys, hy with
          | y :: ys, hy =>
          have h0 := hd 0 f rfl
          simp only [List.getElem?_cons_zero] at h0
          exact ⟨shp_of m f.type (hgd f (by simp)) n _ _ h0, ih ys (fun f' hf => hgd f' (by simp [hf])) (by simpa using hy) (fun i f' hf => hd (i + 1) f' (by simpa using hf))⟩
      exact gen fs.toList xs hg (by simpa using hxl) (fun i f hf => hat i f (by simpa using hf))
    · rename_i nn e hu
      obtain ⟨xs, n, _, rfl, _, hxl, hat⟩ := DataW.trod_array hu h
      simp only [hu]
      refine ⟨_, rfl, by rw [List.length_map]; exact hxl, fun d hd => ?_⟩
      obtain ⟨y, hy, rfl⟩ := List.mem_map.1 hd
      obtain ⟨i, hi, rfl⟩ := List.mem_iff_getElem.1 hy
      have h1 := hat i (by omega)
      rw [List.getElem?_eq_getElem hi] at h1
      exact shp_of m e hg n _ _ h1
    · cases hg
theorem shp_int {P : Program} {m : Nat} {t : TypeId} {k : IntKind} {d : DataW H} (hu : P.underlying t = some (.int k)) (h : Shp P (m + 1) t d) : ∃ n, d = .lit (.int k n) ∧ (Lit.int k n).wf = true := by simpa only [Shp, hu] using h
theorem shp_bool {P : Program} {m : Nat} {t : TypeId} {d : DataW H} (hu : P.underlying t = some .bool) (h : Shp P (m + 1) t d) : ∃ b, d = .lit (.bool b) := by simpa only [Shp, hu] using h
theorem shp_str {P : Program} {m : Nat} {t : TypeId} {d : DataW H} (hu : P.underlying t = some .string) (h : Shp P (m + 1) t d) : ∃ s : ByteArray, d = .lit (.string s.data.toList) ∧ s.size ≤ maxLen := by simpa only [Shp, hu] using h
theorem shp_slice {P : Program} {m : Nat} {t e : TypeId} {d : DataW H} (hu : P.underlying t = some (.slice e)) (h : Shp P (m + 1) t d) : d = .nil ∨ ∃ l sp, d = .slice l sp ∧ l.length ≤ maxLen ∧ ∀ y ∈ l, Shp P m e y := by simpa only [Shp, hu] using h
theorem shp_array {P : Program} {m : Nat} {t e : TypeId} {n : Nat} {d : DataW H} (hu : P.underlying t = some (.array n e)) (h : Shp P (m + 1) t d) : ∃ ds, d = .agg ds ∧ ds.length = n ∧ ∀ y ∈ ds, Shp P m e y := by simpa only [Shp, hu] using h
theorem shp_struct {P : Program} {m : Nat} {t : TypeId} {fs : Array Field} {d : DataW H} (hu : P.underlying t = some (.struct fs)) (h : Shp P (m + 1) t d) : ∃ ds, d = .agg ds ∧ ShpF (Shp P m) fs.toList ds := by simpa only [Shp, hu] using h
/-- numbers in a slice, as the machine has them -/
theorem shp_nums {P : Program} {m : Nat} {t e : TypeId} {k : IntKind} {d : DataW H} (hu : P.underlying t = some (.slice e)) (he : P.underlying e = some (.int k)) (hc : P.cellsOf e = 1) (h : Shp P (m + 2) t d) :
    ∃ ns : List Int, (∀ n ∈ ns, (Lit.int k n).wf = true) ∧ ns.length ≤ maxLen ∧ ((ns = [] ∧ d = .nil ∧ absC P (m + 2) t d = [.nils]) ∨ ∃ l sp, d = .slice l sp ∧ l.length = ns.length ∧ absC P (m + 2) t d = [.imm 1 ns.length false (ns.map fun n => .val (.int k n))]) := by
  rcases shp_slice hu h with rfl | ⟨l, sp, rfl, hl, hs⟩
  · exact ⟨[], by simp, by simp, .inl ⟨rfl, rfl, by simp only [absC, hu]⟩⟩
  · have gen : ∀ l : List (DataW H), (∀ y ∈ l, Shp P (m + 1) e y) → ∃ ns : List Int, (∀ n ∈ ns, (Lit.int k n).wf = true) ∧ l.length = ns.length ∧ l.flatMap (absC P (m + 1) e) = ns.map fun n => AV.val (.int k n) := fun l => by
      induction l with
      | nil => exact fun _ => ⟨[], by simp, rfl, rfl⟩
      | cons y r ih =>
        intro hs
        obtain ⟨ns, h1, h2, h3⟩ := ih fun z hz => hs z (by simp [hz])
        obtain ⟨n, rfl, hw⟩ := shp_int he (hs y (by simp))
        refine ⟨n :: ns, by simpa using ⟨hw, h1⟩, by simp [h2], ?_⟩
        rw [List.flatMap_cons, h3]
        simp only [absC, he, List.map_cons]
        rfl
    obtain ⟨ns, h1, h2, h3⟩ := gen l hs
    refine ⟨ns, h1, by omega, .inr ⟨l, sp, rfl, h2, ?_⟩⟩
    rw [← h2, ← h3]
    simp only [absC, hu, hc]
end
end Go.Proofs.Ytniaiciabfdbnaa.E
