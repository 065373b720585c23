/- The evaluator with given values, and how arguments come into the abstract machine. No condition beyond those that the lemmas name. -/
import Derived.Test.YtniaiciabfdbnaaEm
import Derived.Deep.Slices
import Derived.OpenShut
namespace Go.Proofs.Ytniaiciabfdbnaa.E
open Go Go.Proofs
set_option maxRecDepth 4000

/-! ### the evaluator with given values: at chosen places a value is replaced by one that is given; that both are the same is left to be shown -/
abbrev Ob := List Prop
def Ob.ok (o : Ob) : Prop := ∀ p ∈ o, p
theorem Ob.ok_nil : Ob.ok [] := fun p h => by cases h
theorem Ob.ok_append {a b : Ob} : Ob.ok (a ++ b) ↔ a.ok ∧ b.ok := by
  unfold Ob.ok
  constructor
  · exact fun h => ⟨fun p hp => h p (List.mem_append_left _ hp), fun p hp => h p (List.mem_append_right _ hp)⟩
  · rintro ⟨h1, h2⟩ p hp
    rcases List.mem_append.1 hp with h | h
    · exact h1 p h
    · exact h2 p h
theorem Ob.ok_cons {p : Prop} {b : Ob} : Ob.ok (p :: b) ↔ p ∧ b.ok := by
  constructor
  · exact fun h => ⟨h p (List.mem_cons_self ..), fun q hq => h q (List.mem_cons_of_mem _ hq)⟩
  · rintro ⟨h1, h2⟩ q hq
    rcases List.mem_cons.1 hq with rfl | h
    · exact h1
    · exact h2 q h
def tagA (ss : List Nat) (d : Option Nat) (av : AV) (x : List AV) : AV × List AV × Ob :=
  match ss with
  | [] => (av, x, [])
  | _ => match d with
    | none => (av, x, [])
    | some d => if ss.contains d then (match x with
      | a :: r => (a, r, [av = a])
      | [] => (av, x, [])) else (av, x, [])
theorem tagA_ok {ss : List Nat} {d : Option Nat} {av : AV} {x : List AV} (h : (tagA ss d av x).2.2.ok) : av = (tagA ss d av x).1 := by
  unfold tagA at h ⊢
  split
  · rfl
  · split
    · rfl
    · split
      · rename_i hc
        simp only [hc, if_true] at h
        split
        · exact h _ (List.mem_singleton.2 rfl)
        · rfl
      · rfl
/-- places 2000 + d: an operation whose outcome is given -/
def giveA (E : Env) (ss : List Nat) (op : Op) (d : Option Nat) (T : Tm) (x : List AV) : Option (AV × List AV × Prop) :=
  match ss with
  | [] => none
  | _ => match d with
    | none => none
    | some d => if ss.contains (2000 + d) then (match op, x with
      | .slice t y none (some hi) (some mx), .sl n _ _ _ _ :: r => match E.ty t, T.eval y, T.eval hi, T.eval mx with
        | some i, .sl id sz off len _, .val (.int _ a), .val (.int _ b) => match i.desc with
          | .slice e => if tySize E e = some sz then some (.sl id sz off n true, r, a = (n : Int) ∧ b = (n : Int) ∧ 0 < n ∧ n ≤ len) else none
          | _ => none
        | _, _, _, _ => none
      | .indexAddr t y ix, _ => match E.ty t, T.eval y, T.eval ix with
        | some i, .imm sz len _ cells, .val (.int _ a) => match i.desc with
          | .slice e => if tySize E e = some sz ∧ sz ≠ 0 then some (.iptr (cells.drop (a.toNat * sz)), x, 0 ≤ a ∧ a < (len : Int)) else none
          | _ => none
        | _, _, _ => none
      | _, _ => none) else none
theorem giveA_ok {E : Env} {ss : List Nat} {op : Op} {d : Option Nat} {T : Tm} {x : List AV} {av : AV} {x' : List AV} {p : Prop} (h : giveA E ss op d T x = some (av, x', p)) (hp : p) (st : St) : evOp E op T st = some (.val av st) := by
  unfold giveA at h
  split at h
  · cases h
  split at h
  · cases h
  split at h
  · split at h
    · rename_i t y hi mx n _ _ _ _ r
      split at h
      · rename_i i id sz off len full k a k' b h1 h2 h3 h4
        split at h
        · rename_i e hd
          split at h
          · rename_i hs
            simp only [Option.some.injEq, Prod.mk.injEq] at h
            obtain ⟨rfl, rfl, rfl⟩ := h
            obtain ⟨rfl, rfl, h5, h6⟩ := hp
            have e1 : natLe (.val (.int k' n)) len = some n := by
              show (if 0 ≤ (n : Int) ∧ (n : Int) ≤ len then some (n : Int).toNat else none) = some n
              rw [if_pos ⟨by omega, by omega⟩]; rfl
            have e2 : natLe (.val (.int k n)) n = some n := by
              show (if 0 ≤ (n : Int) ∧ (n : Int) ≤ n then some (n : Int).toNat else none) = some n
              rw [if_pos ⟨by omega, by omega⟩]; rfl
            have hb : boundsA len len none (some (.val (.int k n))) (some (.val (.int k' n))) = some (0, n, n) := by
              delta boundsA
              simp only [e1, e2]
            have : sliceA E st t (.sl id sz off len full) none (some (.val (.int k n))) (some (.val (.int k' n))) = some (.sl id sz off n true) := by
              simp only [sliceA, h1, hd, hs, if_true, hb]
              rw [if_neg (by omega)]
              simp [fullOf]
            unfold evOp
            simp only [pureA, Option.map_none, Option.map_some, h2, h3, h4, this]
          · cases h
        · cases h
      · cases h
    · rename_i _ t y ix
      split at h
      · rename_i i sz len full cells k a h1 h2 h3
        split at h
        · rename_i e hd
          split at h
          · rename_i hs
            simp only [Option.some.injEq, Prod.mk.injEq] at h
            obtain ⟨rfl, rfl, rfl⟩ := h
            have : indexAddrA E t (.imm sz len full cells) (.val (.int k a)) = some (.iptr (cells.drop (a.toNat * sz))) := by
              simp only [indexAddrA, h1, hd]
              rw [if_pos ⟨hs.1, hp.1, hp.2, hs.2⟩]
            unfold evOp
            simp only [pureA, h2, h3, this]
          · cases h
        · cases h
      · cases h
    · cases h
  · cases h
/-- places 1000 + d: a condition whose answer is given -/
def condA (ss : List Nat) (c : Operand) (x : List AV) : Option (Bool × List AV) :=
  match ss with
  | [] => none
  | _ => match c, x with
    | .tmp d, .val (.bool b) :: r => if ss.contains (1000 + d) then some (b, r) else none
    | _, _ => none
mutual
def evS (E : Env) (ov : Ov) (sites : Nat → List Nat) : Nat → List Nat → Code → Tm → St → List AV → Option (Exit × Tm × St × List AV × Ob)
  | 0, _, _, _, _, _ => none
  | k + 1, ss, c, T, st, x => match c with
    | .skip => some (.normal, T, st, x, [])
    | .label _ => some (.normal, T, st, x, [])
    | .exit id => some (.exit id, T, st, x, [])
    | .ret => some (.ret, T, st, x, [])
    | .seq a b => match evS E ov sites k ss a T st x with
      | some (.normal, T1, st1, x1, o1) => match evS E ov sites k ss b T1 st1 x1 with
        | some (e2, T2, st2, x2, o2) => some (e2, T2, st2, x2, o1 ++ o2)
        | none => none
      | r => r
    | .cond c y z => match condA ss c x with
      | some (b, x1) => match evS E ov sites k ss (if b then y else z) T st x1 with
        | some (e2, T2, st2, x2, o2) => some (e2, T2, st2, x2, (T.eval c = .val (.bool b)) :: o2)
        | none => none
      | none => match T.eval c with
        | .val (.bool b) => evS E ov sites k ss (if b then y else z) T st x
        | _ => none
    | .block id c => match evS E ov sites k ss c T st x with
      | some (.exit i, T1, st1, x1, o1) => if i = id then some (.normal, T1, st1, x1, o1) else some (.exit i, T1, st1, x1, o1)
      | r => r
    | .scope c => match evS E ov sites k ss c T st x with
      | some (.goto _, _, _, _, _) => none
      | r => r
    | .loop c => match evS E ov sites k ss c T st x with
      | some (.normal, T1, st1, x1, o1) => match evS E ov sites k ss (.loop c) T1 st1 x1 with
        | some (e2, T2, st2, x2, o2) => some (e2, T2, st2, x2, o1 ++ o2)
        | none => none
      | r => r
    | .region _ ops false => match evOpsS E ov sites k ss ops ops.toList T st x with
      | some (T1, st1, x1, o1) => some (.normal, T1, st1, x1, o1)
      | none => none
    | .region _ ops true => match planOf ops with
      | some l => match evDrS E ov sites k ops ((idsOf E ops l T st).filter (· < st.next)) l T st x with
        | some (T1, st1, x1, o1) => some (.normal, T1, st1, x1, o1)
        | none => none
      | none => none
    | _ => none
def evDrS (E : Env) (ov : Ov) (sites : Nat → List Nat) : Nat → Array Oper → List Nat → List DStep → Tm → St → List AV → Option (Tm × St × List AV × Ob)
  | 0, _, _, _, _, _, _ => none
  | k + 1, ops, ids, l, T, st, x => match l with
    | [] => some (T, st, x, [])
    | s :: rest => match ops[s.i]? with
      | none => none
      | some o => if T.fits o.dst then (match wantedA ops o T with
        | some false => if s.take || s.single then evDrS E ov sites k ops ids rest (T.put o.dst (.tup [])) st x else none
        | some true => match (if s.take then heldA E st ids o.op T else none) with
          | some av => evDrS E ov sites k ops ids rest (T.put o.dst av) st x
          | none => if s.single && (!s.ph || ids.all (fun id => (st.get id).isSome)) then (match evOp E o.op T (if s.ph then st.hide ids else st) with
            | some (.val av st') => evDrS E ov sites k ops ids rest (T.put o.dst av) (if s.ph then st'.show st ids else st') x
            | some (.skip st') => evDrS E ov sites k ops ids rest (T.put o.dst (.tup [])) (if s.ph then st'.show st ids else st') x
            | some (.call f args) => match evCallS E ov sites k f args (if s.ph then st.hide ids else st) x with
              | some (r, st', x1, o1) => match evDrS E ov sites k ops ids rest (T.put o.dst r) (if s.ph then st'.show st ids else st') x1 with
                | some (T2, st2, x2, o2) => some (T2, st2, x2, o1 ++ o2)
                | none => none
              | none => none
            | _ => none) else none
        | none => none) else none
def evOpsS (E : Env) (ov : Ov) (sites : Nat → List Nat) : Nat → List Nat → Array Oper → List Oper → Tm → St → List AV → Option (Tm × St × List AV × Ob)
  | 0, _, _, _, _, _, _ => none
  | k + 1, ss, ops, l, T, st, x => match l with
    | [] => some (T, st, x, [])
    | o :: rest => if T.fits o.dst then (match wantedA ops o T with
      | some true => match giveA E ss o.op o.dst T x with
       | some (av, x1, p) => match evOpsS E ov sites k ss ops rest (T.put o.dst av) st x1 with
         | some (T2, st2, x2, o2) => some (T2, st2, x2, p :: o2)
         | none => none
       | none => match evOp E o.op T st with
        | some (.val av st') => match evOpsS E ov sites k ss ops rest (T.put o.dst (tagA ss o.dst av x).1) st' (tagA ss o.dst av x).2.1 with
          | some (T2, st2, x2, o2) => some (T2, st2, x2, (tagA ss o.dst av x).2.2 ++ o2)
          | none => none
        | some (.skip st') => evOpsS E ov sites k ss ops rest (T.put o.dst (.tup [])) st' x
        | some (.any [q]) => evOpsS E ov sites k ss ops rest (T.put o.dst q.1) q.2 x
        | some (.any _) => none
        | some (.call f args) => match evCallS E ov sites k f args st x with
          | some (r, st', x1, o1) => match evOpsS E ov sites k ss ops rest (T.put o.dst (tagA ss o.dst r x1).1) st' (tagA ss o.dst r x1).2.1 with
            | some (T2, st2, x2, o2) => some (T2, st2, x2, o1 ++ ((tagA ss o.dst r x1).2.2 ++ o2))
            | none => none
          | none => none
        | none => none
      | some false => evOpsS E ov sites k ss ops rest (T.put o.dst (.tup [])) st x
      | none => none) else none
def evCallS (E : Env) (ov : Ov) (sites : Nat → List Nat) : Nat → Nat → List AV → St → List AV → Option (AV × St × List AV × Ob)
  | 0, _, _, _, _ => none
  | k + 1, f, args, st, x => match ov f args st with
    | some r => some (r.1, r.2, x, [])
    | none => match E.fn f with
      | some fn => match fn.body with
        | some c => match evS E ov sites k (sites f) c (enterT fn args st.gl) st x with
          | some (.normal, T1, st1, x1, o1) => (resA E T1 st1 fn.results.toList).map fun vs => (oneOrTup vs, st1, x1, o1)
          | some (.ret, T1, st1, x1, o1) => (resA E T1 st1 fn.results.toList).map fun vs => (oneOrTup vs, st1, x1, o1)
          | _ => none
        | none => none
      | none => none
end

structure EvSOK (P : Program) (E : Env) (ov : Ov) (sites : Nat → List Nat) (k : Nat) : Prop where
  code : ∀ ss c T st x e1 T1 st1 x1 ob, evS E ov sites k ss c T st x = some (e1, T1, st1, x1, ob) → ob.ok → AW P c (fun e T' st' => e = e1 ∧ T' = T1 ∧ st' = st1) T st
  ops : ∀ ss ops l T st x T1 st1 x1 ob, evOpsS E ov sites k ss ops l T st x = some (T1, st1, x1, ob) → ob.ok → AOps P E ops (fun e T' st' => e = .normal ∧ T' = T1 ∧ st' = st1) l T st
  call : ∀ f args st x a1 st1 x1 ob, evCallS E ov sites k f args st x = some (a1, st1, x1, ob) → ob.ok → ACalls P f args (fun a st' => a = a1 ∧ st' = st1) st
  dr : ∀ ops ids l T st x T1 st1 x1 ob, evDrS E ov sites k ops ids l T st x = some (T1, st1, x1, ob) → ob.ok → ∀ listed, planOK ops l listed = true → ADr P E ops ids (fun e T' st' => e = .normal ∧ T' = T1 ∧ st' = st1) (l.map (·.i)) listed T st

theorem evS_ok {P : Program} {E : Env} (hE : EOK' P E) {ov : Ov} {sites : Nat → List Nat} (hov : ∀ f args st r, ov f args st = some r → ACalls P f args (fun a st' => (a, st') = r) st) : ∀ k, EvSOK P E ov sites k := by
  intro k
  induction k using Nat.strongRecOn with
  | _ k ih =>
  cases k with
  | zero => exact ⟨fun ss c T st x e1 T1 st1 x1 ob h => by simp [evS] at h, fun ss ops l T st x T1 st1 x1 ob h => by simp [evOpsS] at h, fun f args st x a1 st1 x1 ob h => by simp [evCallS] at h, fun ops ids l T st x T1 st1 x1 ob h => by simp [evDrS] at h⟩
  | succ k =>
  have ih0 := ih k (Nat.lt_succ_self _)
  refine ⟨fun ss c T st x e1 T1 st1 x1 ob h hob => ?_, fun ss ops l T st x T1 st1 x1 ob h hob => ?_, fun f args st x a1 st1 x1 ob h hob => ?_, fun ops ids l T st x T1 st1 x1 ob h hob listed hl => ?_⟩
  · simp only [evS] at h
    split at h
    · cases h; exact .skip ⟨rfl, rfl, rfl⟩
    · cases h; exact .label ⟨rfl, rfl, rfl⟩
    · cases h; exact .exit ⟨rfl, rfl, rfl⟩
    · cases h; exact .ret ⟨rfl, rfl, rfl⟩
    · rename_i a b
      refine .seq ?_
      split at h
      · rename_i T2 st2 x2 o1 h1
        split at h
        · rename_i e3 T3 st3 x3 o3 h3
          cases h
          obtain ⟨ob1, ob2⟩ := Ob.ok_append.1 hob
          refine (ih0.code _ _ _ _ _ _ _ _ _ _ h1 ob1).mono fun e T' st' he => ?_
          obtain ⟨rfl, rfl, rfl⟩ := he
          exact ih0.code _ _ _ _ _ _ _ _ _ _ h3 ob2
        · cases h
      · rename_i hne
        refine (ih0.code _ _ _ _ _ _ _ _ _ _ h hob).mono fun e T' st' he => ?_
        obtain ⟨rfl, rfl, rfl⟩ := he
        cases e with
        | normal => exact absurd h (hne _ _ _ _)
        | _ => exact ⟨rfl, rfl, rfl⟩
    · split at h
      · rename_i b x2 hc
        split at h
        · rename_i e3 T3 st3 x3 o3 h3
          cases h
          obtain ⟨ob1, ob2⟩ := Ob.ok_cons.1 hob
          exact .cond ob1 (ih0.code _ _ _ _ _ _ _ _ _ _ h3 ob2)
        · cases h
      · split at h
        · rename_i b hc
          exact .cond hc (ih0.code _ _ _ _ _ _ _ _ _ _ h hob)
        · cases h
    · rename_i id c
      refine .block ?_
      split at h
      · rename_i i T2 st2 x2 o2 h1
        split at h
        · rename_i hi
          cases h
          refine (ih0.code _ _ _ _ _ _ _ _ _ _ h1 hob).mono fun e T' st' he => ?_
          obtain ⟨rfl, rfl, rfl⟩ := he
          simp [blockA, hi]
        · rename_i hi
          cases h
          refine (ih0.code _ _ _ _ _ _ _ _ _ _ h1 hob).mono fun e T' st' he => ?_
          obtain ⟨rfl, rfl, rfl⟩ := he
          simp [blockA, hi]
      · rename_i hne
        refine (ih0.code _ _ _ _ _ _ _ _ _ _ h hob).mono fun e T' st' he => ?_
        obtain ⟨rfl, rfl, rfl⟩ := he
        cases e with
        | exit i => exact absurd h (hne _ _ _ _ _)
        | _ => exact ⟨rfl, rfl, rfl⟩
    · rename_i c
      refine .scope ?_
      split at h
      · cases h
      · rename_i hne
        refine (ih0.code _ _ _ _ _ _ _ _ _ _ h hob).mono fun e T' st' he => ?_
        obtain ⟨rfl, rfl, rfl⟩ := he
        refine ⟨fun l hl => ?_, rfl, rfl, rfl⟩
        subst hl
        exact hne _ _ _ _ _ h
    · rename_i c
      refine .loop (fun n T st => n ≤ k + 1 ∧ ∃ x ob, evS E ov sites n ss (.loop c) T st x = some (e1, T1, st1, x1, ob) ∧ ob.ok) (k + 1) ⟨Nat.le_refl _, x, ob, by simp only [evS]; exact h, hob⟩ fun n T st hI => ?_
      obtain ⟨hn, x', ob', hI, hob'⟩ := hI
      cases n with
      | zero => simp [evS] at hI
      | succ n =>
        have ihn := ih n (by omega)
        simp only [evS] at hI
        split at hI
        · rename_i T2 st2 x2 o2 h1
          split at hI
          · rename_i e3 T3 st3 x3 o3 h3
            cases hI
            obtain ⟨ob1, ob2⟩ := Ob.ok_append.1 hob'
            refine (ihn.code _ _ _ _ _ _ _ _ _ _ h1 ob1).mono fun e T' st' he => ?_
            obtain ⟨rfl, rfl, rfl⟩ := he
            exact ⟨n, Nat.lt_succ_self _, by omega, _, _, h3, ob2⟩
          · cases hI
        · rename_i hne
          refine (ihn.code _ _ _ _ _ _ _ _ _ _ hI hob').mono fun e T' st' he => ?_
          obtain ⟨rfl, rfl, rfl⟩ := he
          cases e with
          | normal => exact absurd hI (hne _ _ _ _)
          | _ => exact ⟨rfl, rfl, rfl⟩
    · rename_i id ops
      split at h
      · rename_i T2 st2 x2 o2 h1
        cases h
        exact .region hE (AOps.mono (fun e T' st' ⟨he, hr⟩ => by subst he; exact ⟨rfl, hr⟩) _ (ih0.ops _ _ _ _ _ _ _ _ _ _ h1 hob))
      · cases h
    · rename_i id ops
      split at h
      · rename_i l hl
        unfold planOf at hl
        simp only [] at hl
        split at hl
        · rename_i hc
          cases hl
          split at h
          · rename_i T2 st2 x2 o2 h1
            cases h
            refine .drawn hE hE.mixed hc.2.2 _ _ ?_ (by rw [List.length_map]; exact hc.1) (ADr.mono (fun e T' st' ⟨he, hr⟩ => by subst he; exact ⟨rfl, hr⟩) _ (ih0.dr _ _ _ _ _ _ _ _ _ _ h1 hob _ hc.2.1))
            simp [List.all_eq_true]
          · cases h
        · cases hl
      · cases h
    · cases h
  · simp only [evOpsS] at h
    split at h
    · cases h; exact ⟨rfl, rfl, rfl⟩
    · rename_i o rest
      split at h
      · rename_i hfit
        simp only [AOps]
        split at h
        · rename_i hw
          simp only [hw]
          split at h
          · rename_i av x3 p hgive
            split at h
            · rename_i T3 st3 x3 o3 h3
              cases h
              obtain ⟨ob1, ob2⟩ := Ob.ok_cons.1 hob
              simp only [giveA_ok hgive ob1 st]
              exact ⟨hfit, ih0.ops _ _ _ _ _ _ _ _ _ _ h3 ob2⟩
            · cases h
          split at h
          · rename_i av st' he
            simp only [he]
            split at h
            · rename_i T3 st3 x3 o3 h3
              cases h
              obtain ⟨ob1, ob2⟩ := Ob.ok_append.1 hob
              have := ih0.ops _ _ _ _ _ _ _ _ _ _ h3 ob2
              rw [← tagA_ok ob1] at this
              exact ⟨hfit, this⟩
            · cases h
          · rename_i st' he
            simp only [he]
            exact ⟨hfit, ih0.ops _ _ _ _ _ _ _ _ _ _ h hob⟩
          · rename_i q he
            simp only [he]
            refine ⟨hfit, fun q' hq' => ?_⟩
            obtain rfl := List.mem_singleton.1 hq'
            exact ih0.ops _ _ _ _ _ _ _ _ _ _ h hob
          · cases h
          · rename_i f args he
            simp only [he]
            split at h
            · rename_i r' st' x2 o2 hc
              split at h
              · rename_i T3 st3 x3 o3 h3
                cases h
                obtain ⟨ob1, ob2⟩ := Ob.ok_append.1 hob
                obtain ⟨ob2, ob3⟩ := Ob.ok_append.1 ob2
                refine ⟨hfit, (ih0.call _ _ _ _ _ _ _ _ hc ob1).mono fun a st'' ha => ?_⟩
                obtain ⟨rfl, rfl⟩ := ha
                have := ih0.ops _ _ _ _ _ _ _ _ _ _ h3 ob3
                rw [← tagA_ok ob2] at this
                exact this
              · cases h
            · cases h
          · cases h
        · rename_i hw
          simp only [hw]
          exact ⟨hfit, ih0.ops _ _ _ _ _ _ _ _ _ _ h hob⟩
        · cases h
      · cases h
  · simp only [evCallS] at h
    split at h
    · rename_i r' ho
      cases h
      exact (hov _ _ _ _ ho).mono fun a st' ha => by cases ha; exact ⟨rfl, rfl⟩
    · split at h
      · rename_i fn hfn
        split at h
        · rename_i c hc
          refine .body hE (hE.fn _ _ hfn) hc ?_
          split at h
          · rename_i T2 st2 x2 o2 h1
            obtain ⟨vs, hv, hq⟩ := Option.map_eq_some_iff.1 h
            cases hq
            refine (ih0.code _ _ _ _ _ _ _ _ _ _ h1 hob).mono fun e T' st' he => ?_
            obtain ⟨rfl, rfl, rfl⟩ := he
            exact ⟨vs, hv, rfl, rfl⟩
          · rename_i T2 st2 x2 o2 h1
            obtain ⟨vs, hv, hq⟩ := Option.map_eq_some_iff.1 h
            cases hq
            refine (ih0.code _ _ _ _ _ _ _ _ _ _ h1 hob).mono fun e T' st' he => ?_
            obtain ⟨rfl, rfl, rfl⟩ := he
            exact ⟨vs, hv, rfl, rfl⟩
          · cases h
        · cases h
      · cases h
  · simp only [evDrS] at h
    split at h
    · cases h
      simp only [planOK, beq_iff_eq] at hl
      exact ⟨hl, rfl, rfl, rfl⟩
    · rename_i s rest
      simp only [planOK, Bool.and_eq_true, Bool.or_eq_true, Bool.not_eq_true', beq_iff_eq] at hl
      obtain ⟨⟨⟨hl1, hl2⟩, hl3⟩, hl4⟩ := hl
      split at h
      · cases h
      rename_i o ho
      rcases Bool.eq_false_or_eq_true (T.fits o.dst) with hfit | hfit
      rotate_left
      · rw [hfit] at h; simp at h
      rw [if_pos hfit] at h
      simp only [List.map_cons, ADr, ho]
      refine ⟨hfit, ?_⟩
      have mt : mayTake ops listed s.i = (!effOp o.op && Region.free MD ops listed s.i && (Region.ready MD ops listed).contains s.i && noWait ops listed s.i && !waits o s.i) := by simp only [mayTake, ho]
      have sg : s.single = true → Region.ready MD ops listed = [s.i] := fun hs => by
        rcases hl2 with h1 | h1
        · rw [hs] at h1; cases h1
        · exact h1
      rw [← mt, ← hl1]
      split at h
      · rename_i hw
        split at h
        · rename_i hts
          have hA := ih0.dr _ _ _ _ _ _ _ _ _ _ h hob _ hl4
          simp only [hw]
          split
          · exact hA
          · rename_i hc
            refine ⟨sg ?_, hA⟩
            cases hs : s.single with
            | true => rfl
            | false =>
              rw [hs, Bool.or_false] at hts
              exact absurd ⟨hts, by first | exact .inl trivial | simp⟩ hc
        · cases h
      · rename_i hw
        split at h
        · rename_i av hh
          split at hh
          · rename_i ht
            have hA := ih0.dr _ _ _ _ _ _ _ _ _ _ h hob _ hl4
            rw [if_pos ⟨ht, .inr ⟨hw, by rw [hh]; rfl⟩⟩]
            simp only [hw, hh]
            exact hA
          · cases hh
        · rename_i hh
          split at h
          · rename_i hsg
            simp only [Bool.and_eq_true, Bool.or_eq_true, Bool.not_eq_true'] at hsg
            have hcond : ¬ (s.take = true ∧ (wantedA ops o T = some false ∨ (wantedA ops o T = some true ∧ (heldA E st ids o.op T).isSome = true))) := by
              rintro ⟨h1, h2⟩
              rw [if_pos h1] at hh
              rw [hw, hh] at h2
              simp at h2
            rw [if_neg hcond]
            refine ⟨sg hsg.1, ?_⟩
            rw [← hl3]
            simp only [hw]
            refine ⟨fun hp => ?_, ?_⟩
            · rcases hsg.2 with h1 | h1
              · rw [hp] at h1; cases h1
              · exact h1
            · have hK : ∀ {av : AV} {st' : St} {x : List AV} {ob : Ob}, evDrS E ov sites k ops ids rest (T.put o.dst av) (if s.ph = true then st'.show st ids else st') x = some (T1, st1, x1, ob) → ob.ok → ADrK s.ph st ids (fun st' => ADr P E ops ids (fun e T' st' => e = .normal ∧ T' = T1 ∧ st' = st1) (rest.map (·.i)) (listed.setIfInBounds s.i true) (T.put o.dst av) st') st' := by
                intro av st' x ob h hob
                unfold ADrK
                split
                · rename_i hp
                  rw [if_pos hp] at h
                  exact ih0.dr _ _ _ _ _ _ _ _ _ _ h hob _ hl4
                · rename_i hp
                  rw [if_neg hp] at h
                  exact ih0.dr _ _ _ _ _ _ _ _ _ _ h hob _ hl4
              split at h
              · rename_i av st' he
                simp only [he]
                exact hK h hob
              · rename_i st' he
                simp only [he]
                exact hK h hob
              · rename_i f args he
                simp only [he]
                split at h
                · rename_i r' st' x2 o2 hc
                  split at h
                  · rename_i T3 st3 x3 o3 h3
                    cases h
                    obtain ⟨ob1, ob2⟩ := Ob.ok_append.1 hob
                    refine (ih0.call _ _ _ _ _ _ _ _ hc ob1).mono fun a st'' ha => ?_
                    obtain ⟨rfl, rfl⟩ := ha
                    exact hK h3 ob2
                  · cases h
                · cases h
              · cases h
          · cases h
      · cases h
section
variable {H : Type}
/-- the cells of what is read, as the machine has them -/
def absF (F : TypeId → DataW H → List AV) : List Field → List (DataW H) → List AV
  | f :: fs, d :: ds => F f.type d ++ absF F fs ds
  | _, _ => []
def absC (P : Program) : Nat → TypeId → DataW H → List AV
  | 0, _, _ => []
  | m + 1, t, d => match P.underlying t, d with
    | some .bool, .lit (.bool b) => [.val (.bool b)]
    | some (.int _), .lit (.int k n) => [.val (.int k n)]
    | some .string, .lit (.string bs) => [.val (.string ⟨bs.toArray⟩)]
    | some (.slice _), .nil => [.nils]
    | some (.slice e), .slice l _ => [.imm (P.cellsOf e) l.length false (l.flatMap (absC P m e))]
    | some (.struct fs), .agg ds => absF (absC P m) fs.toList ds
    | some (.array _ e), .agg ds => ds.flatMap (absC P m e)
    | _, _ => []
def contig (P : Program) (tot : Nat) : Nat → List Field → Bool
  | off, [] => off == tot
  | off, f :: fs => f.offset == off && contig P tot (off + P.cellsOf f.type) fs
def goodT (P : Program) : Nat → TypeId → Bool
  | 0, _ => false
  | m + 1, t => match P.underlying t with
    | some .bool => true
    | some (.int _) => true
    | some .string => true
    | some (.slice e) => goodT P m e
    | some (.struct fs) => contig P (P.cellsOf t) 0 fs.toList && fs.toList.all (fun f => goodT P m f.type)
    | some (.array n e) => P.cellsOf t == n * P.cellsOf e && goodT P m e
    | _ => false
def gW (W : World) : G := { n := 0, blk := fun _ => 0, base := fun _ => 0, siz := fun _ => 0, M := fun b => match W.heap[b]? with | some (.cells cs _ _) => cs.toList | _ => [] }
theorem okW (W : World) : OK (gW W) ⟨0, .nil, [], []⟩ W :=
  ⟨fun b h => by
      unfold gW at h ⊢
      simp only at h ⊢
      split at h
      · rename_i cs T fr hb; exact ⟨cs, T, fr, hb, List.prefix_refl _⟩
      · exact absurd rfl h,
    fun id o h => by simp [St.get, Tr.get] at h, fun id o _ _ h => by simp [St.get, Tr.get] at h, fun id o h => by simp [St.get, Tr.get] at h, rfl, fun p hp => by cases hp⟩

theorem cells_get {W : World} {a : Addr} : ∀ {n : Nat} {cs : List Value}, W.cells? 0 a n = some cs → cs.length = n ∧ ∀ i, i < n → W.cell? (a.add i) = cs[i]? := by
  intro n cs h
  unfold World.cells? at h
  rw [if_pos (Nat.zero_le _)] at h
  exact ⟨by simpa using mapM_some_length h, fun i hi => by simpa using mapM_some_get h i i (by simp [hi])⟩
theorem add_none (b o n : Nat) : (Addr.add ⟨b, o, none⟩ n) = ⟨b, o + n, none⟩ := by
  unfold Addr.add
  split
  · rename_i h; subst h; rfl
  · rfl
theorem cells_mem {W : World} {a : Addr} {n : Nat} {cs : List Value} (h : W.cells? 0 a n = some cs) (hn : n ≠ 0) : a.spot = none ∧ cs = (((gW W).M a.block).drop a.off).take n := by
  obtain ⟨h1, h2⟩ := cells_get h
  obtain ⟨b, o, sp⟩ := a
  have h0 := h2 0 (by omega)
  have hc : ∃ c T fr, W.heap[b]? = some (.cells c T fr) ∧ sp = none := by
    unfold World.cell? at h0
    rw [List.getElem?_eq_getElem (by omega)] at h0
    split at h0
    · rename_i c T fr hb
      refine ⟨c, T, fr, by simpa [Addr.add] using hb, ?_⟩
      split at h0
      · cases h0
      · rename_i hs
        simpa [Addr.add] using hs
    · cases h0
  obtain ⟨c, T, fr, hb, rfl⟩ := hc
  refine ⟨rfl, ?_⟩
  have hM : (gW W).M b = c.toList := by simp only [gW, hb]
  simp only [hM]
  have each : ∀ i, i < n → cs[i]? = c[o + i]? := fun i hi => by
    rw [← h2 i hi]
    rw [add_none]
    unfold World.cell?
    simp [hb]
  apply List.ext_getElem?
  intro i
  by_cases hi : i < n
  · rw [each i hi, List.getElem?_take, if_pos hi, List.getElem?_drop]
    simp
  · rw [List.getElem?_eq_none (by omega), List.getElem?_take, if_neg hi]

/-- elements, one behind the other -/
theorem lift_chunks {g : G} {us : List Value} {sz : Nat} {f : Nat → List AV} : ∀ (n : Nat), n * sz ≤ us.length → (∀ i, i < n → VRs g (f i) ((us.drop (i * sz)).take sz)) → VRs g ((List.range n).flatMap f) (us.take (n * sz))
  | 0, _, _ => by simpa using VRs.nil g
  | n + 1, hl, h => by
    rw [List.range_succ, List.flatMap_append]
    have h1 := lift_chunks n (by rw [Nat.add_mul] at hl; omega) fun i hi => h i (by omega)
    have h2 := h n (by omega)
    have e : us.take ((n + 1) * sz) = us.take (n * sz) ++ (us.drop (n * sz)).take sz := by
      rw [show (n + 1) * sz = n * sz + sz by rw [Nat.add_mul, Nat.one_mul], List.take_add]
    rw [e]
    exact h1.append (by simpa using h2)
theorem lift {enc : TypeId × Value → H} {P : Program} {W : World} {spare : Nat → Bool} {held : Bool} : ∀ (m : Nat) (t : TypeId), goodT P m t = true → ∀ (fuel : Nat) (cs : List Value) (x : DataW H × List MemPlace), cs.length = P.cellsOf t →
    DataW.trod enc P W 0 spare held fuel t cs = some x → VRs (gW W) (absC P m t x.1) cs ∧ ∀ u ∈ cs, u.oneCell' = true
  | 0, t, h, _, _, _, _, _ => by simp [goodT] at h
  | m + 1, t, hg, fuel, cs, x, hlen, h => by
    have one : ∀ {a : AV} {u : Value}, VR (gW W) a u → u.oneCell' = true → VRs (gW W) [a] [u] ∧ ∀ v ∈ [u], v.oneCell' = true := fun h1 h2 => ⟨.cons h1 (.nil _), by simpa using h2⟩
    simp only [goodT] at hg
    split at hg
    · rename_i hu
      obtain ⟨b, rfl, rfl⟩ := DataW.trod_bool hu h
      simp only [absC, hu]
      exact one (.val _ rfl) rfl
    · rename_i hu
      obtain ⟨n, rfl, rfl, hw⟩ := DataW.trod_int hu h
      simp only [absC, hu]
      exact one (.val _ rfl) rfl
    · rename_i hu
      obtain ⟨b, rfl, rfl, hw⟩ := DataW.trod_string hu h
      simp only [absC, hu]
      exact one (.val _ rfl) rfl
    · rename_i e hu
      rcases DataW.trod_slice hu h with ⟨rfl, rfl⟩ | ⟨a, len, cap, elems, rest, n, _, rfl, rfl, _, hlc, hcm, hel, hat, _, _⟩
      · simp only [absC, hu]
        exact one .nils rfl
      · simp only [absC, hu]
        refine one ?_ rfl
        rw [List.length_map, hel]
        have each : ∀ i, i < len → ∃ (y : DataW H × List MemPlace) (ci : List Value), elems[i]? = some y ∧ W.cells? 0 (a.add (i * P.cellsOf e)) (P.cellsOf e) = some ci ∧ VRs (gW W) (absC P m e y.1) ci ∧ ∀ u ∈ ci, u.oneCell' = true := fun i hi => by
          have h1 := hat i hi
          rw [List.getElem?_eq_getElem (by omega)] at h1
          obtain ⟨ci, k1, k2⟩ := Option.bind_eq_some_iff.1 h1
          obtain ⟨h3, h4⟩ := lift m e hg n ci _ (cells_get k1).1 k2
          exact ⟨_, ci, List.getElem?_eq_getElem (by omega), k1, h3, h4⟩
        by_cases hz : len * P.cellsOf e = 0
        · have hnil : (List.map (fun x => x.fst) elems).flatMap (absC P m e) = [] := by
            rw [List.flatMap_eq_nil_iff]
            intro d hd
            obtain ⟨y, hy, rfl⟩ := List.mem_map.1 hd
            obtain ⟨i, hi, rfl⟩ := List.mem_iff_getElem.1 hy
            obtain ⟨y', ci, q1, q2, q3, q4⟩ := each i (by omega)
            rw [List.getElem?_eq_getElem hi] at q1
            cases q1
            have : P.cellsOf e = 0 := by
              rcases Nat.mul_eq_zero.1 hz with h0 | h0
              · omega
              · exact h0
            have hl := (cells_get q2).1
            rw [this] at hl
            have hc0 : ci = [] := List.eq_nil_of_length_eq_zero hl
            have := q3.1
            rw [hc0] at this
            exact List.eq_nil_of_length_eq_zero this.symm
          rw [hnil]
          exact .imm _ len cap false [] [] a (by simp [hz]) rfl (fun i hi => by simp at hi) (by simp) (fun h => absurd hz h) hlc (fun h => by cases h) hcm
        · have hpos : 0 < P.cellsOf e := Nat.pos_of_ne_zero fun h0 => hz (by simp [h0])
          have hlen0 : 0 < len := Nat.pos_of_ne_zero fun h0 => hz (by simp [h0])
          obtain ⟨b, o, sp⟩ := a
          obtain ⟨_, ci0, _, q0, _, _⟩ := each 0 hlen0
          have hsp : sp = none := by
            have := (cells_mem q0 (by omega)).1
            simpa [Addr.add] using this
          subst hsp
          have mem : ∀ i, i < len → ∃ ci, W.cells? 0 (Addr.add ⟨b, o, none⟩ (i * P.cellsOf e)) (P.cellsOf e) = some ci ∧ ci = ((((gW W).M b).drop o).drop (i * P.cellsOf e)).take (P.cellsOf e) := fun i hi => by
            obtain ⟨y, ci, q1, q2, q3, q4⟩ := each i hi
            obtain ⟨k1, k2⟩ := cells_mem q2 (by omega)
            refine ⟨ci, q2, ?_⟩
            rw [add_none] at k2
            rw [List.drop_drop]
            exact k2
          have hsz : len * P.cellsOf e ≤ (((gW W).M b).drop o).length := by
            obtain ⟨ci, k1, k3⟩ := mem (len - 1) (by omega)
            have hl := (cells_get k1).1
            rw [k3, List.length_take, List.length_drop] at hl
            have : (len - 1) * P.cellsOf e + P.cellsOf e = len * P.cellsOf e := by
              rw [← Nat.succ_mul]; congr 1; omega
            omega
          have hch := lift_chunks (g := gW W) (us := ((gW W).M b).drop o) (sz := P.cellsOf e) (f := fun i => absC P m e ((elems.map (·.1)).getD i .nil)) len hsz fun i hi => by
            obtain ⟨y, ci, q1, q2, q3, q4⟩ := each i hi
            obtain ⟨ci', k1, k3⟩ := mem i hi
            rw [k1] at q2
            cases q2
            rw [← k3]
            have : (elems.map (·.1)).getD i .nil = y.1 := by rw [List.getD_eq_getElem?_getD, List.getElem?_map, q1]; rfl
            rw [this]
            exact q3
          have hfm : (List.range len).flatMap (fun i => absC P m e ((elems.map (·.1)).getD i .nil)) = (elems.map (·.1)).flatMap (absC P m e) := by
            have : elems.map (·.1) = (List.range len).map (fun i => (elems.map (·.1)).getD i .nil) := by
              apply List.ext_getElem?
              intro i
              by_cases hi : i < len
              · rw [List.getElem?_map, List.getElem?_map, List.getElem?_range hi]
                simp [List.getD_eq_getElem?_getD, List.getElem?_eq_getElem (show i < elems.length by omega)]
              · rw [List.getElem?_eq_none (by simp; omega), List.getElem?_eq_none (by simp; omega)]
            conv => rhs; rw [this]
            rw [List.flatMap_map]
          rw [hfm] at hch
          have hul : ((((gW W).M b).drop o).take (len * P.cellsOf e)).length = len * P.cellsOf e := by rw [List.length_take]; omega
          refine .imm _ len cap false _ ((((gW W).M b).drop o).take (len * P.cellsOf e)) ⟨b, o, none⟩ ?_ hch.1 hch.2 ?_ (fun _ => ⟨rfl, List.take_prefix _ _⟩) hlc (fun h => by cases h) hcm
          · rw [← hch.1, hul]
          · intro u hu
            obtain ⟨k, hk, rfl⟩ := List.mem_iff_getElem.1 hu
            rw [hul] at hk
            have hki : k / P.cellsOf e < len := Nat.div_lt_of_lt_mul (by rw [Nat.mul_comm]; exact hk)
            obtain ⟨y, ci, q1, q2, q3, q4⟩ := each (k / P.cellsOf e) hki
            obtain ⟨ci', k1, k3⟩ := mem (k / P.cellsOf e) hki
            rw [k1] at q2
            cases q2
            refine q4 _ (List.mem_of_getElem? (i := k % P.cellsOf e) ?_)
            rw [k3, List.getElem?_take, if_pos (Nat.mod_lt _ hpos), List.getElem?_drop, Nat.mul_comm, Nat.div_add_mod, List.getElem_take, List.getElem?_eq_getElem]
    · rename_i fs hu
      simp only [Bool.and_eq_true, List.all_eq_true] at hg
      obtain ⟨hg1, hg2⟩ := hg
      obtain ⟨xs, n, _, rfl, _, hxl, hat⟩ := DataW.trod_struct hu h
      simp only [absC, hu]
      have gen : ∀ (l : List Field) (ys : List (DataW H × List MemPlace)) (off : Nat), contig P (P.cellsOf t) off l = true → (∀ f ∈ l, goodT P m f.type = true) → ys.length = l.length →
          (∀ (i : Nat) (f : Field), l[i]? = some f → DataW.trod enc P W 0 spare held n f.type ((cs.drop f.offset).take (P.cellsOf f.type)) = ys[i]?) → off ≤ P.cellsOf t →
          VRs (gW W) (absF (absC P m) l (ys.map (·.1))) (cs.drop off) ∧ ∀ u ∈ cs.drop off, u.oneCell' = true := by
        intro l
        induction l with
        | nil =>
          intro ys off hc _ hy _ _
          simp only [contig, beq_iff_eq] at hc
          have : cs.drop off = [] := List.drop_eq_nil_iff.2 (by omega)
          rw [this]
          exact ⟨.nil _, by simp⟩
        | cons f l ih =>
          intro ys off hc hgd hy hd hoff
          simp only [contig, Bool.and_eq_true, beq_iff_eq] at hc
          obtain ⟨hc1, hc2⟩ := hc
          match ys, hy with
          | y :: ys, hy =>
          have h0 := hd 0 f rfl
          simp only [List.getElem?_cons_zero] at h0
          rw [hc1] at h0
          have hle : ∀ (l : List Field) (o : Nat), contig P (P.cellsOf t) o l = true → o ≤ P.cellsOf t := by
            intro l
            induction l with
            | nil => intro o h; simp only [contig, beq_iff_eq] at h; omega
            | cons f l ih => intro o h; simp only [contig, Bool.and_eq_true] at h; have := ih _ h.2; omega
          have hle2 := hle l _ hc2
          have hl1 : ((cs.drop off).take (P.cellsOf f.type)).length = P.cellsOf f.type := by rw [List.length_take, List.length_drop]; omega
          obtain ⟨k1, k2⟩ := lift m f.type (hgd f (by simp)) n _ _ hl1 h0
          obtain ⟨k3, k4⟩ := ih ys (off + P.cellsOf f.type) hc2 (fun f' hf => hgd f' (by simp [hf])) (by simpa using hy) (fun i f' hf => hd (i + 1) f' (by simpa using hf)) hle2
          have e : cs.drop off = (cs.drop off).take (P.cellsOf f.type) ++ cs.drop (off + P.cellsOf f.type) := by
            rw [← List.drop_drop, List.take_append_drop]
          rw [e]
          refine ⟨?_, fun u hu => ?_⟩
          · simp only [List.map_cons, absF]
            exact k1.append k3
          · rcases List.mem_append.1 hu with h | h
            · exact k2 u h
            · exact k4 u h
      have := gen fs.toList xs 0 hg1 hg2 (by simpa using hxl) (fun i f hf => hat i f (by simpa using hf)) (Nat.zero_le _)
      simpa using this
    · rename_i nn e hu
      simp only [Bool.and_eq_true, beq_iff_eq] at hg
      obtain ⟨hg1, hg2⟩ := hg
      obtain ⟨xs, n, _, rfl, _, hxl, hat⟩ := DataW.trod_array hu h
      simp only [absC, hu]
      have each : ∀ i, i < nn → ∃ y, xs[i]? = some y ∧ VRs (gW W) (absC P m e y.1) ((cs.drop (i * P.cellsOf e)).take (P.cellsOf e)) ∧ ∀ u ∈ (cs.drop (i * P.cellsOf e)).take (P.cellsOf e), u.oneCell' = true := fun i hi => by
        have h1 := hat i hi
        rw [List.getElem?_eq_getElem (by omega)] at h1
        have hm : (i + 1) * P.cellsOf e ≤ nn * P.cellsOf e := Nat.mul_le_mul_right _ hi
        rw [Nat.add_mul, Nat.one_mul] at hm
        obtain ⟨h3, h4⟩ := lift m e hg2 n _ _ (by rw [List.length_take, List.length_drop]; omega) h1
        exact ⟨_, List.getElem?_eq_getElem (by omega), h3, h4⟩
      have hch := lift_chunks (g := gW W) (us := cs) (sz := P.cellsOf e) (f := fun i => absC P m e ((xs.map (·.1)).getD i .nil)) nn (by omega) fun i hi => by
        obtain ⟨y, q1, q3, q4⟩ := each i hi
        have : (xs.map (·.1)).getD i .nil = y.1 := by rw [List.getD_eq_getElem?_getD, List.getElem?_map, q1]; rfl
        rw [this]
        exact q3
      have hfm : (List.range nn).flatMap (fun i => absC P m e ((xs.map (·.1)).getD i .nil)) = (xs.map (·.1)).flatMap (absC P m e) := by
        have : xs.map (·.1) = (List.range nn).map (fun i => (xs.map (·.1)).getD i .nil) := by
          apply List.ext_getElem?
          intro i
          by_cases hi : i < nn
          · rw [List.getElem?_map, List.getElem?_map, List.getElem?_range hi]
            simp [List.getD_eq_getElem?_getD, List.getElem?_eq_getElem (show i < xs.length by omega)]
          · rw [List.getElem?_eq_none (by simp; omega), List.getElem?_eq_none (by simp; omega)]
        conv => rhs; rw [this]
        rw [List.flatMap_map]
      rw [hfm, List.take_of_length_le (by omega)] at hch
      refine ⟨hch, fun u hu => ?_⟩
      obtain ⟨k, hk, rfl⟩ := List.mem_iff_getElem.1 hu
      have hpos : 0 < P.cellsOf e := Nat.pos_of_ne_zero fun h0 => by rw [h0, Nat.mul_zero] at hg1; omega
      have hki : k / P.cellsOf e < nn := Nat.div_lt_of_lt_mul (by rw [Nat.mul_comm]; omega)
      obtain ⟨y, q1, q3, q4⟩ := each (k / P.cellsOf e) hki
      refine q4 _ (List.mem_of_getElem? (i := k % P.cellsOf e) ?_)
      rw [List.getElem?_take, if_pos (Nat.mod_lt _ hpos), List.getElem?_drop, Nat.mul_comm, Nat.div_add_mod, List.getElem?_eq_getElem]
    · cases hg
end
end Go.Proofs.Ytniaiciabfdbnaa.E
