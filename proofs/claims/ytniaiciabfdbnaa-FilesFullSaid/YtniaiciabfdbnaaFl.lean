/- FilesFull over the abstract machine: the loop's invariant, and that it returns true. No condition beyond those that the lemmas name. -/
import Derived.Test.YtniaiciabfdbnaaFb
import Derived.Test.YtniaiciabfdbnaaFc
namespace Go.Proofs.Ytniaiciabfdbnaa.E
open Go Go.Proofs
set_option maxRecDepth 100000
def nest : List Code → Code → Code
  | [], r => r
  | a :: l, r => .seq a (nest l r)
def runs (E : Env) (ov : OvP) (sites : Nat → List Nat) (ss : List Nat) : List Code → Tm → St → List AV → Option (Tm × St × List AV × Ob)
  | [], T, st, x => some (T, st, x, [])
  | c :: l, T, st, x => match evS E ov sites 1000000 ss c T st x with
    | some (.normal, T1, st1, x1, o1) => match runs E ov sites ss l T1 st1 x1 with
      | some (T2, st2, x2, o2) => some (T2, st2, x2, o1 ++ o2)
      | none => none
    | _ => none
theorem runs_ok {P : Program} {E : Env} (hE : EOK' P E) {ov : OvP} {sites : Nat → List Nat} {ss : List Nat} (hov : ∀ f args st r st' p, ov f args st = some (r, st', p) → p → ACalls P f args (fun a s => a = r ∧ s = st') st) :
    ∀ (l : List Code) {T : Tm} {st : St} {x : List AV} {T1 : Tm} {st1 : St} {x1 : List AV} {ob : Ob} {rest : Code} {Q : Exit → Tm → St → Prop}, runs E ov sites ss l T st x = some (T1, st1, x1, ob) → ob.ok → AW P rest Q T1 st1 → AW P (nest l rest) Q T st
  | [], T, st, x, T1, st1, x1, ob, rest, Q, h, _, k => by
    simp only [runs, Option.some.injEq, Prod.mk.injEq] at h
    obtain ⟨rfl, rfl, _, _⟩ := h
    exact k
  | c :: l, T, st, x, T1, st1, x1, ob, rest, Q, h, hob, k => by
    simp only [runs] at h
    split at h
    · rename_i T2 st2 x2 o1 h1
      split at h
      · rename_i T3 st3 x3 o3 h3
        cases h
        obtain ⟨ob1, ob2⟩ := Ob.ok_append.1 hob
        refine .seq (((evS_ok hE hov 1000000).code _ _ _ _ _ _ _ _ _ _ h1 ob1).mono fun e T' st' he => ?_)
        obtain ⟨rfl, rfl, rfl⟩ := he
        exact runs_ok hE hov l h3 ob2 k
      · cases h
    · cases h
noncomputable def partsF : List Code × Code × Code := match Try.f6.body with
  | some (.seq r0 (.seq r1 (.seq r2 (.seq c3 (.seq r5 (.seq (.seq r6 _) t)))))) => ([r0, r1, r2, c3, r5], r6, t)
  | _ => ([], .skip, .skip)
theorem bodyF_eq : Try.f6.body = some (nest partsF.1 (.seq (.seq partsF.2.1 (.block 0 (.loop bodyF))) partsF.2.2)) := by kernel_rfl
def sitesP : Nat → List Nat
  | 6 => [19]
  | 23 => [5]
  | _ => []
def awakeP : OvP := fun f args st => if f = 24 then (match args with | [] => some (TT, st, True) | _ => none) else none
theorem awake13_ev : isTrue (evCall E0 ovF 1000000 24 [] st00) = true := by kernel_rfl
theorem awake13 (st : St) : ACalls Try.prog 24 [] (fun a st' => a = TT ∧ st' = st) st := fun g w us hok hv => by
  obtain rfl : us = [] := List.eq_nil_of_length_eq_zero hv.1
  exact (closedF awake13_ev w).mono fun e w' ⟨he, hb⟩ => ⟨g, st, TT, .bool true, he, step_below hok hb, .val _ rfl, rfl, rfl⟩
theorem awakeP_ok : ∀ f args st r st' p, awakeP f args st = some (r, st', p) → p → ACalls Try.prog f args (fun a s => a = r ∧ s = st') st := by
  intro f args st r st' p h _
  unfold awakeP at h
  split at h
  · rename_i hf
    subst hf
    split at h
    · cases h; exact awake13 st
    · cases h
  · cases h
def remH (a b : Int) : Int := valI (binOp .rem 50 (.int .u16 a) (.int .u16 b))
noncomputable def preF (q most : Int) (L : AV) := runs E0 awakeP sitesP (sitesP 6) (partsF.1 ++ [partsF.2.1]) (enterT Try.f6 [.val (.int .u16 q), L] []) st00 [i64 most, FF]
def dF (T : Tm) : Nat := match T.get 6 with | .ptr d _ => d | _ => 0
def mF (st : St) (d : Nat) : Nat := match st.get d with | some (.row (.mp m :: _) _) => m | _ => 0
def preFacts (q : Tm × St × List AV × Ob) := (q.1.n, [q.1.get 5, q.1.get 6, q.1.get 8, q.1.get 41, q.1.get 42, q.1.get 43], q.2.1.lock, q.1.gl, q.2.1.get (dF q.1), q.2.1.get (mF q.2.1 (dF q.1)), q.2.2.2)
theorem pre_nil (q most : Int) : (preF q most .nils).map preFacts = (preF q most .nils).map fun r => (112, [i64 most, .ptr (dF r.1) 0, i64 0, .nils, i64 0, i64 0], [], [], some (.row [.mp (mF r.2.1 (dF r.1)), i64 most, i64 0, FF] 103), some (.map [(nameA, file .nils), (nameB, file .nils)] [0, 1] 2),
   [i64 (IntKind.i64.wrap (remH q 301)) = i64 most, bo (ltN most 0) = FF, True]) := by kernel_rfl
theorem pre_imm (q most : Int) (nl : Nat) (cl : List AV) : (preF q most (.imm 1 nl false cl)).map preFacts = (preF q most (.imm 1 nl false cl)).map fun r => (112, [i64 most, .ptr (dF r.1) 0, i64 0, .imm 1 nl false cl, i64 nl, i64 0], [], [], some (.row [.mp (mF r.2.1 (dF r.1)), i64 most, i64 0, FF] 103), some (.map [(nameA, file .nils), (nameB, file .nils)] [0, 1] 2),
   [i64 (IntKind.i64.wrap (remH q 301)) = i64 most, bo (ltN most 0) = FF, True]) := by kernel_rfl
theorem pre_nil_some (q most : Int) : (preF q most .nils).isSome = true := by kernel_rfl
theorem pre_imm_some (q most : Int) (nl : Nat) (cl : List AV) : (preF q most (.imm 1 nl false cl)).isSome = true := by kernel_rfl
theorem gtN_eq (a b : Int) : gtN a b = decide (a > b) := rfl
theorem ltN_eq (a b : Int) : ltN a b = decide (a < b) := rfl
theorem eqN_eq (a b : Int) : eqN a b = (a == b) := rfl
theorem neN_eq (a b : Int) : neN a b = (a != b) := rfl
theorem strEqI_self (l : List Int) : strEqI l l = true := by
  show ((strOfNums l).toList == (strOfNums l).toList) = true
  simp
theorem ob_T {b : Bool} (h : b = true) : bo b = TT := by rw [h]; rfl
theorem ob_F {b : Bool} (h : b = false) : bo b = FF := by rw [h]; rfl
theorem addN_eq (a b : Int) (h : 0 ≤ a + b ∧ a + b ≤ 9223372036854775807) : addN a b = a + b := by
  have : addN a b = IntKind.i64.wrap (a + b) := rfl
  rw [this, IntWalk.i64_in _ (by omega)]
theorem subN_eq (a b : Int) (h : -9223372036854775808 ≤ a - b ∧ a - b ≤ 9223372036854775807) : subN a b = a - b := by
  have : subN a b = IntKind.i64.wrap (a - b) := rfl
  rw [this, IntWalk.i64_in _ h]
theorem exP_u8 (A : List Int) (L : Nat) (h : L = A.length) : exP (A.map u8) 0 L 1 := ⟨rfl, by simp [h]⟩
theorem growP_u8 (A : List Int) (n len : Nat) (h : n = A.length) (h0 : A ≠ []) (hb : len + n ≤ 1000000) : growP n len 1 1 (A.map u8) false :=
  ⟨⟨by simp [h], fun h => by cases h⟩, by rw [h]; exact fun e => h0 (List.eq_nil_of_length_eq_zero e), by omega, by omega⟩
theorem exP_nil : exP [] 0 0 1 := ⟨rfl, rfl⟩
theorem zeroP_nil : zeroP 0 1 [] false := ⟨⟨rfl, fun h => by cases h⟩, rfl⟩
theorem map_intOf (A : List Int) : (A.map u8).map intOf = A := by
  induction A with
  | nil => rfl
  | cons a r ih => simp only [List.map_cons, ih]; rfl
theorem numsA_u8 (A : List Int) : numsA (A.map u8) = some ((A.map u8).map intOf) := by
  rw [map_intOf]
  induction A with
  | nil => rfl
  | cons a r ih =>
    show (numsA (r.map u8)).map (a :: ·) = some (a :: r)
    rw [ih]; rfl
theorem okC_u8 (A : List Int) (L : Nat) (h : L = A.length) : exP (A.map u8) 0 L 1 ∧ numsA (A.map u8) = some ((A.map u8).map intOf) ∧ ((A.map u8).map intOf).length = L :=
  ⟨exP_u8 A L h, numsA_u8 A, by rw [map_intOf, h]⟩
theorem partA_get {cl : List AV} {k : Nat} {b : AV} (h : cl[k]? = some b) : partA E0 28 (cl.drop ((k : Int).toNat * 1)) 0 = some b := by
  unfold partA
  rw [ty28]
  simp [isAggD, h]
theorem usedN_eq (x y a b : AV) : usedN [(x, file a), (y, file b)] [0, 1] = lenV a + lenV b := by
  show lenV a + (lenV b + 0) = _
  omega
theorem usedProp_of (x y a b : AV) (ha : isSlice a = true) (hb : isSlice b = true) (h : lenV a + lenV b < 1000000000) : usedProp [(x, file a), (y, file b)] [0, 1] 2 :=
  ⟨by decide, by decide, rfl, fun i hi => by
    match i, hi with
    | 0, _ => exact ha
    | 1, _ => exact hb, by rw [usedN_eq]; exact h⟩
def esF (p : Bool) (t o : AV) : List (AV × AV) := if p then [(nameA, file o), (nameB, file t)] else [(nameA, file t), (nameB, file o)]
def DataR (st : St) (v : AV) (A : List Int) : Prop := (v = .nils ∧ A = []) ∨ (A ≠ [] ∧ ∃ id, v = .sl id 1 0 A.length false ∧ st.get id = some (.row (A.map u8) 5))
def diskF (m : Nat) (most : Int) : AObj := .row [.mp m, i64 most, i64 0, FF] 103
structure StF (p : Bool) (st : St) (d m : Nat) (most : Int) (dt dx : AV) (A B : List Int) : Prop where
  disk : st.get d = some (diskF m most)
  map : st.get m = some (.map (esF p dt dx) [0, 1] 2)
  t : DataR st dt A
  o : DataR st dx B
  apart : ∀ i j a b c e a' b' c' e', dt = .sl i a b c e → dx = .sl j a' b' c' e' → i ≠ j
  lock : st.lock = []
def can (i : Nat) : AV → AV | .sl _ sz off len full => .sl i sz off len full | v => v
def idOr (e : Nat) : AV → Nat | .sl id _ _ _ _ => id | _ => e
def rowOf (A : List Int) : AV → Option (List AV) | .sl _ _ _ _ _ => some (A.map u8) | _ => none
def rho (st : St) (d m : Nat) (dt dx : AV) (i : Nat) : Nat := if i = 0 then d else if i = 1 then m else if i = 2 then idOr d dt else if i = 3 then idOr d dx else st.next + (i - 4)
theorem renL_u8 (ρ : Nat → Nat) (A : List Int) : renL ρ (A.map u8) = A.map u8 := renL_vals ρ _ fun a ha => by
  obtain ⟨x, _, rfl⟩ := List.mem_map.1 ha
  exact ⟨_, rfl⟩
theorem stF_get (most : Int) (es : List (AV × AV)) (row : Option (List AV)) (id : Nat) : (stF most es row).get id = if id = 0 then some (diskF 1 most) else if id = 1 then some (.map es [0, 1] 2) else if id = 2 then row.map (fun c => .row c 5) else none := by
  have h0 : ∀ n id, ((⟨n, .nil, [], []⟩ : St)).get id = none := fun n id => by cases id <;> rfl
  unfold stF diskF
  cases row with
  | none => simp only [St.get_set, h0, Option.map_none]; by_cases h1 : id = 1 <;> by_cases h2 : id = 0 <;> simp [h1, h2]
  | some c => simp only [St.get_set, h0, Option.map_some]; by_cases h3 : id = 2 <;> by_cases h1 : id = 1 <;> by_cases h2 : id = 0 <;> simp [h1, h2, h3] <;> omega
theorem stF_next (most : Int) (es : List (AV × AV)) (row : Option (List AV)) : (stF most es row).next = 4 ∧ (stF most es row).lock = [] ∧ (stF most es row).gl = [] := by
  unfold stF; cases row <;> exact ⟨rfl, rfl, rfl⟩
theorem rho_new (st : St) (d m : Nat) (dt dx : AV) (i : Nat) (h : 4 ≤ i) : rho st d m dt dx i = st.next + (i - 4) := by
  unfold rho
  rw [if_neg (by omega), if_neg (by omega), if_neg (by omega), if_neg (by omega)]
theorem ren_file (ρ : Nat → Nat) (v : AV) : ren ρ (file v) = file (ren ρ v) := by simp [file, ren, renL, i64]
theorem ren_can2 {st : St} {d m : Nat} {dt dx : AV} {A : List Int} (h : DataR st dt A) : ren (rho st d m dt dx) (can 2 dt) = dt := by
  rcases h with ⟨rfl, _⟩ | ⟨_, id, rfl, _⟩ <;> simp [can, ren, rho, idOr]
theorem ren_can3 {st : St} {d m : Nat} {dt dx : AV} {B : List Int} (h : DataR st dx B) : ren (rho st d m dt dx) (can 3 dx) = dx := by
  rcases h with ⟨rfl, _⟩ | ⟨_, id, rfl, _⟩ <;> simp [can, ren, rho, idOr]
theorem ren_es (ρ : Nat → Nat) (p : Bool) (t o : AV) : (esF p t o).map (fun q => (ren ρ q.1, ren ρ q.2)) = esF p (ren ρ t) (ren ρ o) := by
  cases p <;> simp [esF, ren_file, nameA, nameB, ren]
theorem emb_of {p : Bool} {st : St} {d m : Nat} {most : Int} {dt dx : AV} {A B : List Int} (h : StF p st d m most dt dx A B) (hwf : st.wf) : Emb (stF most (esF p (can 2 dt) (can 3 dx)) (rowOf A dt)) st (rho st d m dt dx) := by
  obtain ⟨n1, n2, n3⟩ := stF_next most (esF p (can 2 dt) (can 3 dx)) (rowOf A dt)
  have hd := hwf _ _ h.disk
  have hm := hwf _ _ h.map
  have g := stF_get most (esF p (can 2 dt) (can 3 dx)) (rowOf A dt)
  have ht : idOr d dt < st.next := by
    rcases h.t with ⟨rfl, _⟩ | ⟨_, id, rfl, hi⟩
    · exact hd
    · exact hwf _ _ hi
  have ho : idOr d dx < st.next := by
    rcases h.o with ⟨rfl, _⟩ | ⟨_, id, rfl, hi⟩
    · exact hd
    · exact hwf _ _ hi
  have row2 : ∀ c, rowOf A dt = some c → ∃ id, dt = .sl id 1 0 A.length false ∧ st.get id = some (.row c 5) ∧ c = A.map u8 := fun c hc => by
    rcases h.t with ⟨rfl, _⟩ | ⟨_, id, rfl, hi⟩
    · cases hc
    · simp only [rowOf, Option.some.injEq] at hc
      exact ⟨id, rfl, by rw [← hc]; exact hi, hc.symm⟩
  have ne1 : d ≠ m := fun e => by have := h.disk; rw [e, h.map] at this; cases this
  have present : ∀ id o, (stF most (esF p (can 2 dt) (can 3 dx)) (rowOf A dt)).get id = some o → (id = 0 ∧ o = diskF 1 most) ∨ (id = 1 ∧ o = .map (esF p (can 2 dt) (can 3 dx)) [0, 1] 2) ∨ (id = 2 ∧ ∃ i, dt = .sl i 1 0 A.length false ∧ st.get i = some (.row (A.map u8) 5) ∧ o = .row (A.map u8) 5) := fun id o ho => by
    rw [g] at ho
    split at ho
    · rename_i h0; cases ho; exact .inl ⟨h0, rfl⟩
    · split at ho
      · rename_i h0; cases ho; exact .inr (.inl ⟨h0, rfl⟩)
      · split at ho
        · rename_i h0
          obtain ⟨c, hc, rfl⟩ := Option.map_eq_some_iff.1 ho
          obtain ⟨i, h1, h2, h3⟩ := row2 c hc
          subst h3
          exact .inr (.inr ⟨h0, i, h1, h2, rfl⟩)
        · cases ho
  refine ⟨fun i hi => ?_, fun i hi => ?_, fun i j o o' hi hj e => ?_, fun id o ho => ?_, fun id o ho => ?_, fun id o ho => ?_, fun p hp => ?_⟩
  · rw [n1] at hi ⊢; exact rho_new _ _ _ _ _ i hi
  · rw [n1] at hi
    match i, hi with
    | 0, _ => exact hd
    | 1, _ => exact hm
    | 2, _ => exact ht
    | 3, _ => exact ho
  · rcases present i o hi with ⟨rfl, rfl⟩ | ⟨rfl, rfl⟩ | ⟨rfl, a, ea, ga, rfl⟩ <;> rcases present j o' hj with ⟨rfl, rfl⟩ | ⟨rfl, rfl⟩ | ⟨rfl, b, eb, gb, rfl⟩ <;> first | rfl | skip
    all_goals exfalso
    · exact ne1 e
    · have e' : d = b := by simpa [rho, eb, idOr] using e
      rw [← e', h.disk] at gb; simp [diskF] at gb
    · exact ne1 e.symm
    · have e' : m = b := by simpa [rho, eb, idOr] using e
      rw [← e', h.map] at gb; cases gb
    · have e' : a = d := by simpa [rho, ea, idOr] using e
      rw [e', h.disk] at ga; simp [diskF] at ga
    · have e' : a = m := by simpa [rho, ea, idOr] using e
      rw [e', h.map] at ga; cases ga
  · rcases present id o ho with ⟨rfl, rfl⟩ | ⟨rfl, rfl⟩ | ⟨rfl, a, ea, ga, rfl⟩
    · rw [show rho st d m dt dx 0 = d from rfl, h.disk]
      simp [AObj.ren, diskF, renL, ren, i64, FF, rho]
    · rw [show rho st d m dt dx 1 = m from rfl, h.map]
      simp only [AObj.ren]
      rw [ren_es, ren_can2 h.t, ren_can3 h.o]
    · rw [show rho st d m dt dx 2 = idOr d dt from rfl, ea]
      simp only [idOr, AObj.ren, renL_u8]
      exact ga
  · rw [n1]; rcases present id o ho with ⟨rfl, _⟩ | ⟨rfl, _⟩ | ⟨rfl, _⟩ <;> decide
  · rw [n2, h.lock]; simp
  · rw [n3] at hp; cases hp
abbrev QF := Exit × Tm × St × List AV × Ob
structure OutF (p : Bool) (most used' : Int) (k nl : Nat) (cl : List AV) (st0 : St) (dx0 : AV) (A' : List Int) (q : QF) : Prop where
  ex : q.1 = .normal
  n : q.2.1.n = 112
  t5 : q.2.1.get 5 = i64 most
  t6 : q.2.1.get 6 = .ptr 0 0
  t8 : q.2.1.get 8 = i64 used'
  t41 : q.2.1.get 41 = .imm 1 nl false cl
  t42 : q.2.1.get 42 = i64 nl
  t43 : q.2.1.get 43 = i64 ((k + 1 : Nat) : Int)
  disk : q.2.2.1.get 0 = some (diskF 1 most)
  data : (A' = [] ∧ q.2.2.1.get 1 = some (.map (esF p .nils dx0) [0, 1] 2)) ∨ (A' ≠ [] ∧ ∃ ID, st0.had ID = true ∧ q.2.2.1.get 1 = some (.map (esF p (.sl ID 1 0 A'.length false) dx0) [0, 1] 2) ∧ q.2.2.1.get ID = some (.row (A'.map u8) 5))
structure TF (most used : Int) (k nl : Nat) (L : AV) (d : Nat) (T : Tm) : Prop where
  n : T.n = 112
  t5 : T.get 5 = i64 most
  t6 : T.get 6 = .ptr d 0
  t8 : T.get 8 = i64 used
  t41 : T.get 41 = L
  t42 : T.get 42 = i64 nl
  t43 : T.get 43 = i64 (k : Int)
theorem T0F_get (most used k : Int) (nl : Nat) (cl : List AV) (t : Nat) : (T0F most used k nl cl).get t = if 5 = t then i64 most else if 6 = t then .ptr 0 0 else if 8 = t then i64 used else if 41 = t then .imm 1 nl false cl else if 42 = t then i64 nl else if 43 = t then i64 k else .undef := rfl
theorem step_of {p : Bool} {st : St} {d m : Nat} {most used used' : Int} {dt dx : AV} {A B A' : List Int} {k nl : Nat} {cl : List AV} {T : Tm} {x : List AV} {q : QF} {Q : Exit → Tm → St → Prop}
    (h : StF p st d m most dt dx A B) (hwf : st.wf) (hT : TF most used k nl (.imm 1 nl false cl) d T) (hcl : ∀ ρ, renL ρ cl = cl)
    (hq : evF (T0F most used k nl cl) (stF most (esF p (can 2 dt) (can 3 dx)) (rowOf A dt)) x = some q) (hob : q.2.2.2.2.ok)
    (out : OutF p most used' k nl cl (stF most (esF p (can 2 dt) (can 3 dx)) (rowOf A dt)) (can 3 dx) A' q) :
    AW Try.prog bodyF (thenA (fun T' st' => ∃ dt', TF most used' (k + 1) nl (.imm 1 nl false cl) d T' ∧ StF p st' d m most dt' dx A' B) Q) T st := by
  have hE := emb_of h hwf
  obtain ⟨n1, n2, n3⟩ := stF_next most (esF p (can 2 dt) (can 3 dx)) (rowOf A dt)
  have g := stF_get most (esF p (can 2 dt) (can 3 dx)) (rowOf A dt)
  generalize hρ : rho st d m dt dx = ρ at hE
  have r0 : ρ 0 = d := by rw [← hρ]; rfl
  have r1 : ρ 1 = m := by rw [← hρ]; rfl
  have r2 : ρ 2 = idOr d dt := by rw [← hρ]; rfl
  have r3 : ren ρ (can 3 dx) = dx := by rw [← hρ]; exact ren_can3 h.o
  generalize hst0 : stF most (esF p (can 2 dt) (can 3 dx)) (rowOf A dt) = st0 at *
  obtain ⟨e1, T1, st1, x1, ob⟩ := q
  have hc := (evS_ok (sites := sitesF) (envOf_ok (P := Try.prog) rfl) usedP_ok 100000).code _ _ _ _ _ _ _ _ _ _ hq hob
  refine (hc.frame hE hT.n (fun t => ?_) (fun p hp => by cases hp)).mono fun e T' st' hpost => ?_
  · rw [T0F_get]
    by_cases h5 : 5 = t
    · subst h5; right; rw [if_pos rfl, hT.t5]; rfl
    rw [if_neg h5]
    by_cases h6 : 6 = t
    · subst h6; right; rw [if_pos rfl, hT.t6]; simp only [ren, r0]
    rw [if_neg h6]
    by_cases h8 : 8 = t
    · subst h8; right; rw [if_pos rfl, hT.t8]; rfl
    rw [if_neg h8]
    by_cases h41 : 41 = t
    · subst h41; right; rw [if_pos rfl, hT.t41]; simp only [ren, hcl]
    rw [if_neg h41]
    by_cases h42 : 42 = t
    · subst h42; right; rw [if_pos rfl, hT.t42]; rfl
    rw [if_neg h42]
    by_cases h43 : 43 = t
    · subst h43; right; rw [if_pos rfl, hT.t43]; rfl
    rw [if_neg h43]
    exact .inl rfl
  · obtain ⟨T0', st0', ⟨rfl, rfl, rfl⟩, rfl, rfl, hle, hwf'⟩ := hpost
    have hex : e = .normal := out.ex
    subst hex
    simp only [thenA]
    rw [n1] at hle
    have had0 : ∀ i o, st0.get i = some o → st0.had i = true := fun i o ho => St.had_of ho
    have hh0 : st0.had 0 = true := had0 0 _ (by rw [g]; rfl)
    have hh1 : st0.had 1 = true := had0 1 _ (by rw [g]; rfl)
    have hneq : ∀ j, (∃ B' : List Int, B' ≠ [] ∧ dx = .sl j 1 0 B'.length false ∧ st.get j = some (.row (B'.map u8) 5)) → ∀ i, st0.had i = true → ρ i ≠ j := by
      rintro j ⟨B', _, hdx, hj⟩ i hi e
      have hjlt := hwf _ _ hj
      rcases Nat.lt_or_ge i 4 with h4 | h4
      · simp only [St.had, n1, Bool.or_eq_true, decide_eq_true_eq] at hi
        have hs : (st0.get i).isSome = true := by
          rcases hi with h5 | h5
          · omega
          · exact h5
        match i, h4 with
        | 0, _ => rw [r0] at e; rw [← e, h.disk] at hj; simp [diskF] at hj
        | 1, _ => rw [r1] at e; rw [← e, h.map] at hj; cases hj
        | 2, _ =>
          rcases h.t with ⟨rfl, _⟩ | ⟨_, i2, rfl, hi2⟩
          · rw [g] at hs; simp [rowOf] at hs
          · rw [r2] at e
            exact h.apart _ _ _ _ _ _ _ _ _ _ rfl hdx e
        | 3, _ => rw [g] at hs; simp at hs
      · have := hE.new i (by rw [n1]; exact h4)
        rw [n1] at this
        omega
    have gd : (mergeSt st0' st st0 ρ).get d = some (diskF m most) := by
      rw [← r0, merge_in hE (by omega) hh0]
      have := out.disk
      simp only at this
      rw [this]
      simp [AObj.ren, diskF, renL, ren, i64, FF, r1]
    have gm : ∀ (t o : AV), st0'.get 1 = some (.map (esF p t o) [0, 1] 2) → (mergeSt st0' st st0 ρ).get m = some (.map (esF p (ren ρ t) (ren ρ o)) [0, 1] 2) := fun t o ho => by
      rw [← r1, merge_in hE (by omega) hh1, ho]
      simp only [Option.map_some, AObj.ren]
      rw [ren_es]
    have go : DataR (mergeSt st0' st st0 ρ) dx B := by
      rcases h.o with ⟨h1, h2⟩ | ⟨h1, j, h2, h3⟩
      · exact .inl ⟨h1, h2⟩
      · refine .inr ⟨h1, j, h2, ?_⟩
        rw [merge_out hE fun i _ hi => hneq j ⟨B, h1, h2, h3⟩ i hi]
        exact h3
    have tf : TF most used' (k + 1) nl (.imm 1 nl false cl) d (renT ρ T0' T.gl) := by
      refine ⟨out.n, ?_, ?_, ?_, ?_, ?_, ?_⟩ <;> rw [renT_get]
      · rw [show T0'.get 5 = _ from out.t5]; rfl
      · rw [show T0'.get 6 = _ from out.t6]; simp only [ren, r0]
      · rw [show T0'.get 8 = _ from out.t8]; rfl
      · rw [show T0'.get 41 = _ from out.t41]; simp only [ren, hcl]
      · rw [show T0'.get 42 = _ from out.t42]; rfl
      · rw [show T0'.get 43 = _ from out.t43]; rfl
    have hlock : (mergeSt st0' st st0 ρ).lock = [] := h.lock
    rcases out.data with ⟨h1, h2⟩ | ⟨h1, ID, h2, h3, h4⟩
    · refine ⟨.nils, tf, gd, ?_, .inl ⟨rfl, h1⟩, go, (fun i j a b c e a' b' c' e' h => by cases h), hlock⟩
      have := gm _ _ h2
      rw [r3] at this
      simpa [ren] using this
    · have hID : ID < st0'.next := hwf' _ _ h4
      refine ⟨.sl (ρ ID) 1 0 A'.length false, tf, gd, ?_, .inr ⟨h1, ρ ID, rfl, ?_⟩, go, fun i j a b c e a' b' c' e' h5 h6 => ?_, hlock⟩
      · have := gm _ _ h3
        rw [r3] at this
        simpa [ren] using this
      · rw [merge_in hE hID h2]
        simp only at h4
        rw [h4]
        simp only [Option.map_some, AObj.ren, renL_u8]
      · cases h5
        rcases h.o with ⟨h7, _⟩ | ⟨h7, j', h8, h9⟩
        · rw [h7] at h6; cases h6
        · have hj : j = j' := by rw [h8] at h6; cases h6; rfl
          subst hj
          exact hneq j ⟨B, h7, h8, h9⟩ ID h2
/-- a run's facts, out of what the kernel has found -/
theorem leaf_get {c : Option QF} (hc : c.isSome = true) {F : QF → Nat × Nat × List AV × List Nat × Option AObj × Ob} (ha : c.map factsF = c.map F) {p : Bool} {G : QF → Option AObj × Option AObj} (hb : c.map (fun q => dataF p q.2.2.1) = c.map G) {st0 : St} (hd : c.map (fun q => st0.had (idF p q.2.2.1)) = some true) :
    ∃ q, c = some q ∧ factsF q = F q ∧ dataF p q.2.2.1 = G q ∧ st0.had (idF p q.2.2.1) = true := by
  obtain ⟨q, rfl⟩ := Option.isSome_iff_exists.1 hc
  exact ⟨q, rfl, by simpa using ha, by simpa using hb, by simpa using hd⟩
theorem exN_zero {e : Exit} (h : exN e = 0) : e = .normal := by
  cases e <;> simp [exN] at h ⊢
theorem exP_app (A B : List Int) (L : Nat) (h : L = A.length + B.length) : exP (A.map u8 ++ B.map u8) 0 L 1 := by
  rw [← List.map_append]; exact exP_u8 _ _ (by simp [h])
theorem growP_app (A B : List Int) (n len : Nat) (h : n = A.length + B.length) (h0 : B ≠ []) (hb : len + n ≤ 1000000) : growP n len 1 1 (A.map u8 ++ B.map u8) false := by
  rw [← List.map_append]; exact growP_u8 _ _ _ (by simp [h]) (by simp [h0]) hb
theorem okC_app (A B : List Int) (L : Nat) (h : L = A.length + B.length) : exP (A.map u8 ++ B.map u8) 0 L 1 ∧ numsA (A.map u8 ++ B.map u8) = some ((A.map u8 ++ B.map u8).map intOf) ∧ ((A.map u8 ++ B.map u8).map intOf).length = L := by
  rw [← List.map_append]; exact okC_u8 _ _ (by simp [h])
theorem zeroP_u8 (A : List Int) (h : A = []) : zeroP A.length 1 (A.map u8) false := by subst h; exact zeroP_nil
theorem can_slice {st : St} {v : AV} {B : List Int} (h : DataR st v B) : isSlice (can 3 v) = true ∧ lenV (can 3 v) = B.length := by
  rcases h with ⟨rfl, rfl⟩ | ⟨_, id, rfl, _⟩ <;> exact ⟨rfl, rfl⟩
theorem o_lt {k nl : Nat} (h : k < nl) : bo (ltN k nl) = TT := ob_T (by rw [ltN_eq]; simp; omega)
theorem o_30 {k : Nat} (h : k < 30) : bo (eqN k 30) = FF := ob_F (by rw [eqN_eq]; simp; omega)
theorem o_par {k : Nat} {p : Nat} (h : k % 2 = p) : i64 (remN k 2) = i64 p := by
  have : remN (k : Int) 2 = (k : Int).tmod 2 := rfl
  rw [this, Int.tmod_eq_emod_of_nonneg (by omega)]
  congr 1
  omega
theorem o_next {k : Nat} (h : k < 30) : i64 (addN k 1) = i64 ((k : Int) + 1) := congrArg i64 (addN_eq _ _ (by omega))
theorem o_gt {A : List Int} (h : A ≠ []) : bo (gtN A.length 0) = TT := ob_T (by
  rw [gtN_eq]; simp
  exact Nat.pos_of_ne_zero fun e => h (List.eq_nil_of_length_eq_zero e))
theorem o_gt0 {A : List Int} (h : A = []) : bo (gtN A.length 0) = FF := ob_F (by rw [gtN_eq, h]; simp)
theorem r_ffAn_nil {st : St} {d m : Nat} {most : Int} {dx : AV} {A B : List Int} {k nl : Nat} {cl : List AV} {T : Tm} {Q : Exit → Tm → St → Prop}
    (h : StF false st d m most .nils dx A B) (hwf : st.wf) (hT : TF most ((A.length + B.length : Nat) : Int) k nl (.imm 1 nl false cl) d T) (hcl : ∀ ρ, renL ρ cl = cl) (hk : k < nl) (h30 : k < 30) (hpar : k % 2 = 0) (hb : cl[k]? = some (.nils))
    (hm : ((A.length + B.length : Nat) : Int) ≤ most) (hm3 : most ≤ 300) (hA : A = []) :
    AW Try.prog bodyF (thenA (fun T' st' => ∃ dt', TF most ((A.length + B.length : Nat) : Int) (k + 1) nl (.imm 1 nl false cl) d T' ∧ StF false st' d m most dt' dx A B) Q) T st := by
  have hx := can_slice h.o
  have hA0 : A.length = 0 := by rw [hA]; rfl
  obtain ⟨q, hq, hf, hdt, hhad⟩ := leaf_get (ffAn_nil_c most ((A.length + B.length : Nat) : Int) k nl cl (can 3 dx) ((A.length + B.length : Nat) : Int)) (ffAn_nil_a most ((A.length + B.length : Nat) : Int) k nl cl (can 3 dx) ((A.length + B.length : Nat) : Int)) (ffAn_nil_b most ((A.length + B.length : Nat) : Int) k nl cl (can 3 dx) ((A.length + B.length : Nat) : Int)) (ffAn_nil_d most ((A.length + B.length : Nat) : Int) k nl cl (can 3 dx) ((A.length + B.length : Nat) : Int))
  simp only [factsF, Prod.mk.injEq, List.cons.injEq] at hf
  obtain ⟨f1, f2, ⟨f5, f6, f8, f41, f42, f43, _⟩, _, fdisk, fob⟩ := hf
  simp only [dataF, Prod.mk.injEq] at hdt
  have hob : q.2.2.2.2.ok := by
    rw [fob]
    simp only [Ob.ok_cons, Ob.ok_nil, and_true]
    exact ⟨o_lt hk, ⟨by omega, by omega⟩, partA_get hb, o_30 h30, o_par hpar, trivial, ⟨trivial, zeroP_nil⟩, ob_F (by rw [addN_eq _ _ (by omega), gtN_eq]; simp; omega), congrArg i64 ((addN_eq _ _ (by omega)).trans (by omega)), ⟨trivial, zeroP_nil⟩, ⟨trivial, rfl, rfl⟩, ⟨trivial, rfl, rfl⟩, ob_T (strEqI_self _), usedProp_of _ _ _ _ rfl hx.1 (show 0 + lenV (can 3 dx) < 1000000000 from by rw [hx.2]; omega), ob_F (by rw [usedN_eq, neN_eq, bne_eq_false_iff_eq]; show ((0 + lenV (can 3 dx) : Nat) : Int) = _; rw [hx.2]; omega), o_next h30⟩
  refine step_of h hwf hT hcl hq hob ⟨exN_zero f1, f2, f5, f6, f8, f41, f42, f43, fdisk, ?_⟩
  exact .inl ⟨hA, hdt.1⟩
theorem r_ffAn_zero {st : St} {d m : Nat} {most : Int} {dx : AV} {A B : List Int} {k nl : Nat} {cl : List AV} {bs : List Int} {full : Bool} {T : Tm} {Q : Exit → Tm → St → Prop}
    (h : StF false st d m most .nils dx A B) (hwf : st.wf) (hT : TF most ((A.length + B.length : Nat) : Int) k nl (.imm 1 nl false cl) d T) (hcl : ∀ ρ, renL ρ cl = cl) (hk : k < nl) (h30 : k < 30) (hpar : k % 2 = 0) (hb : cl[k]? = some (.imm 1 bs.length full (bs.map u8)))
    (hm : ((A.length + B.length : Nat) : Int) ≤ most) (hm3 : most ≤ 300) (hA : A = []) (hbs : bs = []) :
    AW Try.prog bodyF (thenA (fun T' st' => ∃ dt', TF most ((A.length + B.length : Nat) : Int) (k + 1) nl (.imm 1 nl false cl) d T' ∧ StF false st' d m most dt' dx A B) Q) T st := by
  have hx := can_slice h.o
  have hz : bs.length = 0 := by rw [hbs]; rfl
  have hA0 : A.length = 0 := by rw [hA]; rfl
  obtain ⟨q, hq, hf, hdt, hhad⟩ := leaf_get (ffAn_zero_c most ((A.length + B.length : Nat) : Int) k nl cl (can 3 dx) bs.length full (bs.map u8) ((A.length + B.length : Nat) : Int)) (ffAn_zero_a most ((A.length + B.length : Nat) : Int) k nl cl (can 3 dx) bs.length full (bs.map u8) ((A.length + B.length : Nat) : Int)) (ffAn_zero_b most ((A.length + B.length : Nat) : Int) k nl cl (can 3 dx) bs.length full (bs.map u8) ((A.length + B.length : Nat) : Int)) (ffAn_zero_d most ((A.length + B.length : Nat) : Int) k nl cl (can 3 dx) bs.length full (bs.map u8) ((A.length + B.length : Nat) : Int))
  simp only [factsF, Prod.mk.injEq, List.cons.injEq] at hf
  obtain ⟨f1, f2, ⟨f5, f6, f8, f41, f42, f43, _⟩, _, fdisk, fob⟩ := hf
  simp only [dataF, Prod.mk.injEq] at hdt
  have hob : q.2.2.2.2.ok := by
    rw [fob]
    simp only [Ob.ok_cons, Ob.ok_nil, and_true]
    exact ⟨o_lt hk, ⟨by omega, by omega⟩, partA_get hb, o_30 h30, o_par hpar, o_gt0 hbs, ⟨trivial, zeroP_u8 bs hbs⟩, ob_F (by rw [addN_eq _ _ (by omega), gtN_eq]; simp; omega), congrArg i64 ((addN_eq _ _ (by omega)).trans (by omega)), ⟨trivial, zeroP_u8 bs hbs⟩, ⟨trivial, rfl, rfl⟩, ⟨trivial, rfl, rfl⟩, ob_T (strEqI_self _), usedProp_of _ _ _ _ rfl hx.1 (show 0 + lenV (can 3 dx) < 1000000000 from by rw [hx.2]; omega), ob_F (by rw [usedN_eq, neN_eq, bne_eq_false_iff_eq]; show ((0 + lenV (can 3 dx) : Nat) : Int) = _; rw [hx.2]; omega), o_next h30⟩
  refine step_of h hwf hT hcl hq hob ⟨exN_zero f1, f2, f5, f6, f8, f41, f42, f43, fdisk, ?_⟩
  exact .inl ⟨hA, hdt.1⟩
theorem r_ffAn_fit {st : St} {d m : Nat} {most : Int} {dx : AV} {A B : List Int} {k nl : Nat} {cl : List AV} {bs : List Int} {full : Bool} {T : Tm} {Q : Exit → Tm → St → Prop}
    (h : StF false st d m most .nils dx A B) (hwf : st.wf) (hT : TF most ((A.length + B.length : Nat) : Int) k nl (.imm 1 nl false cl) d T) (hcl : ∀ ρ, renL ρ cl = cl) (hk : k < nl) (h30 : k < 30) (hpar : k % 2 = 0) (hb : cl[k]? = some (.imm 1 bs.length full (bs.map u8)))
    (hm : ((A.length + B.length : Nat) : Int) ≤ most) (hm3 : most ≤ 300) (hA : A = []) (hbs : bs ≠ []) (hfit : ((A.length + B.length + bs.length : Nat) : Int) ≤ most) :
    AW Try.prog bodyF (thenA (fun T' st' => ∃ dt', TF most (((A ++ bs).length + B.length : Nat) : Int) (k + 1) nl (.imm 1 nl false cl) d T' ∧ StF false st' d m most dt' dx (A ++ bs) B) Q) T st := by
  have hx := can_slice h.o
  have hl2 : (A ++ bs).length = A.length + bs.length := List.length_append
  have hA0 : A.length = 0 := by rw [hA]; rfl
  obtain ⟨q, hq, hf, hdt, hhad⟩ := leaf_get (ffAn_fit_c most ((A.length + B.length : Nat) : Int) k nl cl (can 3 dx) bs.length full (bs.map u8) (((A ++ bs).length + B.length : Nat) : Int)) (ffAn_fit_a most ((A.length + B.length : Nat) : Int) k nl cl (can 3 dx) bs.length full (bs.map u8) (((A ++ bs).length + B.length : Nat) : Int)) (ffAn_fit_b most ((A.length + B.length : Nat) : Int) k nl cl (can 3 dx) bs.length full (bs.map u8) (((A ++ bs).length + B.length : Nat) : Int)) (ffAn_fit_d most ((A.length + B.length : Nat) : Int) k nl cl (can 3 dx) bs.length full (bs.map u8) (((A ++ bs).length + B.length : Nat) : Int))
  simp only [factsF, Prod.mk.injEq, List.cons.injEq] at hf
  obtain ⟨f1, f2, ⟨f5, f6, f8, f41, f42, f43, _⟩, _, fdisk, fob⟩ := hf
  simp only [dataF, Prod.mk.injEq] at hdt
  have hob : q.2.2.2.2.ok := by
    rw [fob]
    simp only [Ob.ok_cons, Ob.ok_nil, and_true]
    exact ⟨o_lt hk, ⟨by omega, by omega⟩, partA_get hb, o_30 h30, o_par hpar, o_gt hbs, usedProp_of _ _ _ _ rfl hx.1 (show 0 + lenV (can 3 dx) < 1000000000 from by rw [hx.2]; omega), ob_F (by rw [usedN_eq, gtN_eq]; exact decide_eq_false (by show ¬ ((bs.length : Int) > subN most ((0 + lenV (can 3 dx) : Nat) : Int)); rw [hx.2, subN_eq _ _ (by omega)]; omega)), ⟨trivial, growP_u8 bs _ _ rfl hbs (by omega)⟩, ⟨exP_u8 bs _ (by omega), growP_u8 bs _ _ (by omega) hbs (by omega), exP_nil⟩, ob_F (by rw [addN_eq _ _ (by omega), gtN_eq]; simp; omega), congrArg i64 ((addN_eq _ _ (by omega)).trans (by omega)), ⟨trivial, growP_u8 bs _ _ rfl hbs (by omega)⟩, okC_u8 bs _ (by omega), okC_u8 bs _ (by omega), ob_T (strEqI_self _), usedProp_of _ _ _ _ rfl hx.1 (show bs.length + lenV (can 3 dx) < 1000000000 from by rw [hx.2]; omega), ob_F (by rw [usedN_eq, neN_eq, bne_eq_false_iff_eq]; show ((bs.length + lenV (can 3 dx) : Nat) : Int) = _; rw [hx.2]; omega), o_next h30⟩
  refine step_of h hwf hT hcl hq hob ⟨exN_zero f1, f2, f5, f6, f8, f41, f42, f43, fdisk, ?_⟩
  refine .inr ⟨by rw [hA]; exact hbs, _, hhad, ?_, ?_⟩
  · have h1 := hdt.1
    rw [show bs.length = (A ++ bs).length by omega] at h1
    exact h1
  · rw [hA]; exact hdt.2
theorem r_ffAn_full {st : St} {d m : Nat} {most : Int} {dx : AV} {A B : List Int} {k nl : Nat} {cl : List AV} {bs : List Int} {full : Bool} {T : Tm} {Q : Exit → Tm → St → Prop}
    (h : StF false st d m most .nils dx A B) (hwf : st.wf) (hT : TF most ((A.length + B.length : Nat) : Int) k nl (.imm 1 nl false cl) d T) (hcl : ∀ ρ, renL ρ cl = cl) (hk : k < nl) (h30 : k < 30) (hpar : k % 2 = 0) (hb : cl[k]? = some (.imm 1 bs.length full (bs.map u8)))
    (hm : ((A.length + B.length : Nat) : Int) ≤ most) (hm3 : most ≤ 300) (hA : A = []) (hbs : bs ≠ []) (hbl : bs.length ≤ 1000000000000000000) (hfull : most < ((A.length + B.length + bs.length : Nat) : Int)) :
    AW Try.prog bodyF (thenA (fun T' st' => ∃ dt', TF most ((A.length + B.length : Nat) : Int) (k + 1) nl (.imm 1 nl false cl) d T' ∧ StF false st' d m most dt' dx A B) Q) T st := by
  have hx := can_slice h.o
  have hA0 : A.length = 0 := by rw [hA]; rfl
  obtain ⟨q, hq, hf, hdt, hhad⟩ := leaf_get (ffAn_full_c most ((A.length + B.length : Nat) : Int) k nl cl (can 3 dx) bs.length full (bs.map u8)) (ffAn_full_a most ((A.length + B.length : Nat) : Int) k nl cl (can 3 dx) bs.length full (bs.map u8)) (ffAn_full_b most ((A.length + B.length : Nat) : Int) k nl cl (can 3 dx) bs.length full (bs.map u8)) (ffAn_full_d most ((A.length + B.length : Nat) : Int) k nl cl (can 3 dx) bs.length full (bs.map u8))
  simp only [factsF, Prod.mk.injEq, List.cons.injEq] at hf
  obtain ⟨f1, f2, ⟨f5, f6, f8, f41, f42, f43, _⟩, _, fdisk, fob⟩ := hf
  simp only [dataF, Prod.mk.injEq] at hdt
  have hob : q.2.2.2.2.ok := by
    rw [fob]
    simp only [Ob.ok_cons, Ob.ok_nil, and_true]
    exact ⟨o_lt hk, ⟨by omega, by omega⟩, partA_get hb, o_30 h30, o_par hpar, o_gt hbs, usedProp_of _ _ _ _ rfl hx.1 (show 0 + lenV (can 3 dx) < 1000000000 from by rw [hx.2]; omega), ob_T (by rw [usedN_eq, gtN_eq]; exact decide_eq_true (by show ((bs.length : Int) > subN most ((0 + lenV (can 3 dx) : Nat) : Int)); rw [hx.2, subN_eq _ _ (by omega)]; omega)), ob_T (by rw [addN_eq _ _ (by omega), gtN_eq]; simp; omega), o_gt hbs, ⟨trivial, rfl, rfl⟩, ⟨trivial, rfl, rfl⟩, ob_T (strEqI_self _), o_next h30⟩
  refine step_of h hwf hT hcl hq hob ⟨exN_zero f1, f2, f5, f6, f8, f41, f42, f43, fdisk, ?_⟩
  exact .inl ⟨hA, hdt.1⟩
theorem r_ffAs_nil {st : St} {d m : Nat} {most : Int} {id : Nat} {dx : AV} {A B : List Int} {k nl : Nat} {cl : List AV} {T : Tm} {Q : Exit → Tm → St → Prop}
    (h : StF false st d m most (.sl id 1 0 A.length false) dx A B) (hwf : st.wf) (hT : TF most ((A.length + B.length : Nat) : Int) k nl (.imm 1 nl false cl) d T) (hcl : ∀ ρ, renL ρ cl = cl) (hk : k < nl) (h30 : k < 30) (hpar : k % 2 = 0) (hb : cl[k]? = some (.nils))
    (hm : ((A.length + B.length : Nat) : Int) ≤ most) (hm3 : most ≤ 300) (hA : A ≠ []) :
    AW Try.prog bodyF (thenA (fun T' st' => ∃ dt', TF most ((A.length + B.length : Nat) : Int) (k + 1) nl (.imm 1 nl false cl) d T' ∧ StF false st' d m most dt' dx A B) Q) T st := by
  have hx := can_slice h.o
  obtain ⟨q, hq, hf, hdt, hhad⟩ := leaf_get (ffAs_nil_c most ((A.length + B.length : Nat) : Int) k nl cl (can 3 dx) A.length (A.map u8) ((A.length + B.length : Nat) : Int)) (ffAs_nil_a most ((A.length + B.length : Nat) : Int) k nl cl (can 3 dx) A.length (A.map u8) ((A.length + B.length : Nat) : Int)) (ffAs_nil_b most ((A.length + B.length : Nat) : Int) k nl cl (can 3 dx) A.length (A.map u8) ((A.length + B.length : Nat) : Int)) (ffAs_nil_d most ((A.length + B.length : Nat) : Int) k nl cl (can 3 dx) A.length (A.map u8) ((A.length + B.length : Nat) : Int))
  simp only [factsF, Prod.mk.injEq, List.cons.injEq] at hf
  obtain ⟨f1, f2, ⟨f5, f6, f8, f41, f42, f43, _⟩, _, fdisk, fob⟩ := hf
  simp only [dataF, Prod.mk.injEq] at hdt
  have hob : q.2.2.2.2.ok := by
    rw [fob]
    simp only [Ob.ok_cons, Ob.ok_nil, and_true]
    exact ⟨o_lt hk, ⟨by omega, by omega⟩, partA_get hb, o_30 h30, o_par hpar, ⟨exP_u8 A _ (by omega), growP_u8 A _ _ (by omega) hA (by omega), exP_nil⟩, trivial, ⟨exP_u8 A _ (by omega), growP_u8 A _ _ (by omega) hA (by omega), exP_nil⟩, ⟨trivial, zeroP_nil⟩, ⟨exP_u8 A _ (by omega), growP_u8 A _ _ (by omega) hA (by omega), exP_nil⟩, ob_F (by rw [addN_eq _ _ (by omega), gtN_eq]; simp; omega), congrArg i64 ((addN_eq _ _ (by omega)).trans (by omega)), ⟨trivial, zeroP_nil⟩, okC_u8 A _ (by omega), okC_u8 A _ (by omega), ob_T (strEqI_self _), usedProp_of _ _ _ _ rfl hx.1 (show (0 + A.length) + lenV (can 3 dx) < 1000000000 from by rw [hx.2]; omega), ob_F (by rw [usedN_eq, neN_eq, bne_eq_false_iff_eq]; show (((0 + A.length) + lenV (can 3 dx) : Nat) : Int) = _; rw [hx.2]; omega), o_next h30⟩
  refine step_of h hwf hT hcl hq hob ⟨exN_zero f1, f2, f5, f6, f8, f41, f42, f43, fdisk, ?_⟩
  refine .inr ⟨hA, _, hhad, ?_, ?_⟩
  · have h1 := hdt.1
    rw [show (0 + A.length) = A.length by omega] at h1
    exact h1
  · exact hdt.2
theorem r_ffAs_zero {st : St} {d m : Nat} {most : Int} {id : Nat} {dx : AV} {A B : List Int} {k nl : Nat} {cl : List AV} {bs : List Int} {full : Bool} {T : Tm} {Q : Exit → Tm → St → Prop}
    (h : StF false st d m most (.sl id 1 0 A.length false) dx A B) (hwf : st.wf) (hT : TF most ((A.length + B.length : Nat) : Int) k nl (.imm 1 nl false cl) d T) (hcl : ∀ ρ, renL ρ cl = cl) (hk : k < nl) (h30 : k < 30) (hpar : k % 2 = 0) (hb : cl[k]? = some (.imm 1 bs.length full (bs.map u8)))
    (hm : ((A.length + B.length : Nat) : Int) ≤ most) (hm3 : most ≤ 300) (hA : A ≠ []) (hbs : bs = []) :
    AW Try.prog bodyF (thenA (fun T' st' => ∃ dt', TF most ((A.length + B.length : Nat) : Int) (k + 1) nl (.imm 1 nl false cl) d T' ∧ StF false st' d m most dt' dx A B) Q) T st := by
  have hx := can_slice h.o
  have hz : bs.length = 0 := by rw [hbs]; rfl
  obtain ⟨q, hq, hf, hdt, hhad⟩ := leaf_get (ffAs_zero_c most ((A.length + B.length : Nat) : Int) k nl cl (can 3 dx) A.length (A.map u8) bs.length full (bs.map u8) ((A.length + B.length : Nat) : Int)) (ffAs_zero_a most ((A.length + B.length : Nat) : Int) k nl cl (can 3 dx) A.length (A.map u8) bs.length full (bs.map u8) ((A.length + B.length : Nat) : Int)) (ffAs_zero_b most ((A.length + B.length : Nat) : Int) k nl cl (can 3 dx) A.length (A.map u8) bs.length full (bs.map u8) ((A.length + B.length : Nat) : Int)) (ffAs_zero_d most ((A.length + B.length : Nat) : Int) k nl cl (can 3 dx) A.length (A.map u8) bs.length full (bs.map u8) ((A.length + B.length : Nat) : Int))
  simp only [factsF, Prod.mk.injEq, List.cons.injEq] at hf
  obtain ⟨f1, f2, ⟨f5, f6, f8, f41, f42, f43, _⟩, _, fdisk, fob⟩ := hf
  simp only [dataF, Prod.mk.injEq] at hdt
  have hob : q.2.2.2.2.ok := by
    rw [fob]
    simp only [Ob.ok_cons, Ob.ok_nil, and_true]
    exact ⟨o_lt hk, ⟨by omega, by omega⟩, partA_get hb, o_30 h30, o_par hpar, ⟨exP_u8 A _ (by omega), growP_u8 A _ _ (by omega) hA (by omega), exP_nil⟩, o_gt0 hbs, ⟨exP_u8 A _ (by omega), growP_u8 A _ _ (by omega) hA (by omega), exP_nil⟩, ⟨trivial, zeroP_u8 bs hbs⟩, ⟨exP_u8 A _ (by omega), growP_u8 A _ _ (by omega) hA (by omega), exP_nil⟩, ob_F (by rw [addN_eq _ _ (by omega), gtN_eq]; simp; omega), congrArg i64 ((addN_eq _ _ (by omega)).trans (by omega)), ⟨trivial, zeroP_u8 bs hbs⟩, okC_u8 A _ (by omega), okC_u8 A _ (by omega), ob_T (strEqI_self _), usedProp_of _ _ _ _ rfl hx.1 (show (0 + A.length) + lenV (can 3 dx) < 1000000000 from by rw [hx.2]; omega), ob_F (by rw [usedN_eq, neN_eq, bne_eq_false_iff_eq]; show (((0 + A.length) + lenV (can 3 dx) : Nat) : Int) = _; rw [hx.2]; omega), o_next h30⟩
  refine step_of h hwf hT hcl hq hob ⟨exN_zero f1, f2, f5, f6, f8, f41, f42, f43, fdisk, ?_⟩
  refine .inr ⟨hA, _, hhad, ?_, ?_⟩
  · have h1 := hdt.1
    rw [show (0 + A.length) = A.length by omega] at h1
    exact h1
  · exact hdt.2
theorem r_ffAs_fit {st : St} {d m : Nat} {most : Int} {id : Nat} {dx : AV} {A B : List Int} {k nl : Nat} {cl : List AV} {bs : List Int} {full : Bool} {T : Tm} {Q : Exit → Tm → St → Prop}
    (h : StF false st d m most (.sl id 1 0 A.length false) dx A B) (hwf : st.wf) (hT : TF most ((A.length + B.length : Nat) : Int) k nl (.imm 1 nl false cl) d T) (hcl : ∀ ρ, renL ρ cl = cl) (hk : k < nl) (h30 : k < 30) (hpar : k % 2 = 0) (hb : cl[k]? = some (.imm 1 bs.length full (bs.map u8)))
    (hm : ((A.length + B.length : Nat) : Int) ≤ most) (hm3 : most ≤ 300) (hA : A ≠ []) (hbs : bs ≠ []) (hfit : ((A.length + B.length + bs.length : Nat) : Int) ≤ most) :
    AW Try.prog bodyF (thenA (fun T' st' => ∃ dt', TF most (((A ++ bs).length + B.length : Nat) : Int) (k + 1) nl (.imm 1 nl false cl) d T' ∧ StF false st' d m most dt' dx (A ++ bs) B) Q) T st := by
  have hx := can_slice h.o
  have hl2 : (A ++ bs).length = A.length + bs.length := List.length_append
  obtain ⟨q, hq, hf, hdt, hhad⟩ := leaf_get (ffAs_fit_c most ((A.length + B.length : Nat) : Int) k nl cl (can 3 dx) A.length (A.map u8) bs.length full (bs.map u8) (((A ++ bs).length + B.length : Nat) : Int)) (ffAs_fit_a most ((A.length + B.length : Nat) : Int) k nl cl (can 3 dx) A.length (A.map u8) bs.length full (bs.map u8) (((A ++ bs).length + B.length : Nat) : Int)) (ffAs_fit_b most ((A.length + B.length : Nat) : Int) k nl cl (can 3 dx) A.length (A.map u8) bs.length full (bs.map u8) (((A ++ bs).length + B.length : Nat) : Int)) (ffAs_fit_d most ((A.length + B.length : Nat) : Int) k nl cl (can 3 dx) A.length (A.map u8) bs.length full (bs.map u8) (((A ++ bs).length + B.length : Nat) : Int))
  simp only [factsF, Prod.mk.injEq, List.cons.injEq] at hf
  obtain ⟨f1, f2, ⟨f5, f6, f8, f41, f42, f43, _⟩, _, fdisk, fob⟩ := hf
  simp only [dataF, Prod.mk.injEq] at hdt
  have hob : q.2.2.2.2.ok := by
    rw [fob]
    simp only [Ob.ok_cons, Ob.ok_nil, and_true]
    exact ⟨o_lt hk, ⟨by omega, by omega⟩, partA_get hb, o_30 h30, o_par hpar, ⟨exP_u8 A _ (by omega), growP_u8 A _ _ (by omega) hA (by omega), exP_nil⟩, o_gt hbs, usedProp_of _ _ _ _ rfl hx.1 (show A.length + lenV (can 3 dx) < 1000000000 from by rw [hx.2]; omega), ob_F (by rw [usedN_eq, gtN_eq]; exact decide_eq_false (by show ¬ ((bs.length : Int) > subN most ((A.length + lenV (can 3 dx) : Nat) : Int)); rw [hx.2, subN_eq _ _ (by omega)]; omega)), ⟨exP_u8 A _ (by omega), growP_u8 A _ _ (by omega) hA (by omega), exP_nil⟩, ⟨trivial, growP_u8 bs _ _ rfl hbs (by omega), exP_u8 A _ (by omega)⟩, ⟨exP_app A bs _ (by omega), growP_app A bs _ _ (by omega) hbs (by omega), exP_nil⟩, ob_F (by rw [addN_eq _ _ (by omega), gtN_eq]; simp; omega), congrArg i64 ((addN_eq _ _ (by omega)).trans (by omega)), ⟨trivial, growP_u8 bs _ _ rfl hbs (by omega), exP_u8 A _ (by omega)⟩, okC_app A bs _ (by omega), okC_app A bs _ (by omega), ob_T (strEqI_self _), usedProp_of _ _ _ _ rfl hx.1 (show ((0 + A.length) + bs.length) + lenV (can 3 dx) < 1000000000 from by rw [hx.2]; omega), ob_F (by rw [usedN_eq, neN_eq, bne_eq_false_iff_eq]; show ((((0 + A.length) + bs.length) + lenV (can 3 dx) : Nat) : Int) = _; rw [hx.2]; omega), o_next h30⟩
  refine step_of h hwf hT hcl hq hob ⟨exN_zero f1, f2, f5, f6, f8, f41, f42, f43, fdisk, ?_⟩
  refine .inr ⟨by simp [hbs], _, hhad, ?_, ?_⟩
  · have h1 := hdt.1
    rw [show ((0 + A.length) + bs.length) = (A ++ bs).length by omega] at h1
    exact h1
  · rw [List.map_append]; exact hdt.2
theorem r_ffAs_full {st : St} {d m : Nat} {most : Int} {id : Nat} {dx : AV} {A B : List Int} {k nl : Nat} {cl : List AV} {bs : List Int} {full : Bool} {T : Tm} {Q : Exit → Tm → St → Prop}
    (h : StF false st d m most (.sl id 1 0 A.length false) dx A B) (hwf : st.wf) (hT : TF most ((A.length + B.length : Nat) : Int) k nl (.imm 1 nl false cl) d T) (hcl : ∀ ρ, renL ρ cl = cl) (hk : k < nl) (h30 : k < 30) (hpar : k % 2 = 0) (hb : cl[k]? = some (.imm 1 bs.length full (bs.map u8)))
    (hm : ((A.length + B.length : Nat) : Int) ≤ most) (hm3 : most ≤ 300) (hA : A ≠ []) (hbs : bs ≠ []) (hbl : bs.length ≤ 1000000000000000000) (hfull : most < ((A.length + B.length + bs.length : Nat) : Int)) :
    AW Try.prog bodyF (thenA (fun T' st' => ∃ dt', TF most ((A.length + B.length : Nat) : Int) (k + 1) nl (.imm 1 nl false cl) d T' ∧ StF false st' d m most dt' dx A B) Q) T st := by
  have hx := can_slice h.o
  obtain ⟨q, hq, hf, hdt, hhad⟩ := leaf_get (ffAs_full_c most ((A.length + B.length : Nat) : Int) k nl cl (can 3 dx) A.length (A.map u8) bs.length full (bs.map u8)) (ffAs_full_a most ((A.length + B.length : Nat) : Int) k nl cl (can 3 dx) A.length (A.map u8) bs.length full (bs.map u8)) (ffAs_full_b most ((A.length + B.length : Nat) : Int) k nl cl (can 3 dx) A.length (A.map u8) bs.length full (bs.map u8)) (ffAs_full_d most ((A.length + B.length : Nat) : Int) k nl cl (can 3 dx) A.length (A.map u8) bs.length full (bs.map u8))
  simp only [factsF, Prod.mk.injEq, List.cons.injEq] at hf
  obtain ⟨f1, f2, ⟨f5, f6, f8, f41, f42, f43, _⟩, _, fdisk, fob⟩ := hf
  simp only [dataF, Prod.mk.injEq] at hdt
  have hob : q.2.2.2.2.ok := by
    rw [fob]
    simp only [Ob.ok_cons, Ob.ok_nil, and_true]
    exact ⟨o_lt hk, ⟨by omega, by omega⟩, partA_get hb, o_30 h30, o_par hpar, ⟨exP_u8 A _ (by omega), growP_u8 A _ _ (by omega) hA (by omega), exP_nil⟩, o_gt hbs, usedProp_of _ _ _ _ rfl hx.1 (show A.length + lenV (can 3 dx) < 1000000000 from by rw [hx.2]; omega), ob_T (by rw [usedN_eq, gtN_eq]; exact decide_eq_true (by show ((bs.length : Int) > subN most ((A.length + lenV (can 3 dx) : Nat) : Int)); rw [hx.2, subN_eq _ _ (by omega)]; omega)), ⟨exP_u8 A _ (by omega), growP_u8 A _ _ (by omega) hA (by omega), exP_nil⟩, ob_T (by rw [addN_eq _ _ (by omega), gtN_eq]; simp; omega), o_gt hbs, okC_u8 A _ (by omega), okC_u8 A _ (by omega), ob_T (strEqI_self _), o_next h30⟩
  refine step_of h hwf hT hcl hq hob ⟨exN_zero f1, f2, f5, f6, f8, f41, f42, f43, fdisk, ?_⟩
  refine .inr ⟨hA, _, hhad, ?_, ?_⟩
  · exact hdt.1
  · exact hdt.2
theorem r_ffBn_nil {st : St} {d m : Nat} {most : Int} {dx : AV} {A B : List Int} {k nl : Nat} {cl : List AV} {T : Tm} {Q : Exit → Tm → St → Prop}
    (h : StF true st d m most .nils dx A B) (hwf : st.wf) (hT : TF most ((A.length + B.length : Nat) : Int) k nl (.imm 1 nl false cl) d T) (hcl : ∀ ρ, renL ρ cl = cl) (hk : k < nl) (h30 : k < 30) (hpar : k % 2 = 1) (hb : cl[k]? = some (.nils))
    (hm : ((A.length + B.length : Nat) : Int) ≤ most) (hm3 : most ≤ 300) (hA : A = []) :
    AW Try.prog bodyF (thenA (fun T' st' => ∃ dt', TF most ((A.length + B.length : Nat) : Int) (k + 1) nl (.imm 1 nl false cl) d T' ∧ StF true st' d m most dt' dx A B) Q) T st := by
  have hx := can_slice h.o
  have hA0 : A.length = 0 := by rw [hA]; rfl
  obtain ⟨q, hq, hf, hdt, hhad⟩ := leaf_get (ffBn_nil_c most ((A.length + B.length : Nat) : Int) k nl cl (can 3 dx) ((A.length + B.length : Nat) : Int)) (ffBn_nil_a most ((A.length + B.length : Nat) : Int) k nl cl (can 3 dx) ((A.length + B.length : Nat) : Int)) (ffBn_nil_b most ((A.length + B.length : Nat) : Int) k nl cl (can 3 dx) ((A.length + B.length : Nat) : Int)) (ffBn_nil_d most ((A.length + B.length : Nat) : Int) k nl cl (can 3 dx) ((A.length + B.length : Nat) : Int))
  simp only [factsF, Prod.mk.injEq, List.cons.injEq] at hf
  obtain ⟨f1, f2, ⟨f5, f6, f8, f41, f42, f43, _⟩, _, fdisk, fob⟩ := hf
  simp only [dataF, Prod.mk.injEq] at hdt
  have hob : q.2.2.2.2.ok := by
    rw [fob]
    simp only [Ob.ok_cons, Ob.ok_nil, and_true]
    exact ⟨o_lt hk, ⟨by omega, by omega⟩, partA_get hb, o_30 h30, o_par hpar, trivial, ⟨trivial, zeroP_nil⟩, ob_F (by rw [addN_eq _ _ (by omega), gtN_eq]; simp; omega), congrArg i64 ((addN_eq _ _ (by omega)).trans (by omega)), ⟨trivial, zeroP_nil⟩, ⟨trivial, rfl, rfl⟩, ⟨trivial, rfl, rfl⟩, ob_T (strEqI_self _), usedProp_of _ _ _ _ hx.1 rfl (show lenV (can 3 dx) + 0 < 1000000000 from by rw [hx.2]; omega), ob_F (by rw [usedN_eq, neN_eq, bne_eq_false_iff_eq]; show ((lenV (can 3 dx) + 0 : Nat) : Int) = _; rw [hx.2]; omega), o_next h30⟩
  refine step_of h hwf hT hcl hq hob ⟨exN_zero f1, f2, f5, f6, f8, f41, f42, f43, fdisk, ?_⟩
  exact .inl ⟨hA, hdt.1⟩
theorem r_ffBn_zero {st : St} {d m : Nat} {most : Int} {dx : AV} {A B : List Int} {k nl : Nat} {cl : List AV} {bs : List Int} {full : Bool} {T : Tm} {Q : Exit → Tm → St → Prop}
    (h : StF true st d m most .nils dx A B) (hwf : st.wf) (hT : TF most ((A.length + B.length : Nat) : Int) k nl (.imm 1 nl false cl) d T) (hcl : ∀ ρ, renL ρ cl = cl) (hk : k < nl) (h30 : k < 30) (hpar : k % 2 = 1) (hb : cl[k]? = some (.imm 1 bs.length full (bs.map u8)))
    (hm : ((A.length + B.length : Nat) : Int) ≤ most) (hm3 : most ≤ 300) (hA : A = []) (hbs : bs = []) :
    AW Try.prog bodyF (thenA (fun T' st' => ∃ dt', TF most ((A.length + B.length : Nat) : Int) (k + 1) nl (.imm 1 nl false cl) d T' ∧ StF true st' d m most dt' dx A B) Q) T st := by
  have hx := can_slice h.o
  have hz : bs.length = 0 := by rw [hbs]; rfl
  have hA0 : A.length = 0 := by rw [hA]; rfl
  obtain ⟨q, hq, hf, hdt, hhad⟩ := leaf_get (ffBn_zero_c most ((A.length + B.length : Nat) : Int) k nl cl (can 3 dx) bs.length full (bs.map u8) ((A.length + B.length : Nat) : Int)) (ffBn_zero_a most ((A.length + B.length : Nat) : Int) k nl cl (can 3 dx) bs.length full (bs.map u8) ((A.length + B.length : Nat) : Int)) (ffBn_zero_b most ((A.length + B.length : Nat) : Int) k nl cl (can 3 dx) bs.length full (bs.map u8) ((A.length + B.length : Nat) : Int)) (ffBn_zero_d most ((A.length + B.length : Nat) : Int) k nl cl (can 3 dx) bs.length full (bs.map u8) ((A.length + B.length : Nat) : Int))
  simp only [factsF, Prod.mk.injEq, List.cons.injEq] at hf
  obtain ⟨f1, f2, ⟨f5, f6, f8, f41, f42, f43, _⟩, _, fdisk, fob⟩ := hf
  simp only [dataF, Prod.mk.injEq] at hdt
  have hob : q.2.2.2.2.ok := by
    rw [fob]
    simp only [Ob.ok_cons, Ob.ok_nil, and_true]
    exact ⟨o_lt hk, ⟨by omega, by omega⟩, partA_get hb, o_30 h30, o_par hpar, o_gt0 hbs, ⟨trivial, zeroP_u8 bs hbs⟩, ob_F (by rw [addN_eq _ _ (by omega), gtN_eq]; simp; omega), congrArg i64 ((addN_eq _ _ (by omega)).trans (by omega)), ⟨trivial, zeroP_u8 bs hbs⟩, ⟨trivial, rfl, rfl⟩, ⟨trivial, rfl, rfl⟩, ob_T (strEqI_self _), usedProp_of _ _ _ _ hx.1 rfl (show lenV (can 3 dx) + 0 < 1000000000 from by rw [hx.2]; omega), ob_F (by rw [usedN_eq, neN_eq, bne_eq_false_iff_eq]; show ((lenV (can 3 dx) + 0 : Nat) : Int) = _; rw [hx.2]; omega), o_next h30⟩
  refine step_of h hwf hT hcl hq hob ⟨exN_zero f1, f2, f5, f6, f8, f41, f42, f43, fdisk, ?_⟩
  exact .inl ⟨hA, hdt.1⟩
theorem r_ffBn_fit {st : St} {d m : Nat} {most : Int} {dx : AV} {A B : List Int} {k nl : Nat} {cl : List AV} {bs : List Int} {full : Bool} {T : Tm} {Q : Exit → Tm → St → Prop}
    (h : StF true st d m most .nils dx A B) (hwf : st.wf) (hT : TF most ((A.length + B.length : Nat) : Int) k nl (.imm 1 nl false cl) d T) (hcl : ∀ ρ, renL ρ cl = cl) (hk : k < nl) (h30 : k < 30) (hpar : k % 2 = 1) (hb : cl[k]? = some (.imm 1 bs.length full (bs.map u8)))
    (hm : ((A.length + B.length : Nat) : Int) ≤ most) (hm3 : most ≤ 300) (hA : A = []) (hbs : bs ≠ []) (hfit : ((A.length + B.length + bs.length : Nat) : Int) ≤ most) :
    AW Try.prog bodyF (thenA (fun T' st' => ∃ dt', TF most (((A ++ bs).length + B.length : Nat) : Int) (k + 1) nl (.imm 1 nl false cl) d T' ∧ StF true st' d m most dt' dx (A ++ bs) B) Q) T st := by
  have hx := can_slice h.o
  have hl2 : (A ++ bs).length = A.length + bs.length := List.length_append
  have hA0 : A.length = 0 := by rw [hA]; rfl
  obtain ⟨q, hq, hf, hdt, hhad⟩ := leaf_get (ffBn_fit_c most ((A.length + B.length : Nat) : Int) k nl cl (can 3 dx) bs.length full (bs.map u8) (((A ++ bs).length + B.length : Nat) : Int)) (ffBn_fit_a most ((A.length + B.length : Nat) : Int) k nl cl (can 3 dx) bs.length full (bs.map u8) (((A ++ bs).length + B.length : Nat) : Int)) (ffBn_fit_b most ((A.length + B.length : Nat) : Int) k nl cl (can 3 dx) bs.length full (bs.map u8) (((A ++ bs).length + B.length : Nat) : Int)) (ffBn_fit_d most ((A.length + B.length : Nat) : Int) k nl cl (can 3 dx) bs.length full (bs.map u8) (((A ++ bs).length + B.length : Nat) : Int))
  simp only [factsF, Prod.mk.injEq, List.cons.injEq] at hf
  obtain ⟨f1, f2, ⟨f5, f6, f8, f41, f42, f43, _⟩, _, fdisk, fob⟩ := hf
  simp only [dataF, Prod.mk.injEq] at hdt
  have hob : q.2.2.2.2.ok := by
    rw [fob]
    simp only [Ob.ok_cons, Ob.ok_nil, and_true]
    exact ⟨o_lt hk, ⟨by omega, by omega⟩, partA_get hb, o_30 h30, o_par hpar, o_gt hbs, usedProp_of _ _ _ _ hx.1 rfl (show lenV (can 3 dx) + 0 < 1000000000 from by rw [hx.2]; omega), ob_F (by rw [usedN_eq, gtN_eq]; exact decide_eq_false (by show ¬ ((bs.length : Int) > subN most ((lenV (can 3 dx) + 0 : Nat) : Int)); rw [hx.2, subN_eq _ _ (by omega)]; omega)), ⟨trivial, growP_u8 bs _ _ rfl hbs (by omega)⟩, ⟨exP_u8 bs _ (by omega), growP_u8 bs _ _ (by omega) hbs (by omega), exP_nil⟩, ob_F (by rw [addN_eq _ _ (by omega), gtN_eq]; simp; omega), congrArg i64 ((addN_eq _ _ (by omega)).trans (by omega)), ⟨trivial, growP_u8 bs _ _ rfl hbs (by omega)⟩, okC_u8 bs _ (by omega), okC_u8 bs _ (by omega), ob_T (strEqI_self _), usedProp_of _ _ _ _ hx.1 rfl (show lenV (can 3 dx) + bs.length < 1000000000 from by rw [hx.2]; omega), ob_F (by rw [usedN_eq, neN_eq, bne_eq_false_iff_eq]; show ((lenV (can 3 dx) + bs.length : Nat) : Int) = _; rw [hx.2]; omega), o_next h30⟩
  refine step_of h hwf hT hcl hq hob ⟨exN_zero f1, f2, f5, f6, f8, f41, f42, f43, fdisk, ?_⟩
  refine .inr ⟨by rw [hA]; exact hbs, _, hhad, ?_, ?_⟩
  · have h1 := hdt.1
    rw [show bs.length = (A ++ bs).length by omega] at h1
    exact h1
  · rw [hA]; exact hdt.2
theorem r_ffBn_full {st : St} {d m : Nat} {most : Int} {dx : AV} {A B : List Int} {k nl : Nat} {cl : List AV} {bs : List Int} {full : Bool} {T : Tm} {Q : Exit → Tm → St → Prop}
    (h : StF true st d m most .nils dx A B) (hwf : st.wf) (hT : TF most ((A.length + B.length : Nat) : Int) k nl (.imm 1 nl false cl) d T) (hcl : ∀ ρ, renL ρ cl = cl) (hk : k < nl) (h30 : k < 30) (hpar : k % 2 = 1) (hb : cl[k]? = some (.imm 1 bs.length full (bs.map u8)))
    (hm : ((A.length + B.length : Nat) : Int) ≤ most) (hm3 : most ≤ 300) (hA : A = []) (hbs : bs ≠ []) (hbl : bs.length ≤ 1000000000000000000) (hfull : most < ((A.length + B.length + bs.length : Nat) : Int)) :
    AW Try.prog bodyF (thenA (fun T' st' => ∃ dt', TF most ((A.length + B.length : Nat) : Int) (k + 1) nl (.imm 1 nl false cl) d T' ∧ StF true st' d m most dt' dx A B) Q) T st := by
  have hx := can_slice h.o
  have hA0 : A.length = 0 := by rw [hA]; rfl
  obtain ⟨q, hq, hf, hdt, hhad⟩ := leaf_get (ffBn_full_c most ((A.length + B.length : Nat) : Int) k nl cl (can 3 dx) bs.length full (bs.map u8)) (ffBn_full_a most ((A.length + B.length : Nat) : Int) k nl cl (can 3 dx) bs.length full (bs.map u8)) (ffBn_full_b most ((A.length + B.length : Nat) : Int) k nl cl (can 3 dx) bs.length full (bs.map u8)) (ffBn_full_d most ((A.length + B.length : Nat) : Int) k nl cl (can 3 dx) bs.length full (bs.map u8))
  simp only [factsF, Prod.mk.injEq, List.cons.injEq] at hf
  obtain ⟨f1, f2, ⟨f5, f6, f8, f41, f42, f43, _⟩, _, fdisk, fob⟩ := hf
  simp only [dataF, Prod.mk.injEq] at hdt
  have hob : q.2.2.2.2.ok := by
    rw [fob]
    simp only [Ob.ok_cons, Ob.ok_nil, and_true]
    exact ⟨o_lt hk, ⟨by omega, by omega⟩, partA_get hb, o_30 h30, o_par hpar, o_gt hbs, usedProp_of _ _ _ _ hx.1 rfl (show lenV (can 3 dx) + 0 < 1000000000 from by rw [hx.2]; omega), ob_T (by rw [usedN_eq, gtN_eq]; exact decide_eq_true (by show ((bs.length : Int) > subN most ((lenV (can 3 dx) + 0 : Nat) : Int)); rw [hx.2, subN_eq _ _ (by omega)]; omega)), ob_T (by rw [addN_eq _ _ (by omega), gtN_eq]; simp; omega), o_gt hbs, ⟨trivial, rfl, rfl⟩, ⟨trivial, rfl, rfl⟩, ob_T (strEqI_self _), o_next h30⟩
  refine step_of h hwf hT hcl hq hob ⟨exN_zero f1, f2, f5, f6, f8, f41, f42, f43, fdisk, ?_⟩
  exact .inl ⟨hA, hdt.1⟩
theorem r_ffBs_nil {st : St} {d m : Nat} {most : Int} {id : Nat} {dx : AV} {A B : List Int} {k nl : Nat} {cl : List AV} {T : Tm} {Q : Exit → Tm → St → Prop}
    (h : StF true st d m most (.sl id 1 0 A.length false) dx A B) (hwf : st.wf) (hT : TF most ((A.length + B.length : Nat) : Int) k nl (.imm 1 nl false cl) d T) (hcl : ∀ ρ, renL ρ cl = cl) (hk : k < nl) (h30 : k < 30) (hpar : k % 2 = 1) (hb : cl[k]? = some (.nils))
    (hm : ((A.length + B.length : Nat) : Int) ≤ most) (hm3 : most ≤ 300) (hA : A ≠ []) :
    AW Try.prog bodyF (thenA (fun T' st' => ∃ dt', TF most ((A.length + B.length : Nat) : Int) (k + 1) nl (.imm 1 nl false cl) d T' ∧ StF true st' d m most dt' dx A B) Q) T st := by
  have hx := can_slice h.o
  obtain ⟨q, hq, hf, hdt, hhad⟩ := leaf_get (ffBs_nil_c most ((A.length + B.length : Nat) : Int) k nl cl (can 3 dx) A.length (A.map u8) ((A.length + B.length : Nat) : Int)) (ffBs_nil_a most ((A.length + B.length : Nat) : Int) k nl cl (can 3 dx) A.length (A.map u8) ((A.length + B.length : Nat) : Int)) (ffBs_nil_b most ((A.length + B.length : Nat) : Int) k nl cl (can 3 dx) A.length (A.map u8) ((A.length + B.length : Nat) : Int)) (ffBs_nil_d most ((A.length + B.length : Nat) : Int) k nl cl (can 3 dx) A.length (A.map u8) ((A.length + B.length : Nat) : Int))
  simp only [factsF, Prod.mk.injEq, List.cons.injEq] at hf
  obtain ⟨f1, f2, ⟨f5, f6, f8, f41, f42, f43, _⟩, _, fdisk, fob⟩ := hf
  simp only [dataF, Prod.mk.injEq] at hdt
  have hob : q.2.2.2.2.ok := by
    rw [fob]
    simp only [Ob.ok_cons, Ob.ok_nil, and_true]
    exact ⟨o_lt hk, ⟨by omega, by omega⟩, partA_get hb, o_30 h30, o_par hpar, ⟨exP_u8 A _ (by omega), growP_u8 A _ _ (by omega) hA (by omega), exP_nil⟩, trivial, ⟨exP_u8 A _ (by omega), growP_u8 A _ _ (by omega) hA (by omega), exP_nil⟩, ⟨trivial, zeroP_nil⟩, ⟨exP_u8 A _ (by omega), growP_u8 A _ _ (by omega) hA (by omega), exP_nil⟩, ob_F (by rw [addN_eq _ _ (by omega), gtN_eq]; simp; omega), congrArg i64 ((addN_eq _ _ (by omega)).trans (by omega)), ⟨trivial, zeroP_nil⟩, okC_u8 A _ (by omega), okC_u8 A _ (by omega), ob_T (strEqI_self _), usedProp_of _ _ _ _ hx.1 rfl (show lenV (can 3 dx) + (0 + A.length) < 1000000000 from by rw [hx.2]; omega), ob_F (by rw [usedN_eq, neN_eq, bne_eq_false_iff_eq]; show ((lenV (can 3 dx) + (0 + A.length) : Nat) : Int) = _; rw [hx.2]; omega), o_next h30⟩
  refine step_of h hwf hT hcl hq hob ⟨exN_zero f1, f2, f5, f6, f8, f41, f42, f43, fdisk, ?_⟩
  refine .inr ⟨hA, _, hhad, ?_, ?_⟩
  · have h1 := hdt.1
    rw [show (0 + A.length) = A.length by omega] at h1
    exact h1
  · exact hdt.2
theorem r_ffBs_zero {st : St} {d m : Nat} {most : Int} {id : Nat} {dx : AV} {A B : List Int} {k nl : Nat} {cl : List AV} {bs : List Int} {full : Bool} {T : Tm} {Q : Exit → Tm → St → Prop}
    (h : StF true st d m most (.sl id 1 0 A.length false) dx A B) (hwf : st.wf) (hT : TF most ((A.length + B.length : Nat) : Int) k nl (.imm 1 nl false cl) d T) (hcl : ∀ ρ, renL ρ cl = cl) (hk : k < nl) (h30 : k < 30) (hpar : k % 2 = 1) (hb : cl[k]? = some (.imm 1 bs.length full (bs.map u8)))
    (hm : ((A.length + B.length : Nat) : Int) ≤ most) (hm3 : most ≤ 300) (hA : A ≠ []) (hbs : bs = []) :
    AW Try.prog bodyF (thenA (fun T' st' => ∃ dt', TF most ((A.length + B.length : Nat) : Int) (k + 1) nl (.imm 1 nl false cl) d T' ∧ StF true st' d m most dt' dx A B) Q) T st := by
  have hx := can_slice h.o
  have hz : bs.length = 0 := by rw [hbs]; rfl
  obtain ⟨q, hq, hf, hdt, hhad⟩ := leaf_get (ffBs_zero_c most ((A.length + B.length : Nat) : Int) k nl cl (can 3 dx) A.length (A.map u8) bs.length full (bs.map u8) ((A.length + B.length : Nat) : Int)) (ffBs_zero_a most ((A.length + B.length : Nat) : Int) k nl cl (can 3 dx) A.length (A.map u8) bs.length full (bs.map u8) ((A.length + B.length : Nat) : Int)) (ffBs_zero_b most ((A.length + B.length : Nat) : Int) k nl cl (can 3 dx) A.length (A.map u8) bs.length full (bs.map u8) ((A.length + B.length : Nat) : Int)) (ffBs_zero_d most ((A.length + B.length : Nat) : Int) k nl cl (can 3 dx) A.length (A.map u8) bs.length full (bs.map u8) ((A.length + B.length : Nat) : Int))
  simp only [factsF, Prod.mk.injEq, List.cons.injEq] at hf
  obtain ⟨f1, f2, ⟨f5, f6, f8, f41, f42, f43, _⟩, _, fdisk, fob⟩ := hf
  simp only [dataF, Prod.mk.injEq] at hdt
  have hob : q.2.2.2.2.ok := by
    rw [fob]
    simp only [Ob.ok_cons, Ob.ok_nil, and_true]
    exact ⟨o_lt hk, ⟨by omega, by omega⟩, partA_get hb, o_30 h30, o_par hpar, ⟨exP_u8 A _ (by omega), growP_u8 A _ _ (by omega) hA (by omega), exP_nil⟩, o_gt0 hbs, ⟨exP_u8 A _ (by omega), growP_u8 A _ _ (by omega) hA (by omega), exP_nil⟩, ⟨trivial, zeroP_u8 bs hbs⟩, ⟨exP_u8 A _ (by omega), growP_u8 A _ _ (by omega) hA (by omega), exP_nil⟩, ob_F (by rw [addN_eq _ _ (by omega), gtN_eq]; simp; omega), congrArg i64 ((addN_eq _ _ (by omega)).trans (by omega)), ⟨trivial, zeroP_u8 bs hbs⟩, okC_u8 A _ (by omega), okC_u8 A _ (by omega), ob_T (strEqI_self _), usedProp_of _ _ _ _ hx.1 rfl (show lenV (can 3 dx) + (0 + A.length) < 1000000000 from by rw [hx.2]; omega), ob_F (by rw [usedN_eq, neN_eq, bne_eq_false_iff_eq]; show ((lenV (can 3 dx) + (0 + A.length) : Nat) : Int) = _; rw [hx.2]; omega), o_next h30⟩
  refine step_of h hwf hT hcl hq hob ⟨exN_zero f1, f2, f5, f6, f8, f41, f42, f43, fdisk, ?_⟩
  refine .inr ⟨hA, _, hhad, ?_, ?_⟩
  · have h1 := hdt.1
    rw [show (0 + A.length) = A.length by omega] at h1
    exact h1
  · exact hdt.2
theorem r_ffBs_fit {st : St} {d m : Nat} {most : Int} {id : Nat} {dx : AV} {A B : List Int} {k nl : Nat} {cl : List AV} {bs : List Int} {full : Bool} {T : Tm} {Q : Exit → Tm → St → Prop}
    (h : StF true st d m most (.sl id 1 0 A.length false) dx A B) (hwf : st.wf) (hT : TF most ((A.length + B.length : Nat) : Int) k nl (.imm 1 nl false cl) d T) (hcl : ∀ ρ, renL ρ cl = cl) (hk : k < nl) (h30 : k < 30) (hpar : k % 2 = 1) (hb : cl[k]? = some (.imm 1 bs.length full (bs.map u8)))
    (hm : ((A.length + B.length : Nat) : Int) ≤ most) (hm3 : most ≤ 300) (hA : A ≠ []) (hbs : bs ≠ []) (hfit : ((A.length + B.length + bs.length : Nat) : Int) ≤ most) :
    AW Try.prog bodyF (thenA (fun T' st' => ∃ dt', TF most (((A ++ bs).length + B.length : Nat) : Int) (k + 1) nl (.imm 1 nl false cl) d T' ∧ StF true st' d m most dt' dx (A ++ bs) B) Q) T st := by
  have hx := can_slice h.o
  have hl2 : (A ++ bs).length = A.length + bs.length := List.length_append
  obtain ⟨q, hq, hf, hdt, hhad⟩ := leaf_get (ffBs_fit_c most ((A.length + B.length : Nat) : Int) k nl cl (can 3 dx) A.length (A.map u8) bs.length full (bs.map u8) (((A ++ bs).length + B.length : Nat) : Int)) (ffBs_fit_a most ((A.length + B.length : Nat) : Int) k nl cl (can 3 dx) A.length (A.map u8) bs.length full (bs.map u8) (((A ++ bs).length + B.length : Nat) : Int)) (ffBs_fit_b most ((A.length + B.length : Nat) : Int) k nl cl (can 3 dx) A.length (A.map u8) bs.length full (bs.map u8) (((A ++ bs).length + B.length : Nat) : Int)) (ffBs_fit_d most ((A.length + B.length : Nat) : Int) k nl cl (can 3 dx) A.length (A.map u8) bs.length full (bs.map u8) (((A ++ bs).length + B.length : Nat) : Int))
  simp only [factsF, Prod.mk.injEq, List.cons.injEq] at hf
  obtain ⟨f1, f2, ⟨f5, f6, f8, f41, f42, f43, _⟩, _, fdisk, fob⟩ := hf
  simp only [dataF, Prod.mk.injEq] at hdt
  have hob : q.2.2.2.2.ok := by
    rw [fob]
    simp only [Ob.ok_cons, Ob.ok_nil, and_true]
    exact ⟨o_lt hk, ⟨by omega, by omega⟩, partA_get hb, o_30 h30, o_par hpar, ⟨exP_u8 A _ (by omega), growP_u8 A _ _ (by omega) hA (by omega), exP_nil⟩, o_gt hbs, usedProp_of _ _ _ _ hx.1 rfl (show lenV (can 3 dx) + A.length < 1000000000 from by rw [hx.2]; omega), ob_F (by rw [usedN_eq, gtN_eq]; exact decide_eq_false (by show ¬ ((bs.length : Int) > subN most ((lenV (can 3 dx) + A.length : Nat) : Int)); rw [hx.2, subN_eq _ _ (by omega)]; omega)), ⟨exP_u8 A _ (by omega), growP_u8 A _ _ (by omega) hA (by omega), exP_nil⟩, ⟨trivial, growP_u8 bs _ _ rfl hbs (by omega), exP_u8 A _ (by omega)⟩, ⟨exP_app A bs _ (by omega), growP_app A bs _ _ (by omega) hbs (by omega), exP_nil⟩, ob_F (by rw [addN_eq _ _ (by omega), gtN_eq]; simp; omega), congrArg i64 ((addN_eq _ _ (by omega)).trans (by omega)), ⟨trivial, growP_u8 bs _ _ rfl hbs (by omega), exP_u8 A _ (by omega)⟩, okC_app A bs _ (by omega), okC_app A bs _ (by omega), ob_T (strEqI_self _), usedProp_of _ _ _ _ hx.1 rfl (show lenV (can 3 dx) + ((0 + A.length) + bs.length) < 1000000000 from by rw [hx.2]; omega), ob_F (by rw [usedN_eq, neN_eq, bne_eq_false_iff_eq]; show ((lenV (can 3 dx) + ((0 + A.length) + bs.length) : Nat) : Int) = _; rw [hx.2]; omega), o_next h30⟩
  refine step_of h hwf hT hcl hq hob ⟨exN_zero f1, f2, f5, f6, f8, f41, f42, f43, fdisk, ?_⟩
  refine .inr ⟨by simp [hbs], _, hhad, ?_, ?_⟩
  · have h1 := hdt.1
    rw [show ((0 + A.length) + bs.length) = (A ++ bs).length by omega] at h1
    exact h1
  · rw [List.map_append]; exact hdt.2
theorem r_ffBs_full {st : St} {d m : Nat} {most : Int} {id : Nat} {dx : AV} {A B : List Int} {k nl : Nat} {cl : List AV} {bs : List Int} {full : Bool} {T : Tm} {Q : Exit → Tm → St → Prop}
    (h : StF true st d m most (.sl id 1 0 A.length false) dx A B) (hwf : st.wf) (hT : TF most ((A.length + B.length : Nat) : Int) k nl (.imm 1 nl false cl) d T) (hcl : ∀ ρ, renL ρ cl = cl) (hk : k < nl) (h30 : k < 30) (hpar : k % 2 = 1) (hb : cl[k]? = some (.imm 1 bs.length full (bs.map u8)))
    (hm : ((A.length + B.length : Nat) : Int) ≤ most) (hm3 : most ≤ 300) (hA : A ≠ []) (hbs : bs ≠ []) (hbl : bs.length ≤ 1000000000000000000) (hfull : most < ((A.length + B.length + bs.length : Nat) : Int)) :
    AW Try.prog bodyF (thenA (fun T' st' => ∃ dt', TF most ((A.length + B.length : Nat) : Int) (k + 1) nl (.imm 1 nl false cl) d T' ∧ StF true st' d m most dt' dx A B) Q) T st := by
  have hx := can_slice h.o
  obtain ⟨q, hq, hf, hdt, hhad⟩ := leaf_get (ffBs_full_c most ((A.length + B.length : Nat) : Int) k nl cl (can 3 dx) A.length (A.map u8) bs.length full (bs.map u8)) (ffBs_full_a most ((A.length + B.length : Nat) : Int) k nl cl (can 3 dx) A.length (A.map u8) bs.length full (bs.map u8)) (ffBs_full_b most ((A.length + B.length : Nat) : Int) k nl cl (can 3 dx) A.length (A.map u8) bs.length full (bs.map u8)) (ffBs_full_d most ((A.length + B.length : Nat) : Int) k nl cl (can 3 dx) A.length (A.map u8) bs.length full (bs.map u8))
  simp only [factsF, Prod.mk.injEq, List.cons.injEq] at hf
  obtain ⟨f1, f2, ⟨f5, f6, f8, f41, f42, f43, _⟩, _, fdisk, fob⟩ := hf
  simp only [dataF, Prod.mk.injEq] at hdt
  have hob : q.2.2.2.2.ok := by
    rw [fob]
    simp only [Ob.ok_cons, Ob.ok_nil, and_true]
    exact ⟨o_lt hk, ⟨by omega, by omega⟩, partA_get hb, o_30 h30, o_par hpar, ⟨exP_u8 A _ (by omega), growP_u8 A _ _ (by omega) hA (by omega), exP_nil⟩, o_gt hbs, usedProp_of _ _ _ _ hx.1 rfl (show lenV (can 3 dx) + A.length < 1000000000 from by rw [hx.2]; omega), ob_T (by rw [usedN_eq, gtN_eq]; exact decide_eq_true (by show ((bs.length : Int) > subN most ((lenV (can 3 dx) + A.length : Nat) : Int)); rw [hx.2, subN_eq _ _ (by omega)]; omega)), ⟨exP_u8 A _ (by omega), growP_u8 A _ _ (by omega) hA (by omega), exP_nil⟩, ob_T (by rw [addN_eq _ _ (by omega), gtN_eq]; simp; omega), o_gt hbs, okC_u8 A _ (by omega), okC_u8 A _ (by omega), ob_T (strEqI_self _), o_next h30⟩
  refine step_of h hwf hT hcl hq hob ⟨exN_zero f1, f2, f5, f6, f8, f41, f42, f43, fdisk, ?_⟩
  refine .inr ⟨hA, _, hhad, ?_, ?_⟩
  · exact hdt.1
  · exact hdt.2
theorem StF.swap {st : St} {d m : Nat} {most : Int} {a b : AV} {A B : List Int} {p : Bool} (h : StF p st d m most a b A B) : StF (!p) st d m most b a B A :=
  ⟨h.disk, by have := h.map; cases p <;> exact this, h.o, h.t, fun i j _ _ _ _ _ _ _ _ e1 e2 e => h.apart j i _ _ _ _ _ _ _ _ e2 e1 e.symm, h.lock⟩
def ElemF (b : AV) : Prop := b = .nils ∨ ∃ (full : Bool) (bs : List Int), b = .imm 1 bs.length full (bs.map u8) ∧ bs.length ≤ 1000000000000000000
structure ListF (L : AV) (nl : Nat) (cl : List AV) : Prop where
  shape : L = .imm 1 nl false cl ∨ nl = 0
  len : cl.length = nl
  elem : ∀ (k : Nat) (b : AV), cl[k]? = some b → ElemF b
  ids : ∀ ρ, renL ρ cl = cl
def InvF (most : Int) (nl : Nat) (L : AV) (k : Nat) (T : Tm) (st : St) : Prop :=
  ∃ (d m : Nat) (da db : AV) (A B : List Int), TF most ((A.length + B.length : Nat) : Int) k nl L d T ∧ StF false st d m most da db A B ∧ ((A.length + B.length : Nat) : Int) ≤ most
theorem emb_empty (st : St) (hl : st.lock = []) : Emb st00 st (fun i => st.next + i) :=
  ⟨fun i _ => rfl, fun i h => by simp [st00] at h, fun i j o o' h => by simp [st00, St.get, Tr.get] at h, fun id o h => by simp [st00, St.get, Tr.get] at h, fun id o h => by simp [st00, St.get, Tr.get] at h, fun id o h => by simp [st00, St.get, Tr.get] at h, fun p hp => by cases hp⟩
def QX (e : Exit) (T : Tm) (_ : St) : Prop := e = .exit 0 ∧ T.n = 112
theorem exit_of {T0 T : Tm} {st : St} {x : List AV} {ob : Ob} {K : Tm → St → Prop} (hl : st.lock = []) (h : (evF T0 st00 x).map (fun q => (q.1, q.2.1.n, q.2.2.2.2)) = some (.exit 0, 112, ob)) (hob : ob.ok) (hn : T.n = T0.n) (hgl : T0.gl = [])
    (hT : ∀ t, T0.get t = .undef ∨ T.get t = ren (fun i => st.next + i) (T0.get t)) : AW Try.prog bodyF (thenA K QX) T st := by
  obtain ⟨⟨e1, T1, st1, x1, ob1⟩, hq, h2⟩ := Option.map_eq_some_iff.1 h
  simp only [Prod.mk.injEq] at h2
  obtain ⟨rfl, h3, rfl⟩ := h2
  have hc := (evS_ok (sites := sitesF) (envOf_ok (P := Try.prog) rfl) usedP_ok 100000).code _ _ _ _ _ _ _ _ _ _ hq hob
  refine (hc.frame (emb_empty st hl) hn hT (fun p hp => by rw [hgl] at hp; cases hp)).mono fun e T' st' hpost => ?_
  obtain ⟨T0', st0', ⟨rfl, rfl, rfl⟩, rfl, rfl, _, _⟩ := hpost
  exact ⟨rfl, h3⟩
theorem round_ok {most : Int} {nl : Nat} {L : AV} {cl : List AV} (hL : ListF L nl cl) (hm3 : most ≤ 300) {k : Nat} (hk30 : k ≤ 30) {T : Tm} {st : St} (hI : InvF most nl L k T st) :
    AW Try.prog bodyF (thenA (fun T' st' => k < 30 ∧ InvF most nl L (k + 1) T' st') QX) T st := by
  refine AW.wf fun hwf => ?_
  obtain ⟨d, m, da, db, A, B, hT, hS, hm⟩ := hI
  rcases Nat.lt_or_ge k nl with hk | hk
  rotate_left
  · refine exit_of hS.lock (ffExit (k : Int) (nl : Int)) ?_ hT.n rfl fun t => ?_
    · simp only [Ob.ok_cons, Ob.ok_nil, and_true]
      exact ob_F (by rw [ltN_eq]; simp; omega)
    · by_cases h42 : 42 = t
      · subst h42; right; exact hT.t42
      by_cases h43 : 43 = t
      · subst h43; right; exact hT.t43
      · left; show look _ t = _; simp [look, h42, h43]
  have hLi : L = .imm 1 nl false cl := by
    rcases hL.shape with h | h
    · exact h
    · omega
  subst hLi
  have hkl : k < cl.length := by rw [hL.len]; exact hk
  have hb : cl[k]? = some cl[k] := List.getElem?_eq_getElem hkl
  have hel := hL.elem k _ hb
  generalize cl[k] = b at hb hel
  rcases Nat.lt_or_ge k 30 with h30 | h30
  rotate_left
  · obtain rfl : k = 30 := by omega
    have hTT : ∀ t, (⟨112, [(41, .imm 1 nl false cl), (42, i64 nl), (43, i64 ((30 : Nat) : Int))], []⟩ : Tm).get t = .undef ∨ T.get t = ren (fun i => st.next + i) ((⟨112, [(41, .imm 1 nl false cl), (42, i64 nl), (43, i64 ((30 : Nat) : Int))], []⟩ : Tm).get t) := fun t => by
      by_cases h41 : 41 = t
      · subst h41; right; show T.get 41 = ren _ (.imm 1 nl false cl); rw [hT.t41]; simp only [ren, hL.ids]
      by_cases h42 : 42 = t
      · subst h42; right; exact hT.t42
      by_cases h43 : 43 = t
      · subst h43; right; exact hT.t43
      · left; show look _ t = _; simp [look, h41, h42, h43]
    have o1 : bo (ltN ((30 : Nat) : Int) nl) = TT := o_lt hk
    have o2 : bo (eqN ((30 : Nat) : Int) 30) = TT := rfl
    rcases hel with rfl | ⟨full, bs, rfl, _⟩
    · refine exit_of hS.lock (ffStopN _ nl cl) ?_ hT.n rfl hTT
      simp only [Ob.ok_cons, Ob.ok_nil, and_true]
      exact ⟨o1, ⟨by omega, by omega⟩, partA_get hb, o2⟩
    · refine exit_of hS.lock (ffStopI _ nl cl bs.length full (bs.map u8)) ?_ hT.n rfl hTT
      simp only [Ob.ok_cons, Ob.ok_nil, and_true]
      exact ⟨o1, ⟨by omega, by omega⟩, partA_get hb, o2⟩
  have hadd : ∀ A bs : List Int, (A ++ bs).length = A.length + bs.length := fun A bs => List.length_append
  rcases Nat.mod_two_eq_zero_or_one k with hpar | hpar
  · -- the first file's turn
    have fin : ∀ {A' : List Int}, ((A'.length + B.length : Nat) : Int) ≤ most → ∀ e T' st', thenA (fun T' st' => ∃ dt', TF most ((A'.length + B.length : Nat) : Int) (k + 1) nl (.imm 1 nl false cl) d T' ∧ StF false st' d m most dt' db A' B) QX e T' st' → thenA (fun T' st' => k < 30 ∧ InvF most nl (.imm 1 nl false cl) (k + 1) T' st') QX e T' st' := fun {A'} hA' e T' st' h => by
      cases e with
      | normal =>
        obtain ⟨dt', h1, h2⟩ := h
        exact ⟨h30, d, m, dt', db, A', B, h1, h2, hA'⟩
      | _ => exact h
    rcases hS.t with ⟨rfl, hA⟩ | ⟨hA, id, rfl, _⟩ <;> rcases hel with rfl | ⟨full, bs, rfl, hbl⟩
    · exact (r_ffAn_nil hS hwf hT hL.ids hk h30 hpar hb hm hm3 hA).mono (fin hm)
    · by_cases hbs : bs = []
      · exact (r_ffAn_zero hS hwf hT hL.ids hk h30 hpar hb hm hm3 hA hbs).mono (fin hm)
      · rcases Int.lt_or_le most ((A.length + B.length + bs.length : Nat) : Int) with hf | hf
        · exact (r_ffAn_full hS hwf hT hL.ids hk h30 hpar hb hm hm3 hA hbs hbl hf).mono (fin hm)
        · exact (r_ffAn_fit hS hwf hT hL.ids hk h30 hpar hb hm hm3 hA hbs hf).mono (fin (by rw [hadd]; omega))
    · exact (r_ffAs_nil hS hwf hT hL.ids hk h30 hpar hb hm hm3 hA).mono (fin hm)
    · by_cases hbs : bs = []
      · exact (r_ffAs_zero hS hwf hT hL.ids hk h30 hpar hb hm hm3 hA hbs).mono (fin hm)
      · rcases Int.lt_or_le most ((A.length + B.length + bs.length : Nat) : Int) with hf | hf
        · exact (r_ffAs_full hS hwf hT hL.ids hk h30 hpar hb hm hm3 hA hbs hbl hf).mono (fin hm)
        · exact (r_ffAs_fit hS hwf hT hL.ids hk h30 hpar hb hm hm3 hA hbs hf).mono (fin (by rw [hadd]; omega))
  · -- the second file's turn
    have hS' : StF true st d m most db da B A := hS.swap
    have hm' : ((B.length + A.length : Nat) : Int) ≤ most := by omega
    have hT' : TF most ((B.length + A.length : Nat) : Int) k nl (.imm 1 nl false cl) d T := by rw [Nat.add_comm]; exact hT
    have fin : ∀ {B' : List Int}, ((B'.length + A.length : Nat) : Int) ≤ most → ∀ e T' st', thenA (fun T' st' => ∃ dt', TF most ((B'.length + A.length : Nat) : Int) (k + 1) nl (.imm 1 nl false cl) d T' ∧ StF true st' d m most dt' da B' A) QX e T' st' → thenA (fun T' st' => k < 30 ∧ InvF most nl (.imm 1 nl false cl) (k + 1) T' st') QX e T' st' := fun {B'} hB' e T' st' h => by
      cases e with
      | normal =>
        obtain ⟨dt', h1, h2⟩ := h
        exact ⟨h30, d, m, da, dt', A, B', by rw [Nat.add_comm]; exact h1, h2.swap, by omega⟩
      | _ => exact h
    rcases hS'.t with ⟨rfl, hA⟩ | ⟨hA, id, rfl, _⟩ <;> rcases hel with rfl | ⟨full, bs, rfl, hbl⟩
    · exact (r_ffBn_nil hS' hwf hT' hL.ids hk h30 hpar hb hm' hm3 hA).mono (fin hm')
    · by_cases hbs : bs = []
      · exact (r_ffBn_zero hS' hwf hT' hL.ids hk h30 hpar hb hm' hm3 hA hbs).mono (fin hm')
      · rcases Int.lt_or_le most ((B.length + A.length + bs.length : Nat) : Int) with hf | hf
        · exact (r_ffBn_full hS' hwf hT' hL.ids hk h30 hpar hb hm' hm3 hA hbs hbl hf).mono (fin hm')
        · exact (r_ffBn_fit hS' hwf hT' hL.ids hk h30 hpar hb hm' hm3 hA hbs hf).mono (fin (by rw [hadd]; omega))
    · exact (r_ffBs_nil hS' hwf hT' hL.ids hk h30 hpar hb hm' hm3 hA).mono (fin hm')
    · by_cases hbs : bs = []
      · exact (r_ffBs_zero hS' hwf hT' hL.ids hk h30 hpar hb hm' hm3 hA hbs).mono (fin hm')
      · rcases Int.lt_or_le most ((B.length + A.length + bs.length : Nat) : Int) with hf | hf
        · exact (r_ffBs_full hS' hwf hT' hL.ids hk h30 hpar hb hm' hm3 hA hbs hbl hf).mono (fin hm')
        · exact (r_ffBs_fit hS' hwf hT' hL.ids hk h30 hpar hb hm' hm3 hA hbs hf).mono (fin (by rw [hadd]; omega))
/-- what the lock was, it stays -/
theorem AW.lock {P : Program} {c : Code} {Q : Exit → Tm → St → Prop} {T : Tm} {st : St} (h : AW P c Q T st) : AW P c (fun e T' st' => Q e T' st' ∧ st'.lock = st.lock) T st :=
  fun g w a hok hT => wp_mono (h g w a hok hT) fun e a' w' ⟨g', T', st', k1, k2, k3⟩ => ⟨g', T', st', k1, k2, k3, k1.lock⟩
theorem loop_ok {most : Int} {nl : Nat} {L : AV} {cl : List AV} (hL : ListF L nl cl) (hm3 : most ≤ 300) {T : Tm} {st : St} (hI : InvF most nl L 0 T st) : AW Try.prog (.loop bodyF) QX T st := by
  refine .loop (fun n T st => ∃ k, k ≤ 30 ∧ n = 30 - k ∧ InvF most nl L k T st) 30 ⟨0, by omega, by omega, hI⟩ fun n T st hn => ?_
  obtain ⟨k, hk, rfl, hI⟩ := hn
  refine (round_ok hL hm3 hk hI).mono fun e T' st' h => ?_
  cases e with
  | normal =>
    obtain ⟨h1, h2⟩ := h
    exact ⟨30 - (k + 1), by omega, k + 1, by omega, rfl, h2⟩
  | _ => exact h
/-- the end -/
theorem tail_ev : (evS E0 (fun _ _ _ => none) (fun _ => []) 1000 [] partsF.2.2 ⟨112, [], []⟩ st00 []).map (fun q => (q.1, q.2.1.get 4, q.2.2.2.2)) = some (.ret, TT, []) := by kernel_rfl
theorem runs_seq {P : Program} {E : Env} (hE : EOK' P E) {ov : OvP} {sites : Nat → List Nat} {ss : List Nat} (hov : ∀ f args st r st' p, ov f args st = some (r, st', p) → p → ACalls P f args (fun a s => a = r ∧ s = st') st) {a b t : Code} {Q : Exit → Tm → St → Prop} :
    ∀ (l : List Code) {T : Tm} {st : St} {x : List AV} {T1 : Tm} {st1 : St} {x1 : List AV} {ob : Ob}, runs E ov sites ss (l ++ [a]) T st x = some (T1, st1, x1, ob) → ob.ok → AW P b (thenA (AW P t Q) Q) T1 st1 → AW P (nest l (.seq (.seq a b) t)) Q T st
  | [], T, st, x, T1, st1, x1, ob, h, hob, k => by
    simp only [List.nil_append, runs] at h
    split at h
    · rename_i T2 st2 x2 o1 h1
      cases h
      rw [List.append_nil] at hob
      refine .seq (.seq (((evS_ok hE hov 1000000).code _ _ _ _ _ _ _ _ _ _ h1 hob).mono fun e T' st' he => ?_))
      obtain ⟨rfl, rfl, rfl⟩ := he
      exact k
    · cases h
  | c :: l, T, st, x, T1, st1, x1, ob, h, hob, k => by
    simp only [List.cons_append, runs] at h
    split at h
    · rename_i T2 st2 x2 o1 h1
      split at h
      · rename_i T3 st3 x3 o3 h3
        cases h
        obtain ⟨ob1, ob2⟩ := Ob.ok_append.1 hob
        refine .seq (((evS_ok hE hov 1000000).code _ _ _ _ _ _ _ _ _ _ h1 ob1).mono fun e T' st' he => ?_)
        obtain ⟨rfl, rfl, rfl⟩ := he
        exact runs_seq hE hov l h3 ob2 k
      · cases h
    · cases h
theorem tail_ok {T : Tm} {st : St} (hl : T.n = 112) (hlk : st.lock = []) : AW Try.prog partsF.2.2 (endA E0 Try.f6 (fun a _ => a = TT)) T st := by
  obtain ⟨⟨e1, T1, st1, x1, ob1⟩, hq, h2⟩ := Option.map_eq_some_iff.1 tail_ev
  simp only [Prod.mk.injEq] at h2
  obtain ⟨rfl, h4, rfl⟩ := h2
  have hc := (evS_ok (sites := fun _ => []) (envOf_ok (P := Try.prog) rfl) (ov := fun _ _ _ => none) (fun f args st r st' p h => by cases h) 1000).code _ _ _ _ _ _ _ _ _ _ hq Ob.ok_nil
  refine (hc.frame (emb_empty st hlk) hl (fun t => .inl rfl) (fun p hp => by cases hp)).mono fun e T' st' hpost => ?_
  obtain ⟨T0', st0', ⟨rfl, rfl, rfl⟩, rfl, rfl, _, _⟩ := hpost
  refine ⟨[(renT _ T0' T.gl).get 4], rfl, ?_⟩
  simp only [oneOrTup]
  rw [renT_get, h4]
  rfl
theorem full_all (q : Int) (hq : 0 ≤ q ∧ q ≤ 65535) {L : AV} {nl : Nat} {cl : List AV} (hL : ListF L nl cl) (hsh : L = .nils ∨ L = .imm 1 nl false cl) : ACalls Try.prog 6 [.val (.int .u16 q), L] (fun a _ => a = TT) st00 := by
  refine ACalls.body (E := E0) (envOf_ok (P := Try.prog) rfl) Try.func6 bodyF_eq ?_
  have hr : remH q 301 = q % 301 := by
    have : remH q 301 = q.tmod 301 := rfl
    rw [this, Int.tmod_eq_emod_of_nonneg hq.1]
  have hob : Ob.ok [i64 (IntKind.i64.wrap (remH q 301)) = i64 (q % 301), bo (ltN (q % 301) 0) = FF, True] := by
    simp only [Ob.ok_cons, Ob.ok_nil, and_true]
    refine ⟨by rw [hr, IntWalk.i64_in _ (by omega)], ob_F (by rw [ltN_eq]; simp; omega)⟩
  have go : ∀ {r : Tm × St × List AV × Ob} {nl' : Nat}, preF q (q % 301) L = some r → preFacts r = (112, [i64 (q % 301), .ptr (dF r.1) 0, i64 0, L, i64 nl', i64 0], [], [], some (.row [.mp (mF r.2.1 (dF r.1)), i64 (q % 301), i64 0, FF] 103), some (.map [(nameA, file .nils), (nameB, file .nils)] [0, 1] 2), [i64 (IntKind.i64.wrap (remH q 301)) = i64 (q % 301), bo (ltN (q % 301) 0) = FF, True]) → ∀ {cl' : List AV}, ListF L nl' cl' →
      AW Try.prog (nest partsF.1 (.seq (.seq partsF.2.1 (.block 0 (.loop bodyF))) partsF.2.2)) (endA E0 Try.f6 (fun a _ => a = TT)) (enterT Try.f6 [.val (.int .u16 q), L] []) st00 := by
    rintro ⟨T1, st1, x1, ob⟩ nl' hp hf cl' hL'
    simp only [preFacts, Prod.mk.injEq, List.cons.injEq] at hf
    obtain ⟨f1, ⟨f5, f6, f8, f41, f42, f43, _⟩, flk, _, fd, fm, fob⟩ := hf
    refine runs_seq (envOf_ok (P := Try.prog) rfl) awakeP_ok partsF.1 hp (by rw [fob]; exact hob) (.block ?_)
    have hI : InvF (q % 301) nl' L 0 T1 st1 := ⟨dF T1, mF st1 (dF T1), .nils, .nils, [], [], ⟨f1, f5, f6, f8, f41, f42, f43⟩, ⟨fd, fm, .inl ⟨rfl, rfl⟩, .inl ⟨rfl, rfl⟩, (fun i j a b c e a' b' c' e' h => by cases h), flk⟩, by simp; omega⟩
    have hlp := loop_ok hL' (by omega) hI
    -- the lock stays
    refine (AW.lock hlp).mono fun e T' st' h => ?_
    obtain ⟨⟨rfl, hn⟩, hlk⟩ := h
    simp only [blockA, if_true, thenA]
    exact tail_ok hn (hlk.trans flk)
  rcases hsh with rfl | rfl
  · have hL0 : ListF .nils 0 [] := ⟨.inr rfl, rfl, fun k b h => by simp at h, fun ρ => by simp [renL]⟩
    obtain ⟨r, hr'⟩ := Option.isSome_iff_exists.1 (pre_nil_some q (q % 301))
    have := pre_nil q (q % 301)
    rw [hr'] at this
    exact go hr' (by simpa using this) hL0
  · obtain ⟨r, hr'⟩ := Option.isSome_iff_exists.1 (pre_imm_some q (q % 301) nl cl)
    have := pre_imm q (q % 301) nl cl
    rw [hr'] at this
    exact go hr' (by simpa using this) hL
end Go.Proofs.Ytniaiciabfdbnaa.E
