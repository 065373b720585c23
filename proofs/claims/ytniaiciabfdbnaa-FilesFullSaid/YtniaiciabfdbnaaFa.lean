/- FilesFull over the abstract machine: the words in which the runs of its loop are said. No condition beyond those that the lemmas name. -/
import Derived.Test.YtniaiciabfdbnaaNm
import Derived.Test.YtniaiciabfdbnaaEs
namespace Go.Proofs.Ytniaiciabfdbnaa.E
open Go Go.Proofs
set_option maxRecDepth 100000
def u8 (n : Int) : AV := .val (.int .u8 n)
def i64 (n : Int) : AV := .val (.int .i64 n)
def FF : AV := .val (.bool false)
def TT : AV := .val (.bool true)
def bo (b : Bool) : AV := .val (.bool b)
def boolI (s : Sem Value) : Bool := match s with | .pure (.bool b) => b | _ => false
def gtN (a b : Int) : Bool := boolI (binOp .gtr 3 (.int .i64 a) (.int .i64 b))
def ltN (a b : Int) : Bool := boolI (binOp .lss 3 (.int .i64 a) (.int .i64 b))
def eqN (a b : Int) : Bool := boolI (binOp .eql 3 (.int .i64 a) (.int .i64 b))
def neN (a b : Int) : Bool := boolI (binOp .neq 3 (.int .i64 a) (.int .i64 b))
def remN (a b : Int) : Int := valI (binOp .rem 3 (.int .i64 a) (.int .i64 b))
def addN (a b : Int) : Int := valI (binOp .add 3 (.int .i64 a) (.int .i64 b))
def subN (a b : Int) : Int := valI (binOp .sub 3 (.int .i64 a) (.int .i64 b))
def strEqI (a b : List Int) : Bool := boolI (binOp .eql 9 (.string (strOfNums a)) (.string (strOfNums b)))
/-- Disk.Used, its conditions left to be shown -/
def usedN (es : List (AV × AV)) (bs : List Nat) : Nat := ((List.range bs.length).map fun i => lenFile (es.getD i default).2).sum
def usedProp (es : List (AV × AV)) (bs : List Nat) (clock : Nat) : Prop := bs.Nodup ∧ (bs.all fun b => decide (b < clock)) = true ∧ es.length = bs.length ∧ (∀ i, i < bs.length → okFile (es.getD i default).2 = true) ∧ usedN es bs < 1000000000
def usedP : OvP := fun f args st => if f = 26 then (match args with
  | [.ptr d 0] => match st.get d with
    | some (.row (.mp m :: _) _) => match st.get m with
      | some (.map es bs clock) => if (st.lock.all fun i => decide (i < st.next)) = true then some (.val (.int .i64 (usedN es bs : Nat)), { st with next := st.next + 1 + bs.length }, usedProp es bs clock) else none
      | _ => none
    | _ => none
  | _ => none) else none
theorem usedP_ok : ∀ f args st r st' p, usedP f args st = some (r, st', p) → p → ACalls Try.prog f args (fun a s => a = r ∧ s = st') st := by
  intro f args st r st' p h hp
  unfold usedP at h
  split at h
  · rename_i hf
    subst hf
    split at h
    · rename_i d
      split at h
      · rename_i m rest ty hd
        split at h
        · rename_i es bs clock hm
          split at h
          · rename_i hl
            cases h
            obtain ⟨h1, h2, h3, h4, h5⟩ := hp
            refine (used d m st ty rest es bs clock hd hm (fun i => lenFile (es.getD i default).2) _ (fun _ => rfl) rfl h1 h2 h3 h4 (fun i hi => by simpa using List.all_eq_true.1 hl i hi) h5).mono fun a s hs => ?_
            cases hs
            exact ⟨rfl, rfl⟩
          · cases h
        · cases h
      · cases h
    · cases h
  · cases h
def sitesF : Nat → List Nat
  | 6 => [44, 2046, 2047, 49, 52, 76, 80, 94, 2101, 109, 111]
  | 16 => [2006, 2008, 9]
  | 19 => [18, 29, 2043]
  | 65 => [2007]
  | _ => []
def findLoop : Code → Option Code
  | .loop c => some c
  | .seq a b => match findLoop a with | some c => some c | none => findLoop b
  | .block _ c => findLoop c
  | _ => none
noncomputable def bodyF : Code := match Try.f6.body with | some c => (findLoop c).getD .skip | none => .skip
def T0F (most used k : Int) (nl : Nat) (cl : List AV) : Tm := ⟨112, [(5, i64 most), (6, .ptr 0 0), (8, i64 used), (41, .imm 1 nl false cl), (42, i64 nl), (43, i64 k)], []⟩
def nameA : AV := .val (.string ⟨#[97]⟩)
def nameB : AV := .val (.string ⟨#[98]⟩)
def file (v : AV) : AV := .agg [v, i64 0]
def stF (most : Int) (es : List (AV × AV)) (row : Option (List AV)) : St :=
  let s := ((⟨4, .nil, [], []⟩ : St).set 0 (.row [.mp 1, i64 most, i64 0, FF] 103)).set 1 (.map es [0, 1] 2)
  match row with
  | some c => s.set 2 (.row c 5)
  | none => s
noncomputable def evF (T : Tm) (st : St) (x : List AV) := evS E0 usedP sitesF 100000 (sitesF 6) bodyF T st x
def exN : Exit → Nat | .normal => 0 | .exit i => i + 1 | _ => 1000
def factsF (q : Exit × Tm × St × List AV × Ob) := (exN q.1, q.2.1.n, [q.2.1.get 5, q.2.1.get 6, q.2.1.get 8, q.2.1.get 41, q.2.1.get 42, q.2.1.get 43], q.2.2.1.lock, q.2.2.1.get 0, q.2.2.2.2)
/-- where the touched file's bytes lie -/
def idF (second : Bool) (st : St) : Nat := match st.get 1 with
  | some (.map es _ _) => match (if second then es.getD 1 default else es.getD 0 default).2 with
    | .agg (.sl id _ _ _ _ :: _) => id
    | _ => 0
  | _ => 0
def dataF (second : Bool) (st : St) := (st.get 1, st.get (idF second st))
end Go.Proofs.Ytniaiciabfdbnaa.E
