/-
  No cell of these rows narrows 'for every input' (looked for: loops, veiled, ifaces, maps, wideKeys, modest, calm, conditions, laid).
  DERIVED. THE GIVEN ROWS OF THIS SEAT. 8 by the template 'for every input the law returns true; each argument reads behind the call as it read before'; 0 by the template 'total and deterministic' (their statements: YtniaiciabfdbnaaTotals.lean).
  GIVEN WITH THE SEED: the statements are not yours to turn. If you find one false, say at which input.
  Laid BY PROGRAM, IN A SANDBOX (cutbox-rows.mjs): the forced cells as the released guide's own fill.sh prints them over the translation 6bb3d2a07e7b10e4… (all of the seat's roots in one cut). By AI agents, Wed Nov 11 2026. No macro, syntax, notation, axiom, sorry.
-/
import Derived.Test.YtniaiciabfdbnaaChecked
import GoSem.Claim
import GoSem.ClaimJoined
import GoSem.ClaimMapViews
import Derived.JoinedTies
import Derived.KernelRfl
namespace Go.Proofs.Ytniaiciabfdbnaa
/- THE CELL 'sum', in the pinned program and in every row, IS THE sha256 OF THE DUMP (.gsa) THAT YtniaiciabfdbnaaProg.lean LOADS. Nothing in Lean hashes anything: it is a label: what it is worth is what the hold of that sum in a sandbox is worth. -/
noncomputable def Try.pinned : Pinned := { name := "ytniaiciabfdbnaa", sum := "6bb3d2a07e7b10e4177da03fd70c8314a64eb3be2ae0c932fff777523fee4369", checked := Try.checked }
namespace Rows
def none {H : Type} : Left H := { results := [], args := [] }

/-- 'escritoirelaw19.CommitForms': WHATEVER THE INPUT: true; the input reads as it did. -/
def commitFormsSpec : ChangeSpec := { name := "commitForms", fn := fun _ => fun
  | [d1, d2] => { results := [.lit (.bool true)], args := [d1, d2] }
  | _ => none }
def commitFormsRow : OpenClaim := { program := "ytniaiciabfdbnaa", sum := "6bb3d2a07e7b10e4177da03fd70c8314a64eb3be2ae0c932fff777523fee4369", func := "escritoire/escritoirelaw19.CommitForms", spec := "commitForms", unfollowed := true, recurses := true, apart := false }
def CommitFormsSaid : Prop := commitFormsRow.holds Try.pinned (OpenSpec.ofChange commitFormsSpec)

/-- ITS FALSE NEIGHBOUR: 'it returns false'. Refute it at one input. -/
def commitFormsWrong : ChangeSpec := { name := "commitForms", fn := fun _ => fun
  | [d1, d2] => { results := [.lit (.bool false)], args := [d1, d2] }
  | _ => none }
def CommitFormsWrongFalsely : Prop := commitFormsRow.holds Try.pinned (OpenSpec.ofChange commitFormsWrong)

/-- 'escritoirelaw19.CommitBack': WHATEVER THE INPUT: true; the input reads as it did. -/
def commitBackSpec : ChangeSpec := { name := "commitBack", fn := fun _ => fun
  | [d1, d2] => { results := [.lit (.bool true)], args := [d1, d2] }
  | _ => none }
def commitBackRow : OpenClaim := { program := "ytniaiciabfdbnaa", sum := "6bb3d2a07e7b10e4177da03fd70c8314a64eb3be2ae0c932fff777523fee4369", func := "escritoire/escritoirelaw19.CommitBack", spec := "commitBack", unfollowed := true, recurses := true, apart := false }
def CommitBackSaid : Prop := commitBackRow.holds Try.pinned (OpenSpec.ofChange commitBackSpec)

/-- ITS FALSE NEIGHBOUR: 'it returns false'. Refute it at one input. -/
def commitBackWrong : ChangeSpec := { name := "commitBack", fn := fun _ => fun
  | [d1, d2] => { results := [.lit (.bool false)], args := [d1, d2] }
  | _ => none }
def CommitBackWrongFalsely : Prop := commitBackRow.holds Try.pinned (OpenSpec.ofChange commitBackWrong)

/-- 'escritoirelaw19.CommitKnown': WHATEVER THE INPUT: true; the input reads as it did. -/
def commitKnownSpec : ChangeSpec := { name := "commitKnown", fn := fun _ => fun
  | [] => { results := [.lit (.bool true)], args := [] }
  | _ => none }
def commitKnownRow : OpenClaim := { program := "ytniaiciabfdbnaa", sum := "6bb3d2a07e7b10e4177da03fd70c8314a64eb3be2ae0c932fff777523fee4369", func := "escritoire/escritoirelaw19.CommitKnown", spec := "commitKnown", unfollowed := true, recurses := true, apart := false }
def CommitKnownSaid : Prop := commitKnownRow.holds Try.pinned (OpenSpec.ofChange commitKnownSpec)

/-- ITS FALSE NEIGHBOUR: 'it returns false'. Refute it at one input. -/
def commitKnownWrong : ChangeSpec := { name := "commitKnown", fn := fun _ => fun
  | [] => { results := [.lit (.bool false)], args := [] }
  | _ => none }
def CommitKnownWrongFalsely : Prop := commitKnownRow.holds Try.pinned (OpenSpec.ofChange commitKnownWrong)

/-- 'escritoirelaw13.FilesFull': WHATEVER THE INPUT: true; the input reads as it did. -/
def filesFullSpec : ChangeSpec := { name := "filesFull", fn := fun _ => fun
  | [d1, d2] => { results := [.lit (.bool true)], args := [d1, d2] }
  | _ => none }
def filesFullRow : OpenClaim := { program := "ytniaiciabfdbnaa", sum := "6bb3d2a07e7b10e4177da03fd70c8314a64eb3be2ae0c932fff777523fee4369", func := "escritoire/escritoirelaw13.FilesFull", spec := "filesFull", unfollowed := true, recurses := true, apart := false }
def FilesFullSaid : Prop := filesFullRow.holds Try.pinned (OpenSpec.ofChange filesFullSpec)

/-- ITS FALSE NEIGHBOUR: 'it returns false'. Refute it at one input. -/
def filesFullWrong : ChangeSpec := { name := "filesFull", fn := fun _ => fun
  | [d1, d2] => { results := [.lit (.bool false)], args := [d1, d2] }
  | _ => none }
def FilesFullWrongFalsely : Prop := filesFullRow.holds Try.pinned (OpenSpec.ofChange filesFullWrong)

/-- 'escritoirelaw13.FilesKnown': WHATEVER THE INPUT: true; the input reads as it did. -/
def filesKnownSpec : ChangeSpec := { name := "filesKnown", fn := fun _ => fun
  | [] => { results := [.lit (.bool true)], args := [] }
  | _ => none }
def filesKnownRow : OpenClaim := { program := "ytniaiciabfdbnaa", sum := "6bb3d2a07e7b10e4177da03fd70c8314a64eb3be2ae0c932fff777523fee4369", func := "escritoire/escritoirelaw13.FilesKnown", spec := "filesKnown", inPlace := ["maps.clone"], unfollowed := true, recurses := true, apart := false }
def FilesKnownSaid : Prop := filesKnownRow.holds Try.pinned (OpenSpec.ofChange filesKnownSpec)

/-- ITS FALSE NEIGHBOUR: 'it returns false'. Refute it at one input. -/
def filesKnownWrong : ChangeSpec := { name := "filesKnown", fn := fun _ => fun
  | [] => { results := [.lit (.bool false)], args := [] }
  | _ => none }
def FilesKnownWrongFalsely : Prop := filesKnownRow.holds Try.pinned (OpenSpec.ofChange filesKnownWrong)

/-- 'escritoirelaw13.FilesPlays': WHATEVER THE INPUT: true; the input reads as it did. -/
def filesPlaysSpec : ChangeSpec := { name := "filesPlays", fn := fun _ => fun
  | [d1, d2] => { results := [.lit (.bool true)], args := [d1, d2] }
  | _ => none }
def filesPlaysRow : OpenClaim := { program := "ytniaiciabfdbnaa", sum := "6bb3d2a07e7b10e4177da03fd70c8314a64eb3be2ae0c932fff777523fee4369", func := "escritoire/escritoirelaw13.FilesPlays", spec := "filesPlays", inPlace := ["maps.clone"], unfollowed := true, recurses := true, apart := false }
def FilesPlaysSaid : Prop := filesPlaysRow.holds Try.pinned (OpenSpec.ofChange filesPlaysSpec)

/-- ITS FALSE NEIGHBOUR: 'it returns false'. Refute it at one input. -/
def filesPlaysWrong : ChangeSpec := { name := "filesPlays", fn := fun _ => fun
  | [d1, d2] => { results := [.lit (.bool false)], args := [d1, d2] }
  | _ => none }
def FilesPlaysWrongFalsely : Prop := filesPlaysRow.holds Try.pinned (OpenSpec.ofChange filesPlaysWrong)

/-- 'escritoirelaw19.CommitWhole': WHATEVER THE INPUT: true; the input reads as it did. -/
def commitWholeSpec : ChangeSpec := { name := "commitWhole", fn := fun _ => fun
  | [d] => { results := [.lit (.bool true)], args := [d] }
  | _ => none }
def commitWholeRow : OpenClaim := { program := "ytniaiciabfdbnaa", sum := "6bb3d2a07e7b10e4177da03fd70c8314a64eb3be2ae0c932fff777523fee4369", func := "escritoire/escritoirelaw19.CommitWhole", spec := "commitWhole", unfollowed := true, recurses := true, apart := false }
def CommitWholeSaid : Prop := commitWholeRow.holds Try.pinned (OpenSpec.ofChange commitWholeSpec)

/-- ITS FALSE NEIGHBOUR: 'it returns false'. Refute it at one input. -/
def commitWholeWrong : ChangeSpec := { name := "commitWhole", fn := fun _ => fun
  | [d] => { results := [.lit (.bool false)], args := [d] }
  | _ => none }
def CommitWholeWrongFalsely : Prop := commitWholeRow.holds Try.pinned (OpenSpec.ofChange commitWholeWrong)

/-- 'escritoirelaw19.CommitPlays': WHATEVER THE INPUT: true; the input reads as it did. -/
def commitPlaysSpec : ChangeSpec := { name := "commitPlays", fn := fun _ => fun
  | [d] => { results := [.lit (.bool true)], args := [d] }
  | _ => none }
def commitPlaysRow : OpenClaim := { program := "ytniaiciabfdbnaa", sum := "6bb3d2a07e7b10e4177da03fd70c8314a64eb3be2ae0c932fff777523fee4369", func := "escritoire/escritoirelaw19.CommitPlays", spec := "commitPlays", inPlace := ["maps.clone"], unfollowed := true, recurses := true, apart := false }
def CommitPlaysSaid : Prop := commitPlaysRow.holds Try.pinned (OpenSpec.ofChange commitPlaysSpec)

/-- ITS FALSE NEIGHBOUR: 'it returns false'. Refute it at one input. -/
def commitPlaysWrong : ChangeSpec := { name := "commitPlays", fn := fun _ => fun
  | [d] => { results := [.lit (.bool false)], args := [d] }
  | _ => none }
def CommitPlaysWrongFalsely : Prop := commitPlaysRow.holds Try.pinned (OpenSpec.ofChange commitPlaysWrong)

/- THE SECOND FORM. 'bulk': how many values and letters a reading holds, each counted each time it is reached (what is shared counts as often as it is met; a slice's spare places count too). A statement '..UptoSaid' is the law's where the arguments, and the package variables that the reading takes, are together of bulk at most 1048576: NARROWER than '..Said'. Prove '..Said' where nothing that the law and all that it calls make is longer than what came in: it says more and counts as full. Else prove '..UptoSaid'. A law counts once. -/
mutual
def uptoBulk {H : Type} : DataW H → Nat
  | .lit (.string bytes) => bytes.length + 1
  | .lit _ => 1
  | .nil => 1
  | .ptr d => uptoBulk d + 1
  | .slice elems spare => uptoBulkAll elems + uptoBulkAll spare + 1
  | .agg parts => uptoBulkAll parts + 1
  | .iface _ d => uptoBulk d + 1
  | .map entries => uptoBulkEntries entries + 1
  | .held _ => 1
def uptoBulkAll {H : Type} : List (DataW H) → Nat
  | [] => 0
  | d :: r => uptoBulk d + uptoBulkAll r
def uptoBulkEntries {H : Type} : List (Lit × DataW H) → Nat
  | [] => 0
  | x :: r => uptoBulkEntry x + uptoBulkEntries r
def uptoBulkEntry {H : Type} : Lit × DataW H → Nat
  | (.string bytes, d) => bytes.length + uptoBulk d + 1
  | (_, d) => uptoBulk d + 1
 end
def uptoSmall : (H : Type) → List (DataW H) → Bool := fun _ ds => decide (uptoBulkAll ds ≤ 1048576)
def OpenSpec.upto (s : _root_.Go.ChangeSpec) : _root_.Go.OpenSpec := { _root_.Go.OpenSpec.ofChange s with cond := some uptoSmall }

/-- 'escritoirelaw19.CommitForms', WHERE WHAT IT READS IS OF BULK AT MOST 1048576: true; the input reads as it did. -/
def commitFormsUptoRow : OpenClaim := { program := "ytniaiciabfdbnaa", sum := "6bb3d2a07e7b10e4177da03fd70c8314a64eb3be2ae0c932fff777523fee4369", func := "escritoire/escritoirelaw19.CommitForms", spec := "commitForms", unfollowed := true, recurses := true, apart := false, narrowed := true }
def CommitFormsUptoSaid : Prop := commitFormsUptoRow.holds Try.pinned (OpenSpec.upto commitFormsSpec)

/-- 'escritoirelaw19.CommitBack', WHERE WHAT IT READS IS OF BULK AT MOST 1048576: true; the input reads as it did. -/
def commitBackUptoRow : OpenClaim := { program := "ytniaiciabfdbnaa", sum := "6bb3d2a07e7b10e4177da03fd70c8314a64eb3be2ae0c932fff777523fee4369", func := "escritoire/escritoirelaw19.CommitBack", spec := "commitBack", unfollowed := true, recurses := true, apart := false, narrowed := true }
def CommitBackUptoSaid : Prop := commitBackUptoRow.holds Try.pinned (OpenSpec.upto commitBackSpec)

/-- 'escritoirelaw19.CommitKnown', WHERE WHAT IT READS IS OF BULK AT MOST 1048576: true; the input reads as it did. -/
def commitKnownUptoRow : OpenClaim := { program := "ytniaiciabfdbnaa", sum := "6bb3d2a07e7b10e4177da03fd70c8314a64eb3be2ae0c932fff777523fee4369", func := "escritoire/escritoirelaw19.CommitKnown", spec := "commitKnown", unfollowed := true, recurses := true, apart := false, narrowed := true }
def CommitKnownUptoSaid : Prop := commitKnownUptoRow.holds Try.pinned (OpenSpec.upto commitKnownSpec)

/-- 'escritoirelaw13.FilesFull', WHERE WHAT IT READS IS OF BULK AT MOST 1048576: true; the input reads as it did. -/
def filesFullUptoRow : OpenClaim := { program := "ytniaiciabfdbnaa", sum := "6bb3d2a07e7b10e4177da03fd70c8314a64eb3be2ae0c932fff777523fee4369", func := "escritoire/escritoirelaw13.FilesFull", spec := "filesFull", unfollowed := true, recurses := true, apart := false, narrowed := true }
def FilesFullUptoSaid : Prop := filesFullUptoRow.holds Try.pinned (OpenSpec.upto filesFullSpec)

/-- 'escritoirelaw13.FilesKnown', WHERE WHAT IT READS IS OF BULK AT MOST 1048576: true; the input reads as it did. -/
def filesKnownUptoRow : OpenClaim := { program := "ytniaiciabfdbnaa", sum := "6bb3d2a07e7b10e4177da03fd70c8314a64eb3be2ae0c932fff777523fee4369", func := "escritoire/escritoirelaw13.FilesKnown", spec := "filesKnown", inPlace := ["maps.clone"], unfollowed := true, recurses := true, apart := false, narrowed := true }
def FilesKnownUptoSaid : Prop := filesKnownUptoRow.holds Try.pinned (OpenSpec.upto filesKnownSpec)

/-- 'escritoirelaw13.FilesPlays', WHERE WHAT IT READS IS OF BULK AT MOST 1048576: true; the input reads as it did. -/
def filesPlaysUptoRow : OpenClaim := { program := "ytniaiciabfdbnaa", sum := "6bb3d2a07e7b10e4177da03fd70c8314a64eb3be2ae0c932fff777523fee4369", func := "escritoire/escritoirelaw13.FilesPlays", spec := "filesPlays", inPlace := ["maps.clone"], unfollowed := true, recurses := true, apart := false, narrowed := true }
def FilesPlaysUptoSaid : Prop := filesPlaysUptoRow.holds Try.pinned (OpenSpec.upto filesPlaysSpec)

/-- 'escritoirelaw19.CommitWhole', WHERE WHAT IT READS IS OF BULK AT MOST 1048576: true; the input reads as it did. -/
def commitWholeUptoRow : OpenClaim := { program := "ytniaiciabfdbnaa", sum := "6bb3d2a07e7b10e4177da03fd70c8314a64eb3be2ae0c932fff777523fee4369", func := "escritoire/escritoirelaw19.CommitWhole", spec := "commitWhole", unfollowed := true, recurses := true, apart := false, narrowed := true }
def CommitWholeUptoSaid : Prop := commitWholeUptoRow.holds Try.pinned (OpenSpec.upto commitWholeSpec)

/-- 'escritoirelaw19.CommitPlays', WHERE WHAT IT READS IS OF BULK AT MOST 1048576: true; the input reads as it did. -/
def commitPlaysUptoRow : OpenClaim := { program := "ytniaiciabfdbnaa", sum := "6bb3d2a07e7b10e4177da03fd70c8314a64eb3be2ae0c932fff777523fee4369", func := "escritoire/escritoirelaw19.CommitPlays", spec := "commitPlays", inPlace := ["maps.clone"], unfollowed := true, recurses := true, apart := false, narrowed := true }
def CommitPlaysUptoSaid : Prop := commitPlaysUptoRow.holds Try.pinned (OpenSpec.upto commitPlaysSpec)

end Rows
end Go.Proofs.Ytniaiciabfdbnaa
