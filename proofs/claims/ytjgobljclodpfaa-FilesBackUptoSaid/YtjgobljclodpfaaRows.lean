/-
  No cell of these rows narrows 'for every input' (looked for: loops, veiled, ifaces, maps, wideKeys, modest, calm, conditions, laid).
  DERIVED. THE GIVEN ROWS OF THIS SEAT. 7 by the template 'for every input the law returns true; each argument reads behind the call as it read before'; 0 by the template 'total and deterministic' (their statements: YtjgobljclodpfaaTotals.lean).
  GIVEN WITH THE SEED: the statements are not yours to turn. If you find one false, say at which input.
  Laid BY PROGRAM, IN A SANDBOX (cutbox-rows.mjs): the forced cells as the released guide's own fill.sh prints them over the translation 1288d16478146a2d… (all of the seat's roots in one cut). By AI agents, Wed Nov 11 2026. No macro, syntax, notation, axiom, sorry.
-/
import Derived.Test.YtjgobljclodpfaaChecked
import GoSem.Claim
import GoSem.ClaimJoined
import GoSem.ClaimMapViews
import Derived.JoinedTies
import Derived.KernelRfl
namespace Go.Proofs.Ytjgobljclodpfaa
/- THE CELL 'sum', in the pinned program and in every row, IS THE sha256 OF THE DUMP (.gsa) THAT YtjgobljclodpfaaProg.lean LOADS. Nothing in Lean hashes anything: it is a label: what it is worth is what the hold of that sum in a sandbox is worth. -/
noncomputable def Try.pinned : Pinned := { name := "ytjgobljclodpfaa", sum := "1288d16478146a2d3d9c488822956c23c412591c3563349beb6327edcec6c926", checked := Try.checked }
namespace Rows
def none {H : Type} : Left H := { results := [], args := [] }

/-- 'heliographlaw05.FilesApplies': WHATEVER THE INPUT: true; the input reads as it did. -/
def filesAppliesSpec : ChangeSpec := { name := "filesApplies", fn := fun _ => fun
  | [d1, d2] => { results := [.lit (.bool true)], args := [d1, d2] }
  | _ => none }
def filesAppliesRow : OpenClaim := { program := "ytjgobljclodpfaa", sum := "1288d16478146a2d3d9c488822956c23c412591c3563349beb6327edcec6c926", func := "heliograph/heliographlaw05.FilesApplies", spec := "filesApplies", inPlace := ["slices.overlaps[heliograph/api.File]"], unfollowed := true, recurses := true, apart := false }
def FilesAppliesSaid : Prop := filesAppliesRow.holds Try.pinned (OpenSpec.ofChange filesAppliesSpec)

/-- ITS FALSE NEIGHBOUR: 'it returns false'. Refute it at one input. -/
def filesAppliesWrong : ChangeSpec := { name := "filesApplies", fn := fun _ => fun
  | [d1, d2] => { results := [.lit (.bool false)], args := [d1, d2] }
  | _ => none }
def FilesAppliesWrongFalsely : Prop := filesAppliesRow.holds Try.pinned (OpenSpec.ofChange filesAppliesWrong)

/-- 'heliographlaw05.FilesOthers': WHATEVER THE INPUT: true; the input reads as it did. -/
def filesOthersSpec : ChangeSpec := { name := "filesOthers", fn := fun _ => fun
  | [d1, d2] => { results := [.lit (.bool true)], args := [d1, d2] }
  | _ => none }
def filesOthersRow : OpenClaim := { program := "ytjgobljclodpfaa", sum := "1288d16478146a2d3d9c488822956c23c412591c3563349beb6327edcec6c926", func := "heliograph/heliographlaw05.FilesOthers", spec := "filesOthers", inPlace := ["slices.overlaps[heliograph/api.File]"], unfollowed := true, recurses := true, apart := false }
def FilesOthersSaid : Prop := filesOthersRow.holds Try.pinned (OpenSpec.ofChange filesOthersSpec)

/-- ITS FALSE NEIGHBOUR: 'it returns false'. Refute it at one input. -/
def filesOthersWrong : ChangeSpec := { name := "filesOthers", fn := fun _ => fun
  | [d1, d2] => { results := [.lit (.bool false)], args := [d1, d2] }
  | _ => none }
def FilesOthersWrongFalsely : Prop := filesOthersRow.holds Try.pinned (OpenSpec.ofChange filesOthersWrong)

/-- 'heliographlaw05.FilesOnce': WHATEVER THE INPUT: true; the input reads as it did. -/
def filesOnceSpec : ChangeSpec := { name := "filesOnce", fn := fun _ => fun
  | [d1, d2] => { results := [.lit (.bool true)], args := [d1, d2] }
  | _ => none }
def filesOnceRow : OpenClaim := { program := "ytjgobljclodpfaa", sum := "1288d16478146a2d3d9c488822956c23c412591c3563349beb6327edcec6c926", func := "heliograph/heliographlaw05.FilesOnce", spec := "filesOnce", inPlace := ["slices.overlaps[heliograph/api.File]"], unfollowed := true, recurses := true, apart := false }
def FilesOnceSaid : Prop := filesOnceRow.holds Try.pinned (OpenSpec.ofChange filesOnceSpec)

/-- ITS FALSE NEIGHBOUR: 'it returns false'. Refute it at one input. -/
def filesOnceWrong : ChangeSpec := { name := "filesOnce", fn := fun _ => fun
  | [d1, d2] => { results := [.lit (.bool false)], args := [d1, d2] }
  | _ => none }
def FilesOnceWrongFalsely : Prop := filesOnceRow.holds Try.pinned (OpenSpec.ofChange filesOnceWrong)

/-- 'heliographlaw05.FilesChecks': WHATEVER THE INPUT: true; the input reads as it did. -/
def filesChecksSpec : ChangeSpec := { name := "filesChecks", fn := fun _ => fun
  | [d1, d2] => { results := [.lit (.bool true)], args := [d1, d2] }
  | _ => none }
def filesChecksRow : OpenClaim := { program := "ytjgobljclodpfaa", sum := "1288d16478146a2d3d9c488822956c23c412591c3563349beb6327edcec6c926", func := "heliograph/heliographlaw05.FilesChecks", spec := "filesChecks", inPlace := ["slices.overlaps[heliograph/api.File]"], unfollowed := true, recurses := true, apart := false }
def FilesChecksSaid : Prop := filesChecksRow.holds Try.pinned (OpenSpec.ofChange filesChecksSpec)

/-- ITS FALSE NEIGHBOUR: 'it returns false'. Refute it at one input. -/
def filesChecksWrong : ChangeSpec := { name := "filesChecks", fn := fun _ => fun
  | [d1, d2] => { results := [.lit (.bool false)], args := [d1, d2] }
  | _ => none }
def FilesChecksWrongFalsely : Prop := filesChecksRow.holds Try.pinned (OpenSpec.ofChange filesChecksWrong)

/-- 'heliographlaw05.FilesCodes': WHATEVER THE INPUT: true; the input reads as it did. -/
def filesCodesSpec : ChangeSpec := { name := "filesCodes", fn := fun _ => fun
  | [d1, d2] => { results := [.lit (.bool true)], args := [d1, d2] }
  | _ => none }
def filesCodesRow : OpenClaim := { program := "ytjgobljclodpfaa", sum := "1288d16478146a2d3d9c488822956c23c412591c3563349beb6327edcec6c926", func := "heliograph/heliographlaw05.FilesCodes", spec := "filesCodes", inPlace := ["slices.overlaps[heliograph/api.File]"], unfollowed := true, recurses := true, apart := false }
def FilesCodesSaid : Prop := filesCodesRow.holds Try.pinned (OpenSpec.ofChange filesCodesSpec)

/-- ITS FALSE NEIGHBOUR: 'it returns false'. Refute it at one input. -/
def filesCodesWrong : ChangeSpec := { name := "filesCodes", fn := fun _ => fun
  | [d1, d2] => { results := [.lit (.bool false)], args := [d1, d2] }
  | _ => none }
def FilesCodesWrongFalsely : Prop := filesCodesRow.holds Try.pinned (OpenSpec.ofChange filesCodesWrong)

/-- 'heliographlaw05.FilesOps': WHATEVER THE INPUT: true; the input reads as it did. -/
def filesOpsSpec : ChangeSpec := { name := "filesOps", fn := fun _ => fun
  | [d1, d2] => { results := [.lit (.bool true)], args := [d1, d2] }
  | _ => none }
def filesOpsRow : OpenClaim := { program := "ytjgobljclodpfaa", sum := "1288d16478146a2d3d9c488822956c23c412591c3563349beb6327edcec6c926", func := "heliograph/heliographlaw05.FilesOps", spec := "filesOps", inPlace := ["slices.overlaps[heliograph/api.File]"], unfollowed := true, recurses := true, apart := false }
def FilesOpsSaid : Prop := filesOpsRow.holds Try.pinned (OpenSpec.ofChange filesOpsSpec)

/-- ITS FALSE NEIGHBOUR: 'it returns false'. Refute it at one input. -/
def filesOpsWrong : ChangeSpec := { name := "filesOps", fn := fun _ => fun
  | [d1, d2] => { results := [.lit (.bool false)], args := [d1, d2] }
  | _ => none }
def FilesOpsWrongFalsely : Prop := filesOpsRow.holds Try.pinned (OpenSpec.ofChange filesOpsWrong)

/-- 'heliographlaw05.FilesBack': WHATEVER THE INPUT: true; the input reads as it did. -/
def filesBackSpec : ChangeSpec := { name := "filesBack", fn := fun _ => fun
  | [d1, d2, d3] => { results := [.lit (.bool true)], args := [d1, d2, d3] }
  | _ => none }
def filesBackRow : OpenClaim := { program := "ytjgobljclodpfaa", sum := "1288d16478146a2d3d9c488822956c23c412591c3563349beb6327edcec6c926", func := "heliograph/heliographlaw05.FilesBack", spec := "filesBack", inPlace := ["slices.overlaps[heliograph/api.File]"], unfollowed := true, recurses := true, apart := false }
def FilesBackSaid : Prop := filesBackRow.holds Try.pinned (OpenSpec.ofChange filesBackSpec)

/-- ITS FALSE NEIGHBOUR: 'it returns false'. Refute it at one input. -/
def filesBackWrong : ChangeSpec := { name := "filesBack", fn := fun _ => fun
  | [d1, d2, d3] => { results := [.lit (.bool false)], args := [d1, d2, d3] }
  | _ => none }
def FilesBackWrongFalsely : Prop := filesBackRow.holds Try.pinned (OpenSpec.ofChange filesBackWrong)

/- THE SECOND FORM. 'bulk': how many values and letters a reading holds, each counted each time it is reached (what is shared counts as often as it is met; a slice's spare places count too). A statement '..UptoSaid' is the law's where the arguments, and the package variables that the reading takes, are together of bulk at most 1048576: NARROWER than '..Said'. Prove '..Said' where nothing that the law and all that it calls make is longer than what came in: it says more and counts as full. Else prove '..UptoSaid'. A law counts once. -/
mutual
def uptoBulk {H : Type} : DataW H → Nat
  | .lit (.string bytes) => bytes.length + 1
  | .lit _ => 1
  | .nil => 1
  | .ptr d => uptoBulk d + 1
  | .slice elems spare => uptoBulkAll elems + uptoBulkAll spare + 1
  | .agg parts => uptoBulkAll parts + 1
  | .iface _ d => uptoBulk d + 1
  | .map entries => uptoBulkEntries entries + 1
  | .held _ => 1
def uptoBulkAll {H : Type} : List (DataW H) → Nat
  | [] => 0
  | d :: r => uptoBulk d + uptoBulkAll r
def uptoBulkEntries {H : Type} : List (Lit × DataW H) → Nat
  | [] => 0
  | x :: r => uptoBulkEntry x + uptoBulkEntries r
def uptoBulkEntry {H : Type} : Lit × DataW H → Nat
  | (.string bytes, d) => bytes.length + uptoBulk d + 1
  | (_, d) => uptoBulk d + 1
 end
def uptoSmall : (H : Type) → List (DataW H) → Bool := fun _ ds => decide (uptoBulkAll ds ≤ 1048576)
def OpenSpec.upto (s : _root_.Go.ChangeSpec) : _root_.Go.OpenSpec := { _root_.Go.OpenSpec.ofChange s with cond := some uptoSmall }

/-- 'heliographlaw05.FilesApplies', WHERE WHAT IT READS IS OF BULK AT MOST 1048576: true; the input reads as it did. -/
def filesAppliesUptoRow : OpenClaim := { program := "ytjgobljclodpfaa", sum := "1288d16478146a2d3d9c488822956c23c412591c3563349beb6327edcec6c926", func := "heliograph/heliographlaw05.FilesApplies", spec := "filesApplies", inPlace := ["slices.overlaps[heliograph/api.File]"], unfollowed := true, recurses := true, apart := false, narrowed := true }
def FilesAppliesUptoSaid : Prop := filesAppliesUptoRow.holds Try.pinned (OpenSpec.upto filesAppliesSpec)

/-- 'heliographlaw05.FilesOthers', WHERE WHAT IT READS IS OF BULK AT MOST 1048576: true; the input reads as it did. -/
def filesOthersUptoRow : OpenClaim := { program := "ytjgobljclodpfaa", sum := "1288d16478146a2d3d9c488822956c23c412591c3563349beb6327edcec6c926", func := "heliograph/heliographlaw05.FilesOthers", spec := "filesOthers", inPlace := ["slices.overlaps[heliograph/api.File]"], unfollowed := true, recurses := true, apart := false, narrowed := true }
def FilesOthersUptoSaid : Prop := filesOthersUptoRow.holds Try.pinned (OpenSpec.upto filesOthersSpec)

/-- 'heliographlaw05.FilesOnce', WHERE WHAT IT READS IS OF BULK AT MOST 1048576: true; the input reads as it did. -/
def filesOnceUptoRow : OpenClaim := { program := "ytjgobljclodpfaa", sum := "1288d16478146a2d3d9c488822956c23c412591c3563349beb6327edcec6c926", func := "heliograph/heliographlaw05.FilesOnce", spec := "filesOnce", inPlace := ["slices.overlaps[heliograph/api.File]"], unfollowed := true, recurses := true, apart := false, narrowed := true }
def FilesOnceUptoSaid : Prop := filesOnceUptoRow.holds Try.pinned (OpenSpec.upto filesOnceSpec)

/-- 'heliographlaw05.FilesChecks', WHERE WHAT IT READS IS OF BULK AT MOST 1048576: true; the input reads as it did. -/
def filesChecksUptoRow : OpenClaim := { program := "ytjgobljclodpfaa", sum := "1288d16478146a2d3d9c488822956c23c412591c3563349beb6327edcec6c926", func := "heliograph/heliographlaw05.FilesChecks", spec := "filesChecks", inPlace := ["slices.overlaps[heliograph/api.File]"], unfollowed := true, recurses := true, apart := false, narrowed := true }
def FilesChecksUptoSaid : Prop := filesChecksUptoRow.holds Try.pinned (OpenSpec.upto filesChecksSpec)

/-- 'heliographlaw05.FilesCodes', WHERE WHAT IT READS IS OF BULK AT MOST 1048576: true; the input reads as it did. -/
def filesCodesUptoRow : OpenClaim := { program := "ytjgobljclodpfaa", sum := "1288d16478146a2d3d9c488822956c23c412591c3563349beb6327edcec6c926", func := "heliograph/heliographlaw05.FilesCodes", spec := "filesCodes", inPlace := ["slices.overlaps[heliograph/api.File]"], unfollowed := true, recurses := true, apart := false, narrowed := true }
def FilesCodesUptoSaid : Prop := filesCodesUptoRow.holds Try.pinned (OpenSpec.upto filesCodesSpec)

/-- 'heliographlaw05.FilesOps', WHERE WHAT IT READS IS OF BULK AT MOST 1048576: true; the input reads as it did. -/
def filesOpsUptoRow : OpenClaim := { program := "ytjgobljclodpfaa", sum := "1288d16478146a2d3d9c488822956c23c412591c3563349beb6327edcec6c926", func := "heliograph/heliographlaw05.FilesOps", spec := "filesOps", inPlace := ["slices.overlaps[heliograph/api.File]"], unfollowed := true, recurses := true, apart := false, narrowed := true }
def FilesOpsUptoSaid : Prop := filesOpsUptoRow.holds Try.pinned (OpenSpec.upto filesOpsSpec)

/-- 'heliographlaw05.FilesBack', WHERE WHAT IT READS IS OF BULK AT MOST 1048576: true; the input reads as it did. -/
def filesBackUptoRow : OpenClaim := { program := "ytjgobljclodpfaa", sum := "1288d16478146a2d3d9c488822956c23c412591c3563349beb6327edcec6c926", func := "heliograph/heliographlaw05.FilesBack", spec := "filesBack", inPlace := ["slices.overlaps[heliograph/api.File]"], unfollowed := true, recurses := true, apart := false, narrowed := true }
def FilesBackUptoSaid : Prop := filesBackUptoRow.holds Try.pinned (OpenSpec.upto filesBackSpec)

end Rows
end Go.Proofs.Ytjgobljclodpfaa
