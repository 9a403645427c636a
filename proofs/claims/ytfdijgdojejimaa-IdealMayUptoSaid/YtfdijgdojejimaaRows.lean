/-
  No cell of these rows narrows 'for every input' (looked for: loops, veiled, ifaces, maps, wideKeys, modest, calm, conditions, laid).
  DERIVED. THE GIVEN ROWS OF THIS SEAT. 5 by the template 'for every input the law returns true; each argument reads behind the call as it read before'; 0 by the template 'total and deterministic' (their statements: YtfdijgdojejimaaTotals.lean).
  GIVEN WITH THE SEED: the statements are not yours to turn. If you find one false, say at which input.
  Laid BY PROGRAM, IN A SANDBOX (cutbox-rows.mjs): the forced cells as the released guide's own fill.sh prints them over the translation bae88542bf91f728… (all of the seat's roots in one cut). By AI agents, Wed Nov 11 2026. No macro, syntax, notation, axiom, sorry.
-/
import Derived.Test.YtfdijgdojejimaaChecked
import GoSem.Claim
import GoSem.ClaimJoined
import GoSem.ClaimMapViews
import Derived.JoinedTies
import Derived.KernelRfl
namespace Go.Proofs.Ytfdijgdojejimaa
/- THE CELL 'sum', in the pinned program and in every row, IS THE sha256 OF THE DUMP (.gsa) THAT YtfdijgdojejimaaProg.lean LOADS. Nothing in Lean hashes anything: it is a label: what it is worth is what the hold of that sum in a sandbox is worth. -/
noncomputable def Try.pinned : Pinned := { name := "ytfdijgdojejimaa", sum := "bae88542bf91f72867bd97b7d678f277b9306cd4a98af8117658f671a0111b5c", checked := Try.checked }
namespace Rows
def none {H : Type} : Left H := { results := [], args := [] }

/-- 'heliographlaw27.IdealMay': WHATEVER THE INPUT: true; the input reads as it did. -/
def idealMaySpec : ChangeSpec := { name := "idealMay", fn := fun _ => fun
  | [d1, d2] => { results := [.lit (.bool true)], args := [d1, d2] }
  | _ => none }
def idealMayRow : OpenClaim := { program := "ytfdijgdojejimaa", sum := "bae88542bf91f72867bd97b7d678f277b9306cd4a98af8117658f671a0111b5c", func := "heliograph/heliographlaw27.IdealMay", spec := "idealMay", unfollowed := true, recurses := true, plainKeys := false, apart := false }
def IdealMaySaid : Prop := idealMayRow.holds Try.pinned (OpenSpec.ofChange idealMaySpec)

/-- ITS FALSE NEIGHBOUR: 'it returns false'. Refute it at one input. -/
def idealMayWrong : ChangeSpec := { name := "idealMay", fn := fun _ => fun
  | [d1, d2] => { results := [.lit (.bool false)], args := [d1, d2] }
  | _ => none }
def IdealMayWrongFalsely : Prop := idealMayRow.holds Try.pinned (OpenSpec.ofChange idealMayWrong)

/-- 'heliographlaw27.IdealJudges': WHATEVER THE INPUT: true; the input reads as it did. -/
def idealJudgesSpec : ChangeSpec := { name := "idealJudges", fn := fun _ => fun
  | [d] => { results := [.lit (.bool true)], args := [d] }
  | _ => none }
def idealJudgesRow : OpenClaim := { program := "ytfdijgdojejimaa", sum := "bae88542bf91f72867bd97b7d678f277b9306cd4a98af8117658f671a0111b5c", func := "heliograph/heliographlaw27.IdealJudges", spec := "idealJudges", unfollowed := true, recurses := true, plainKeys := false, apart := false }
def IdealJudgesSaid : Prop := idealJudgesRow.holds Try.pinned (OpenSpec.ofChange idealJudgesSpec)

/-- ITS FALSE NEIGHBOUR: 'it returns false'. Refute it at one input. -/
def idealJudgesWrong : ChangeSpec := { name := "idealJudges", fn := fun _ => fun
  | [d] => { results := [.lit (.bool false)], args := [d] }
  | _ => none }
def IdealJudgesWrongFalsely : Prop := idealJudgesRow.holds Try.pinned (OpenSpec.ofChange idealJudgesWrong)

/-- 'heliographlaw27.IdealFiles': WHATEVER THE INPUT: true; the input reads as it did. -/
def idealFilesSpec : ChangeSpec := { name := "idealFiles", fn := fun _ => fun
  | [d1, d2] => { results := [.lit (.bool true)], args := [d1, d2] }
  | _ => none }
def idealFilesRow : OpenClaim := { program := "ytfdijgdojejimaa", sum := "bae88542bf91f72867bd97b7d678f277b9306cd4a98af8117658f671a0111b5c", func := "heliograph/heliographlaw27.IdealFiles", spec := "idealFiles", unfollowed := true, recurses := true, plainKeys := false, apart := false }
def IdealFilesSaid : Prop := idealFilesRow.holds Try.pinned (OpenSpec.ofChange idealFilesSpec)

/-- ITS FALSE NEIGHBOUR: 'it returns false'. Refute it at one input. -/
def idealFilesWrong : ChangeSpec := { name := "idealFiles", fn := fun _ => fun
  | [d1, d2] => { results := [.lit (.bool false)], args := [d1, d2] }
  | _ => none }
def IdealFilesWrongFalsely : Prop := idealFilesRow.holds Try.pinned (OpenSpec.ofChange idealFilesWrong)

/-- 'heliographlaw27.IdealRight': WHATEVER THE INPUT: true; the input reads as it did. -/
def idealRightSpec : ChangeSpec := { name := "idealRight", fn := fun _ => fun
  | [d1, d2] => { results := [.lit (.bool true)], args := [d1, d2] }
  | _ => none }
def idealRightRow : OpenClaim := { program := "ytfdijgdojejimaa", sum := "bae88542bf91f72867bd97b7d678f277b9306cd4a98af8117658f671a0111b5c", func := "heliograph/heliographlaw27.IdealRight", spec := "idealRight", unfollowed := true, recurses := true, plainKeys := false, apart := false }
def IdealRightSaid : Prop := idealRightRow.holds Try.pinned (OpenSpec.ofChange idealRightSpec)

/-- ITS FALSE NEIGHBOUR: 'it returns false'. Refute it at one input. -/
def idealRightWrong : ChangeSpec := { name := "idealRight", fn := fun _ => fun
  | [d1, d2] => { results := [.lit (.bool false)], args := [d1, d2] }
  | _ => none }
def IdealRightWrongFalsely : Prop := idealRightRow.holds Try.pinned (OpenSpec.ofChange idealRightWrong)

/-- 'heliographlaw27.IdealTells': WHATEVER THE INPUT: true; the input reads as it did. -/
def idealTellsSpec : ChangeSpec := { name := "idealTells", fn := fun _ => fun
  | [d] => { results := [.lit (.bool true)], args := [d] }
  | _ => none }
def idealTellsRow : OpenClaim := { program := "ytfdijgdojejimaa", sum := "bae88542bf91f72867bd97b7d678f277b9306cd4a98af8117658f671a0111b5c", func := "heliograph/heliographlaw27.IdealTells", spec := "idealTells", unfollowed := true, recurses := true, plainKeys := false, apart := false }
def IdealTellsSaid : Prop := idealTellsRow.holds Try.pinned (OpenSpec.ofChange idealTellsSpec)

/-- ITS FALSE NEIGHBOUR: 'it returns false'. Refute it at one input. -/
def idealTellsWrong : ChangeSpec := { name := "idealTells", fn := fun _ => fun
  | [d] => { results := [.lit (.bool false)], args := [d] }
  | _ => none }
def IdealTellsWrongFalsely : Prop := idealTellsRow.holds Try.pinned (OpenSpec.ofChange idealTellsWrong)

/- THE SECOND FORM. 'bulk': how many values and letters a reading holds, each counted each time it is reached (what is shared counts as often as it is met; a slice's spare places count too). A statement '..UptoSaid' is the law's where the arguments, and the package variables that the reading takes, are together of bulk at most 1048576: NARROWER than '..Said'. Prove '..Said' where nothing that the law and all that it calls make is longer than what came in: it says more and counts as full. Else prove '..UptoSaid'. A law counts once. -/
mutual
def uptoBulk {H : Type} : DataW H → Nat
  | .lit (.string bytes) => bytes.length + 1
  | .lit _ => 1
  | .nil => 1
  | .ptr d => uptoBulk d + 1
  | .slice elems spare => uptoBulkAll elems + uptoBulkAll spare + 1
  | .agg parts => uptoBulkAll parts + 1
  | .iface _ d => uptoBulk d + 1
  | .map entries => uptoBulkEntries entries + 1
  | .held _ => 1
def uptoBulkAll {H : Type} : List (DataW H) → Nat
  | [] => 0
  | d :: r => uptoBulk d + uptoBulkAll r
def uptoBulkEntries {H : Type} : List (Lit × DataW H) → Nat
  | [] => 0
  | x :: r => uptoBulkEntry x + uptoBulkEntries r
def uptoBulkEntry {H : Type} : Lit × DataW H → Nat
  | (.string bytes, d) => bytes.length + uptoBulk d + 1
  | (_, d) => uptoBulk d + 1
 end
def uptoSmall : (H : Type) → List (DataW H) → Bool := fun _ ds => decide (uptoBulkAll ds ≤ 1048576)
def OpenSpec.upto (s : _root_.Go.ChangeSpec) : _root_.Go.OpenSpec := { _root_.Go.OpenSpec.ofChange s with cond := some uptoSmall }

/-- 'heliographlaw27.IdealMay', WHERE WHAT IT READS IS OF BULK AT MOST 1048576: true; the input reads as it did. -/
def idealMayUptoRow : OpenClaim := { program := "ytfdijgdojejimaa", sum := "bae88542bf91f72867bd97b7d678f277b9306cd4a98af8117658f671a0111b5c", func := "heliograph/heliographlaw27.IdealMay", spec := "idealMay", unfollowed := true, recurses := true, plainKeys := false, apart := false, narrowed := true }
def IdealMayUptoSaid : Prop := idealMayUptoRow.holds Try.pinned (OpenSpec.upto idealMaySpec)

/-- 'heliographlaw27.IdealJudges', WHERE WHAT IT READS IS OF BULK AT MOST 1048576: true; the input reads as it did. -/
def idealJudgesUptoRow : OpenClaim := { program := "ytfdijgdojejimaa", sum := "bae88542bf91f72867bd97b7d678f277b9306cd4a98af8117658f671a0111b5c", func := "heliograph/heliographlaw27.IdealJudges", spec := "idealJudges", unfollowed := true, recurses := true, plainKeys := false, apart := false, narrowed := true }
def IdealJudgesUptoSaid : Prop := idealJudgesUptoRow.holds Try.pinned (OpenSpec.upto idealJudgesSpec)

/-- 'heliographlaw27.IdealFiles', WHERE WHAT IT READS IS OF BULK AT MOST 1048576: true; the input reads as it did. -/
def idealFilesUptoRow : OpenClaim := { program := "ytfdijgdojejimaa", sum := "bae88542bf91f72867bd97b7d678f277b9306cd4a98af8117658f671a0111b5c", func := "heliograph/heliographlaw27.IdealFiles", spec := "idealFiles", unfollowed := true, recurses := true, plainKeys := false, apart := false, narrowed := true }
def IdealFilesUptoSaid : Prop := idealFilesUptoRow.holds Try.pinned (OpenSpec.upto idealFilesSpec)

/-- 'heliographlaw27.IdealRight', WHERE WHAT IT READS IS OF BULK AT MOST 1048576: true; the input reads as it did. -/
def idealRightUptoRow : OpenClaim := { program := "ytfdijgdojejimaa", sum := "bae88542bf91f72867bd97b7d678f277b9306cd4a98af8117658f671a0111b5c", func := "heliograph/heliographlaw27.IdealRight", spec := "idealRight", unfollowed := true, recurses := true, plainKeys := false, apart := false, narrowed := true }
def IdealRightUptoSaid : Prop := idealRightUptoRow.holds Try.pinned (OpenSpec.upto idealRightSpec)

/-- 'heliographlaw27.IdealTells', WHERE WHAT IT READS IS OF BULK AT MOST 1048576: true; the input reads as it did. -/
def idealTellsUptoRow : OpenClaim := { program := "ytfdijgdojejimaa", sum := "bae88542bf91f72867bd97b7d678f277b9306cd4a98af8117658f671a0111b5c", func := "heliograph/heliographlaw27.IdealTells", spec := "idealTells", unfollowed := true, recurses := true, plainKeys := false, apart := false, narrowed := true }
def IdealTellsUptoSaid : Prop := idealTellsUptoRow.holds Try.pinned (OpenSpec.upto idealTellsSpec)

end Rows
end Go.Proofs.Ytfdijgdojejimaa
