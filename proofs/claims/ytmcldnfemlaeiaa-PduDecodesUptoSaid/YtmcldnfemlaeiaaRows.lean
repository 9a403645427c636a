/-
  No cell of these rows narrows 'for every input' (looked for: loops, veiled, ifaces, maps, wideKeys, modest, calm, conditions, laid).
  DERIVED. THE GIVEN ROWS OF THIS SEAT. 5 by the template 'for every input the law returns true; each argument reads behind the call as it read before'; 0 by the template 'total and deterministic' (their statements: YtmcldnfemlaeiaaTotals.lean).
  GIVEN WITH THE SEED: the statements are not yours to turn. If you find one false, say at which input.
  Laid BY PROGRAM, IN A SANDBOX (cutbox-rows.mjs): the forced cells as the released guide's own fill.sh prints them over the translation 039c06ef380be9bf… (all of the seat's roots in one cut). By AI agents, Wed Nov 11 2026. No macro, syntax, notation, axiom, sorry.
-/
import Derived.Test.YtmcldnfemlaeiaaChecked
import GoSem.Claim
import GoSem.ClaimJoined
import GoSem.ClaimMapViews
import Derived.JoinedTies
import Derived.KernelRfl
namespace Go.Proofs.Ytmcldnfemlaeiaa
/- THE CELL 'sum', in the pinned program and in every row, IS THE sha256 OF THE DUMP (.gsa) THAT YtmcldnfemlaeiaaProg.lean LOADS. Nothing in Lean hashes anything: it is a label: what it is worth is what the hold of that sum in a sandbox is worth. -/
noncomputable def Try.pinned : Pinned := { name := "ytmcldnfemlaeiaa", sum := "039c06ef380be9bfd46762dd3da9952953c2c34512c15f5e6074f285382d1180", checked := Try.checked }
namespace Rows
def none {H : Type} : Left H := { results := [], args := [] }

/-- 'heliographlaw11.PduEncodes': WHATEVER THE INPUT: true; the input reads as it did. -/
def pduEncodesSpec : ChangeSpec := { name := "pduEncodes", fn := fun _ => fun
  | [d] => { results := [.lit (.bool true)], args := [d] }
  | _ => none }
def pduEncodesRow : OpenClaim := { program := "ytmcldnfemlaeiaa", sum := "039c06ef380be9bfd46762dd3da9952953c2c34512c15f5e6074f285382d1180", func := "heliograph/heliographlaw11.PduEncodes", spec := "pduEncodes", unfollowed := true, recurses := true, apart := false }
def PduEncodesSaid : Prop := pduEncodesRow.holds Try.pinned (OpenSpec.ofChange pduEncodesSpec)

/-- ITS FALSE NEIGHBOUR: 'it returns false'. Refute it at one input. -/
def pduEncodesWrong : ChangeSpec := { name := "pduEncodes", fn := fun _ => fun
  | [d] => { results := [.lit (.bool false)], args := [d] }
  | _ => none }
def PduEncodesWrongFalsely : Prop := pduEncodesRow.holds Try.pinned (OpenSpec.ofChange pduEncodesWrong)

/-- 'heliographlaw11.PduDecodes': WHATEVER THE INPUT: true; the input reads as it did. -/
def pduDecodesSpec : ChangeSpec := { name := "pduDecodes", fn := fun _ => fun
  | [d] => { results := [.lit (.bool true)], args := [d] }
  | _ => none }
def pduDecodesRow : OpenClaim := { program := "ytmcldnfemlaeiaa", sum := "039c06ef380be9bfd46762dd3da9952953c2c34512c15f5e6074f285382d1180", func := "heliograph/heliographlaw11.PduDecodes", spec := "pduDecodes", unfollowed := true, recurses := true, apart := false }
def PduDecodesSaid : Prop := pduDecodesRow.holds Try.pinned (OpenSpec.ofChange pduDecodesSpec)

/-- ITS FALSE NEIGHBOUR: 'it returns false'. Refute it at one input. -/
def pduDecodesWrong : ChangeSpec := { name := "pduDecodes", fn := fun _ => fun
  | [d] => { results := [.lit (.bool false)], args := [d] }
  | _ => none }
def PduDecodesWrongFalsely : Prop := pduDecodesRow.holds Try.pinned (OpenSpec.ofChange pduDecodesWrong)

/-- 'heliographlaw11.PduSame': WHATEVER THE INPUT: true; the input reads as it did. -/
def pduSameSpec : ChangeSpec := { name := "pduSame", fn := fun _ => fun
  | [d1, d2] => { results := [.lit (.bool true)], args := [d1, d2] }
  | _ => none }
def pduSameRow : OpenClaim := { program := "ytmcldnfemlaeiaa", sum := "039c06ef380be9bfd46762dd3da9952953c2c34512c15f5e6074f285382d1180", func := "heliograph/heliographlaw11.PduSame", spec := "pduSame", unfollowed := true, recurses := true, apart := false }
def PduSameSaid : Prop := pduSameRow.holds Try.pinned (OpenSpec.ofChange pduSameSpec)

/-- ITS FALSE NEIGHBOUR: 'it returns false'. Refute it at one input. -/
def pduSameWrong : ChangeSpec := { name := "pduSame", fn := fun _ => fun
  | [d1, d2] => { results := [.lit (.bool false)], args := [d1, d2] }
  | _ => none }
def PduSameWrongFalsely : Prop := pduSameRow.holds Try.pinned (OpenSpec.ofChange pduSameWrong)

/-- 'heliographlaw11.PduBack': WHATEVER THE INPUT: true; the input reads as it did. -/
def pduBackSpec : ChangeSpec := { name := "pduBack", fn := fun _ => fun
  | [d1, d2] => { results := [.lit (.bool true)], args := [d1, d2] }
  | _ => none }
def pduBackRow : OpenClaim := { program := "ytmcldnfemlaeiaa", sum := "039c06ef380be9bfd46762dd3da9952953c2c34512c15f5e6074f285382d1180", func := "heliograph/heliographlaw11.PduBack", spec := "pduBack", unfollowed := true, recurses := true, apart := false }
def PduBackSaid : Prop := pduBackRow.holds Try.pinned (OpenSpec.ofChange pduBackSpec)

/-- ITS FALSE NEIGHBOUR: 'it returns false'. Refute it at one input. -/
def pduBackWrong : ChangeSpec := { name := "pduBack", fn := fun _ => fun
  | [d1, d2] => { results := [.lit (.bool false)], args := [d1, d2] }
  | _ => none }
def PduBackWrongFalsely : Prop := pduBackRow.holds Try.pinned (OpenSpec.ofChange pduBackWrong)

/-- 'heliographlaw11.PduAgain': WHATEVER THE INPUT: true; the input reads as it did. -/
def pduAgainSpec : ChangeSpec := { name := "pduAgain", fn := fun _ => fun
  | [d] => { results := [.lit (.bool true)], args := [d] }
  | _ => none }
def pduAgainRow : OpenClaim := { program := "ytmcldnfemlaeiaa", sum := "039c06ef380be9bfd46762dd3da9952953c2c34512c15f5e6074f285382d1180", func := "heliograph/heliographlaw11.PduAgain", spec := "pduAgain", unfollowed := true, recurses := true, apart := false }
def PduAgainSaid : Prop := pduAgainRow.holds Try.pinned (OpenSpec.ofChange pduAgainSpec)

/-- ITS FALSE NEIGHBOUR: 'it returns false'. Refute it at one input. -/
def pduAgainWrong : ChangeSpec := { name := "pduAgain", fn := fun _ => fun
  | [d] => { results := [.lit (.bool false)], args := [d] }
  | _ => none }
def PduAgainWrongFalsely : Prop := pduAgainRow.holds Try.pinned (OpenSpec.ofChange pduAgainWrong)

/- THE SECOND FORM. 'bulk': how many values and letters a reading holds, each counted each time it is reached (what is shared counts as often as it is met; a slice's spare places count too). A statement '..UptoSaid' is the law's where the arguments, and the package variables that the reading takes, are together of bulk at most 1048576: NARROWER than '..Said'. Prove '..Said' where nothing that the law and all that it calls make is longer than what came in: it says more and counts as full. Else prove '..UptoSaid'. A law counts once. -/
mutual
def uptoBulk {H : Type} : DataW H → Nat
  | .lit (.string bytes) => bytes.length + 1
  | .lit _ => 1
  | .nil => 1
  | .ptr d => uptoBulk d + 1
  | .slice elems spare => uptoBulkAll elems + uptoBulkAll spare + 1
  | .agg parts => uptoBulkAll parts + 1
  | .iface _ d => uptoBulk d + 1
  | .map entries => uptoBulkEntries entries + 1
  | .held _ => 1
def uptoBulkAll {H : Type} : List (DataW H) → Nat
  | [] => 0
  | d :: r => uptoBulk d + uptoBulkAll r
def uptoBulkEntries {H : Type} : List (Lit × DataW H) → Nat
  | [] => 0
  | x :: r => uptoBulkEntry x + uptoBulkEntries r
def uptoBulkEntry {H : Type} : Lit × DataW H → Nat
  | (.string bytes, d) => bytes.length + uptoBulk d + 1
  | (_, d) => uptoBulk d + 1
 end
def uptoSmall : (H : Type) → List (DataW H) → Bool := fun _ ds => decide (uptoBulkAll ds ≤ 1048576)
def OpenSpec.upto (s : _root_.Go.ChangeSpec) : _root_.Go.OpenSpec := { _root_.Go.OpenSpec.ofChange s with cond := some uptoSmall }

/-- 'heliographlaw11.PduEncodes', WHERE WHAT IT READS IS OF BULK AT MOST 1048576: true; the input reads as it did. -/
def pduEncodesUptoRow : OpenClaim := { program := "ytmcldnfemlaeiaa", sum := "039c06ef380be9bfd46762dd3da9952953c2c34512c15f5e6074f285382d1180", func := "heliograph/heliographlaw11.PduEncodes", spec := "pduEncodes", unfollowed := true, recurses := true, apart := false, narrowed := true }
def PduEncodesUptoSaid : Prop := pduEncodesUptoRow.holds Try.pinned (OpenSpec.upto pduEncodesSpec)

/-- 'heliographlaw11.PduDecodes', WHERE WHAT IT READS IS OF BULK AT MOST 1048576: true; the input reads as it did. -/
def pduDecodesUptoRow : OpenClaim := { program := "ytmcldnfemlaeiaa", sum := "039c06ef380be9bfd46762dd3da9952953c2c34512c15f5e6074f285382d1180", func := "heliograph/heliographlaw11.PduDecodes", spec := "pduDecodes", unfollowed := true, recurses := true, apart := false, narrowed := true }
def PduDecodesUptoSaid : Prop := pduDecodesUptoRow.holds Try.pinned (OpenSpec.upto pduDecodesSpec)

/-- 'heliographlaw11.PduSame', WHERE WHAT IT READS IS OF BULK AT MOST 1048576: true; the input reads as it did. -/
def pduSameUptoRow : OpenClaim := { program := "ytmcldnfemlaeiaa", sum := "039c06ef380be9bfd46762dd3da9952953c2c34512c15f5e6074f285382d1180", func := "heliograph/heliographlaw11.PduSame", spec := "pduSame", unfollowed := true, recurses := true, apart := false, narrowed := true }
def PduSameUptoSaid : Prop := pduSameUptoRow.holds Try.pinned (OpenSpec.upto pduSameSpec)

/-- 'heliographlaw11.PduBack', WHERE WHAT IT READS IS OF BULK AT MOST 1048576: true; the input reads as it did. -/
def pduBackUptoRow : OpenClaim := { program := "ytmcldnfemlaeiaa", sum := "039c06ef380be9bfd46762dd3da9952953c2c34512c15f5e6074f285382d1180", func := "heliograph/heliographlaw11.PduBack", spec := "pduBack", unfollowed := true, recurses := true, apart := false, narrowed := true }
def PduBackUptoSaid : Prop := pduBackUptoRow.holds Try.pinned (OpenSpec.upto pduBackSpec)

/-- 'heliographlaw11.PduAgain', WHERE WHAT IT READS IS OF BULK AT MOST 1048576: true; the input reads as it did. -/
def pduAgainUptoRow : OpenClaim := { program := "ytmcldnfemlaeiaa", sum := "039c06ef380be9bfd46762dd3da9952953c2c34512c15f5e6074f285382d1180", func := "heliograph/heliographlaw11.PduAgain", spec := "pduAgain", unfollowed := true, recurses := true, apart := false, narrowed := true }
def PduAgainUptoSaid : Prop := pduAgainUptoRow.holds Try.pinned (OpenSpec.upto pduAgainSpec)

end Rows
end Go.Proofs.Ytmcldnfemlaeiaa
