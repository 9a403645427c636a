/-
  No cell of these rows narrows 'for every input' (looked for: loops, veiled, ifaces, maps, wideKeys, modest, calm, conditions, laid).
  DERIVED. THE GIVEN ROWS OF THIS SEAT. 6 by the template 'for every input the law returns true; each argument reads behind the call as it read before'; 0 by the template 'total and deterministic' (their statements: YtibmcpbkialbnaaTotals.lean).
  GIVEN WITH THE SEED: the statements are not yours to turn. If you find one false, say at which input.
  Laid BY PROGRAM, IN A SANDBOX (cutbox-rows.mjs): the forced cells as the released guide's own fill.sh prints them over the translation 6e7df842b9a0dcb4… (all of the seat's roots in one cut). By AI agents, Wed Nov 11 2026. No macro, syntax, notation, axiom, sorry.
-/
import Derived.Test.YtibmcpbkialbnaaChecked
import GoSem.Claim
import GoSem.ClaimJoined
import GoSem.ClaimMapViews
import Derived.JoinedTies
import Derived.KernelRfl
namespace Go.Proofs.Ytibmcpbkialbnaa
/- THE CELL 'sum', in the pinned program and in every row, IS THE sha256 OF THE DUMP (.gsa) THAT YtibmcpbkialbnaaProg.lean LOADS. Nothing in Lean hashes anything: it is a label: what it is worth is what the hold of that sum in a sandbox is worth. -/
noncomputable def Try.pinned : Pinned := { name := "ytibmcpbkialbnaa", sum := "6e7df842b9a0dcb42f8caa298da96a074e2ee613872879a49f9a297bc991085a", checked := Try.checked }
namespace Rows
def none {H : Type} : Left H := { results := [], args := [] }

/-- 'heliographlaw12.LinkFull': WHATEVER THE INPUT: true; the input reads as it did. -/
def linkFullSpec : ChangeSpec := { name := "linkFull", fn := fun _ => fun
  | [d1, d2] => { results := [.lit (.bool true)], args := [d1, d2] }
  | _ => none }
def linkFullRow : OpenClaim := { program := "ytibmcpbkialbnaa", sum := "6e7df842b9a0dcb42f8caa298da96a074e2ee613872879a49f9a297bc991085a", func := "heliograph/heliographlaw12.LinkFull", spec := "linkFull", unfollowed := true, recurses := true, plainKeys := false, apart := false }
def LinkFullSaid : Prop := linkFullRow.holds Try.pinned (OpenSpec.ofChange linkFullSpec)

/-- ITS FALSE NEIGHBOUR: 'it returns false'. Refute it at one input. -/
def linkFullWrong : ChangeSpec := { name := "linkFull", fn := fun _ => fun
  | [d1, d2] => { results := [.lit (.bool false)], args := [d1, d2] }
  | _ => none }
def LinkFullWrongFalsely : Prop := linkFullRow.holds Try.pinned (OpenSpec.ofChange linkFullWrong)

/-- 'heliographlaw12.LinkTurns': WHATEVER THE INPUT: true; the input reads as it did. -/
def linkTurnsSpec : ChangeSpec := { name := "linkTurns", fn := fun _ => fun
  | [d1, d2] => { results := [.lit (.bool true)], args := [d1, d2] }
  | _ => none }
def linkTurnsRow : OpenClaim := { program := "ytibmcpbkialbnaa", sum := "6e7df842b9a0dcb42f8caa298da96a074e2ee613872879a49f9a297bc991085a", func := "heliograph/heliographlaw12.LinkTurns", spec := "linkTurns", unfollowed := true, recurses := true, plainKeys := false, apart := false }
def LinkTurnsSaid : Prop := linkTurnsRow.holds Try.pinned (OpenSpec.ofChange linkTurnsSpec)

/-- ITS FALSE NEIGHBOUR: 'it returns false'. Refute it at one input. -/
def linkTurnsWrong : ChangeSpec := { name := "linkTurns", fn := fun _ => fun
  | [d1, d2] => { results := [.lit (.bool false)], args := [d1, d2] }
  | _ => none }
def LinkTurnsWrongFalsely : Prop := linkTurnsRow.holds Try.pinned (OpenSpec.ofChange linkTurnsWrong)

/-- 'heliographlaw12.LinkDoes': WHATEVER THE INPUT: true; the input reads as it did. -/
def linkDoesSpec : ChangeSpec := { name := "linkDoes", fn := fun _ => fun
  | [d] => { results := [.lit (.bool true)], args := [d] }
  | _ => none }
def linkDoesRow : OpenClaim := { program := "ytibmcpbkialbnaa", sum := "6e7df842b9a0dcb42f8caa298da96a074e2ee613872879a49f9a297bc991085a", func := "heliograph/heliographlaw12.LinkDoes", spec := "linkDoes", unfollowed := true, recurses := true, plainKeys := false, apart := false }
def LinkDoesSaid : Prop := linkDoesRow.holds Try.pinned (OpenSpec.ofChange linkDoesSpec)

/-- ITS FALSE NEIGHBOUR: 'it returns false'. Refute it at one input. -/
def linkDoesWrong : ChangeSpec := { name := "linkDoes", fn := fun _ => fun
  | [d] => { results := [.lit (.bool false)], args := [d] }
  | _ => none }
def LinkDoesWrongFalsely : Prop := linkDoesRow.holds Try.pinned (OpenSpec.ofChange linkDoesWrong)

/-- 'heliographlaw12.LinkApart': WHATEVER THE INPUT: true; the input reads as it did. -/
def linkApartSpec : ChangeSpec := { name := "linkApart", fn := fun _ => fun
  | [d1, d2] => { results := [.lit (.bool true)], args := [d1, d2] }
  | _ => none }
def linkApartRow : OpenClaim := { program := "ytibmcpbkialbnaa", sum := "6e7df842b9a0dcb42f8caa298da96a074e2ee613872879a49f9a297bc991085a", func := "heliograph/heliographlaw12.LinkApart", spec := "linkApart", unfollowed := true, recurses := true, plainKeys := false, apart := false }
def LinkApartSaid : Prop := linkApartRow.holds Try.pinned (OpenSpec.ofChange linkApartSpec)

/-- ITS FALSE NEIGHBOUR: 'it returns false'. Refute it at one input. -/
def linkApartWrong : ChangeSpec := { name := "linkApart", fn := fun _ => fun
  | [d1, d2] => { results := [.lit (.bool false)], args := [d1, d2] }
  | _ => none }
def LinkApartWrongFalsely : Prop := linkApartRow.holds Try.pinned (OpenSpec.ofChange linkApartWrong)

/-- 'heliographlaw12.LinkNone': WHATEVER THE INPUT: true; the input reads as it did. -/
def linkNoneSpec : ChangeSpec := { name := "linkNone", fn := fun _ => fun
  | [d] => { results := [.lit (.bool true)], args := [d] }
  | _ => none }
def linkNoneRow : OpenClaim := { program := "ytibmcpbkialbnaa", sum := "6e7df842b9a0dcb42f8caa298da96a074e2ee613872879a49f9a297bc991085a", func := "heliograph/heliographlaw12.LinkNone", spec := "linkNone", unfollowed := true, recurses := true, plainKeys := false, apart := false }
def LinkNoneSaid : Prop := linkNoneRow.holds Try.pinned (OpenSpec.ofChange linkNoneSpec)

/-- ITS FALSE NEIGHBOUR: 'it returns false'. Refute it at one input. -/
def linkNoneWrong : ChangeSpec := { name := "linkNone", fn := fun _ => fun
  | [d] => { results := [.lit (.bool false)], args := [d] }
  | _ => none }
def LinkNoneWrongFalsely : Prop := linkNoneRow.holds Try.pinned (OpenSpec.ofChange linkNoneWrong)

/-- 'heliographlaw12.LinkCopies': WHATEVER THE INPUT: true; the input reads as it did. -/
def linkCopiesSpec : ChangeSpec := { name := "linkCopies", fn := fun _ => fun
  | [d1, d2, d3] => { results := [.lit (.bool true)], args := [d1, d2, d3] }
  | _ => none }
def linkCopiesRow : OpenClaim := { program := "ytibmcpbkialbnaa", sum := "6e7df842b9a0dcb42f8caa298da96a074e2ee613872879a49f9a297bc991085a", func := "heliograph/heliographlaw12.LinkCopies", spec := "linkCopies", unfollowed := true, recurses := true, plainKeys := false, apart := false }
def LinkCopiesSaid : Prop := linkCopiesRow.holds Try.pinned (OpenSpec.ofChange linkCopiesSpec)

/-- ITS FALSE NEIGHBOUR: 'it returns false'. Refute it at one input. -/
def linkCopiesWrong : ChangeSpec := { name := "linkCopies", fn := fun _ => fun
  | [d1, d2, d3] => { results := [.lit (.bool false)], args := [d1, d2, d3] }
  | _ => none }
def LinkCopiesWrongFalsely : Prop := linkCopiesRow.holds Try.pinned (OpenSpec.ofChange linkCopiesWrong)

/- THE SECOND FORM. 'bulk': how many values and letters a reading holds, each counted each time it is reached (what is shared counts as often as it is met; a slice's spare places count too). A statement '..UptoSaid' is the law's where the arguments, and the package variables that the reading takes, are together of bulk at most 1048576: NARROWER than '..Said'. Prove '..Said' where nothing that the law and all that it calls make is longer than what came in: it says more and counts as full. Else prove '..UptoSaid'. A law counts once. -/
mutual
def uptoBulk {H : Type} : DataW H → Nat
  | .lit (.string bytes) => bytes.length + 1
  | .lit _ => 1
  | .nil => 1
  | .ptr d => uptoBulk d + 1
  | .slice elems spare => uptoBulkAll elems + uptoBulkAll spare + 1
  | .agg parts => uptoBulkAll parts + 1
  | .iface _ d => uptoBulk d + 1
  | .map entries => uptoBulkEntries entries + 1
  | .held _ => 1
def uptoBulkAll {H : Type} : List (DataW H) → Nat
  | [] => 0
  | d :: r => uptoBulk d + uptoBulkAll r
def uptoBulkEntries {H : Type} : List (Lit × DataW H) → Nat
  | [] => 0
  | x :: r => uptoBulkEntry x + uptoBulkEntries r
def uptoBulkEntry {H : Type} : Lit × DataW H → Nat
  | (.string bytes, d) => bytes.length + uptoBulk d + 1
  | (_, d) => uptoBulk d + 1
 end
def uptoSmall : (H : Type) → List (DataW H) → Bool := fun _ ds => decide (uptoBulkAll ds ≤ 1048576)
def OpenSpec.upto (s : _root_.Go.ChangeSpec) : _root_.Go.OpenSpec := { _root_.Go.OpenSpec.ofChange s with cond := some uptoSmall }

/-- 'heliographlaw12.LinkFull', WHERE WHAT IT READS IS OF BULK AT MOST 1048576: true; the input reads as it did. -/
def linkFullUptoRow : OpenClaim := { program := "ytibmcpbkialbnaa", sum := "6e7df842b9a0dcb42f8caa298da96a074e2ee613872879a49f9a297bc991085a", func := "heliograph/heliographlaw12.LinkFull", spec := "linkFull", unfollowed := true, recurses := true, plainKeys := false, apart := false, narrowed := true }
def LinkFullUptoSaid : Prop := linkFullUptoRow.holds Try.pinned (OpenSpec.upto linkFullSpec)

/-- 'heliographlaw12.LinkTurns', WHERE WHAT IT READS IS OF BULK AT MOST 1048576: true; the input reads as it did. -/
def linkTurnsUptoRow : OpenClaim := { program := "ytibmcpbkialbnaa", sum := "6e7df842b9a0dcb42f8caa298da96a074e2ee613872879a49f9a297bc991085a", func := "heliograph/heliographlaw12.LinkTurns", spec := "linkTurns", unfollowed := true, recurses := true, plainKeys := false, apart := false, narrowed := true }
def LinkTurnsUptoSaid : Prop := linkTurnsUptoRow.holds Try.pinned (OpenSpec.upto linkTurnsSpec)

/-- 'heliographlaw12.LinkDoes', WHERE WHAT IT READS IS OF BULK AT MOST 1048576: true; the input reads as it did. -/
def linkDoesUptoRow : OpenClaim := { program := "ytibmcpbkialbnaa", sum := "6e7df842b9a0dcb42f8caa298da96a074e2ee613872879a49f9a297bc991085a", func := "heliograph/heliographlaw12.LinkDoes", spec := "linkDoes", unfollowed := true, recurses := true, plainKeys := false, apart := false, narrowed := true }
def LinkDoesUptoSaid : Prop := linkDoesUptoRow.holds Try.pinned (OpenSpec.upto linkDoesSpec)

/-- 'heliographlaw12.LinkApart', WHERE WHAT IT READS IS OF BULK AT MOST 1048576: true; the input reads as it did. -/
def linkApartUptoRow : OpenClaim := { program := "ytibmcpbkialbnaa", sum := "6e7df842b9a0dcb42f8caa298da96a074e2ee613872879a49f9a297bc991085a", func := "heliograph/heliographlaw12.LinkApart", spec := "linkApart", unfollowed := true, recurses := true, plainKeys := false, apart := false, narrowed := true }
def LinkApartUptoSaid : Prop := linkApartUptoRow.holds Try.pinned (OpenSpec.upto linkApartSpec)

/-- 'heliographlaw12.LinkNone', WHERE WHAT IT READS IS OF BULK AT MOST 1048576: true; the input reads as it did. -/
def linkNoneUptoRow : OpenClaim := { program := "ytibmcpbkialbnaa", sum := "6e7df842b9a0dcb42f8caa298da96a074e2ee613872879a49f9a297bc991085a", func := "heliograph/heliographlaw12.LinkNone", spec := "linkNone", unfollowed := true, recurses := true, plainKeys := false, apart := false, narrowed := true }
def LinkNoneUptoSaid : Prop := linkNoneUptoRow.holds Try.pinned (OpenSpec.upto linkNoneSpec)

/-- 'heliographlaw12.LinkCopies', WHERE WHAT IT READS IS OF BULK AT MOST 1048576: true; the input reads as it did. -/
def linkCopiesUptoRow : OpenClaim := { program := "ytibmcpbkialbnaa", sum := "6e7df842b9a0dcb42f8caa298da96a074e2ee613872879a49f9a297bc991085a", func := "heliograph/heliographlaw12.LinkCopies", spec := "linkCopies", unfollowed := true, recurses := true, plainKeys := false, apart := false, narrowed := true }
def LinkCopiesUptoSaid : Prop := linkCopiesUptoRow.holds Try.pinned (OpenSpec.upto linkCopiesSpec)

end Rows
end Go.Proofs.Ytibmcpbkialbnaa
