/- What links are made of, told from a reference's box. No condition. -/
import Derived.Test.YtibmcpbkialbnaaLkX
import Derived.Test.YtibmcpbkialbnaaLkW
namespace Go.Proofs.Ytibmcpbkialbnaa
open Go.RowKit K L E
set_option linter.unusedVariables false
set_option linter.unusedSimpArgs false

theorem lk_not {w : World} {b : Nat} {l : PL} {F : Nat → Prop} (h : (aLk b l).p w F) {x : Nat} (hx : F x) : w.heap[x]? ≠ some (.cells #[.slice none 0 0] 45 (0, 0)) := by
  obtain ⟨⟨g, es, c⟩, hk, F1, F2, h1, ⟨F3, F4, h3, h4, _, h5⟩, _, h6⟩ := h
  intro e
  rcases (h6 x).1 hx with hx | hx
  · obtain ⟨t, hb⟩ := h1.2
    rw [(h1.1 x).1 hx, hb] at e
    cases e
  · rcases (h5 x).1 hx with hx | hx
    · have hm := h3.2.at_
      rw [(h3.1 x).1 hx, hm] at e
      cases e
    · obtain ⟨a, hm, F', h7, h8⟩ := all_of h4 hx
      obtain ⟨y, _, rfl⟩ := List.mem_map.1 hm
      obtain ⟨cs, h9 | h9⟩ := fl_type h7 h8
      · rw [h9] at e; cases e
      · rw [h9] at e; cases e
end Go.Proofs.Ytibmcpbkialbnaa
