/- The cells of an element of a row; cells that a change leaves. No condition. -/
import Derived.Test.YthjlmkmijehnjaaDk2
namespace Go.Proofs.Ythjlmkmijehnjaa
open Go.RowKit Go.Shelf K L
set_option linter.unusedVariables false

/-- The cells of the i-th element of a row. -/
theorem sl_range {α : Type} {f : α → List Value} {k n c : Nat} {w : World} {F : Nat → Prop} {A : Option Addr} {es : List α} (hk : ∀ a ∈ es, (f a).length = k) (hp : 0 < k) (h : Sl w F k (.slice A n c) es.length (es.flatMap f)) (i : Nat) (hi : i < es.length) :
    ∃ b o, A = some ⟨b, o, none⟩ ∧ b < w.heap.size ∧ w.rangeAt b (o + i * k) (f es[i]) := by
  have hn : n = es.length := by obtain ⟨_, A', c', e, _⟩ := h; cases e; rfl
  subst hn
  obtain ⟨b, o, hA, -, hb, hc⟩ := Sl.cells h (by omega) hp
  refine ⟨b, o, hA, hb, fun j v hv => ?_⟩
  have hj : j < k := by have := (List.getElem?_eq_some_iff.1 hv).1; rwa [hk _ (List.getElem_mem hi)] at this
  have := hc (i * k + j) v (by rw [fm_get' es hk i j hj, List.getElem?_eq_getElem hi]; exact hv)
  rwa [← Nat.add_assoc] at this
theorem range_bl {w w' : World} {b p : Nat} {cs : List Value} (hb : Below w.heap.size w w') (hl : b < w.heap.size) (h : w.rangeAt b p cs) : w'.rangeAt b p cs := fun j v hv => by
  have e := h j v hv
  have hx := hb.block b hl
  rw [← e]
  unfold World.cell?
  dsimp only
  rw [hx]

end Go.Proofs.Ythjlmkmijehnjaa
