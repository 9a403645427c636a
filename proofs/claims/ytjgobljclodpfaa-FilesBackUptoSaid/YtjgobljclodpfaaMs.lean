/- What lies in memory, put together: of two apart one, of many, of some, under a condition. No condition. -/
import Derived.Test.YtjgobljclodpfaaEr
namespace Go.Proofs.Ytjgobljclodpfaa.E
open Go Go.RowKit K
set_option linter.unusedVariables false
set_option linter.unusedSimpArgs false

def aNone : Ass := ⟨fun w F => ∀ x, ¬ F x, fun h x hx => absurd hx (h x), fun h hs => h⟩
def aAll : List Ass → Ass
  | [] => aNone
  | a :: l => aSep a (aAll l)
def aEx {ι : Type} (f : ι → Ass) : Ass := ⟨fun w F => ∃ i, (f i).p w F, fun ⟨i, h⟩ => (f i).bnd h, fun ⟨i, h⟩ hs => ⟨i, (f i).stab h hs⟩⟩
def aIf (q : Prop) (a : Ass) : Ass := ⟨fun w F => q ∧ a.p w F, fun h => a.bnd h.2, fun h hs => ⟨h.1, a.stab h.2 hs⟩⟩

section
variable {w w' : World} {a b c : Ass} {Os Zs l l' : List Ass}
theorem Own.perm (hp : l.Perm l') : ∀ {G : Nat → Prop}, Own w G l → Own w G l' := by
  induction hp with
  | nil => exact fun h => h
  | cons x _ ih => exact fun ⟨F, h1, h2, h3⟩ => ⟨F, h1, h2, ih h3⟩
  | swap x y l => exact fun h => h.swap
  | trans _ _ ih1 ih2 => exact fun h => ih2 (ih1 h)
theorem Mem.perm (M : Mem w l Zs) (hp : l.Perm l') : Mem w l' Zs := by obtain ⟨G, h1, h2, h3⟩ := M; exact ⟨G, h1, h2, h3.perm hp⟩
theorem Mem.join (M : Mem w (a :: b :: Os) Zs) : Mem w (aSep a b :: Os) Zs := by
  obtain ⟨G, h1, h2, F, hF, d1, F', hF', d2, h3⟩ := M
  exact ⟨G, h1, h2, _, ⟨F, F', hF, hF', fun x hx hF => d2 x hx (.inr hF), fun x => Iff.rfl⟩, fun x hx hG => hx.elim (fun h => d1 x h hG) (fun h => d2 x h (.inl hG)), h3.imp fun x hx => hx.elim (fun h => .inl (.inl h)) (fun h => h.elim (fun h => .inl (.inr h)) .inr)⟩
theorem Mem.none (M : Mem w Os Zs) : Mem w (aNone :: Os) Zs := by
  obtain ⟨G, h1, h2, h3⟩ := M
  exact ⟨G, h1, h2, fun _ => False, fun x h => h, fun x h => h.elim, h3.imp fun x hx => hx.elim id False.elim⟩
theorem Mem.ex {ι : Type} {f : ι → Ass} (M : Mem w (aEx f :: Os) Zs) : ∃ i, Mem w (f i :: Os) Zs := by
  obtain ⟨G, h1, h2, F, ⟨i, hF⟩, d1, h3⟩ := M
  exact ⟨i, G, h1, h2, F, hF, d1, h3⟩
theorem Mem.mkEx {ι : Type} {f : ι → Ass} (i : ι) (M : Mem w (f i :: Os) Zs) : Mem w (aEx f :: Os) Zs := M.say fun F h => ⟨i, h⟩
theorem Mem.cond {q : Prop} (M : Mem w (aIf q a :: Os) Zs) : q ∧ Mem w (a :: Os) Zs := by
  obtain ⟨G, h1, h2, F, ⟨hq, hF⟩, d1, h3⟩ := M
  exact ⟨hq, G, h1, h2, F, hF, d1, h3⟩
theorem Mem.mkIf {q : Prop} (hq : q) (M : Mem w (a :: Os) Zs) : Mem w (aIf q a :: Os) Zs := M.say fun F h => ⟨hq, h⟩
theorem Mem.under1 (M : Mem w (a :: Os) Zs) {Os' : List Ass} (h : ∀ {w : World} {Zs : List Ass}, Mem w Os Zs → Mem w Os' Zs) : Mem w (a :: Os') Zs := by
  obtain ⟨G, h1, h2, F, hF, d1, h3⟩ := M
  have M2 : Mem w Os [⟨fun u H => (∀ x, H x ↔ G x ∨ F x) ∧ w.heap.size ≤ u.heap.size, fun {u H} h x hx => by
      rcases (h.1 x).1 hx with hg | hf
      · exact Nat.lt_of_lt_of_le (h1 x hg) h.2
      · exact Nat.lt_of_lt_of_le (a.bnd hF x hf) h.2, fun {u u' H} h hs => ⟨h.1, Nat.le_trans h.2 hs.size⟩⟩] := ⟨fun x => G x ∨ F x, fun x hx => hx.elim (h1 x) (a.bnd hF x), fun z hz => by
    obtain rfl := List.mem_singleton.1 hz
    exact ⟨_, ⟨fun x => Iff.rfl, Nat.le_refl _⟩, fun x hx => hx⟩, h3⟩
  obtain ⟨G', g1, g2, g3⟩ := h M2
  obtain ⟨H, ⟨hH, _⟩, hs⟩ := g2 _ (List.mem_singleton_self _)
  exact ⟨G, h1, h2, F, hF, d1, g3.imp fun x hx => hs x ((hH x).2 hx)⟩
theorem Mem.unall : ∀ {l : List Ass} {Os Zs : List Ass}, Mem w (aAll l :: Os) Zs → Mem w (l ++ Os) Zs
  | [], Os, Zs, M => M.drop
  | a :: l, Os, Zs, M => by
    obtain ⟨G, h1, h2, F, hF, d1, h3⟩ := M.split
    obtain ⟨F', hF', d2, h4⟩ := h3
    have M2 : Mem w (aAll l :: Os) [⟨fun u H => (∀ x, H x ↔ G x ∨ F x) ∧ w.heap.size ≤ u.heap.size, fun {u H} h x hx => by
      rcases (h.1 x).1 hx with hg | hf
      · exact Nat.lt_of_lt_of_le (h1 x hg) h.2
      · exact Nat.lt_of_lt_of_le (a.bnd hF x hf) h.2, fun {u u' H} h hs => ⟨h.1, Nat.le_trans h.2 hs.size⟩⟩] := ⟨fun x => G x ∨ F x, fun x hx => hx.elim (h1 x) (a.bnd hF x), fun z hz => by
        obtain rfl := List.mem_singleton.1 hz
        exact ⟨_, ⟨fun x => Iff.rfl, Nat.le_refl _⟩, fun x hx => hx⟩, F', hF', d2, h4⟩
    obtain ⟨G', g1, g2, g3⟩ := Mem.unall M2
    obtain ⟨H, ⟨hH, _⟩, hs⟩ := g2 _ (List.mem_singleton_self _)
    exact ⟨G, h1, h2, F, hF, d1, g3.imp fun x hx => hs x ((hH x).2 hx)⟩
theorem Mem.all : ∀ {l : List Ass} {Os Zs : List Ass}, Mem w (l ++ Os) Zs → Mem w (aAll l :: Os) Zs
  | [], Os, Zs, M => M.none
  | a :: l, Os, Zs, M => Mem.join (by
    obtain ⟨G, h1, h2, F, hF, d1, h3⟩ := M
    have M2 : Mem w (l ++ Os) [⟨fun u H => (∀ x, H x ↔ G x ∨ F x) ∧ w.heap.size ≤ u.heap.size, fun {u H} h x hx => by
      rcases (h.1 x).1 hx with hg | hf
      · exact Nat.lt_of_lt_of_le (h1 x hg) h.2
      · exact Nat.lt_of_lt_of_le (a.bnd hF x hf) h.2, fun {u u' H} h hs => ⟨h.1, Nat.le_trans h.2 hs.size⟩⟩] := ⟨fun x => G x ∨ F x, fun x hx => hx.elim (h1 x) (a.bnd hF x), fun z hz => by
        obtain rfl := List.mem_singleton.1 hz
        exact ⟨_, ⟨fun x => Iff.rfl, Nat.le_refl _⟩, fun x hx => hx⟩, h3⟩
    obtain ⟨G', g1, g2, F', hF', d2, h4⟩ := Mem.all M2
    obtain ⟨H, ⟨hH, _⟩, hs⟩ := g2 _ (List.mem_singleton_self _)
    exact ⟨G, h1, h2, F, hF, d1, F', hF', fun x hx hg => d2 x hx (hs x ((hH x).2 hg)), h4.imp fun x hx => hx.elim (fun h => .inl (hs x ((hH x).2 h))) .inr⟩)
end

end Go.Proofs.Ytjgobljclodpfaa.E
