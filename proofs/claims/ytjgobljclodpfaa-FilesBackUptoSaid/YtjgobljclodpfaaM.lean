/- What lies in memory, as a list: what is the walk's own, each apart from all else, and what nobody writes. No condition. -/
import Derived.Test.YtjgobljclodpfaaE
namespace Go.Proofs.Ytjgobljclodpfaa.E
open Go Go.RowKit K
set_option linter.unusedVariables false
set_option linter.unusedSimpArgs false

structure Stays (F : Nat → Prop) (w w' : World) : Prop where
  os : w'.os = w.os
  tape : w'.tape = w.tape
  output : w'.output = w.output
  size : w.heap.size ≤ w'.heap.size
  block : ∀ b, F b → w'.heap[b]? = w.heap[b]?
theorem Stays.mono {F G : Nat → Prop} {w w' : World} (h : Stays F w w') (hs : ∀ b, G b → F b) : Stays G w w' := ⟨h.os, h.tape, h.output, h.size, fun b hb => h.block b (hs b hb)⟩
theorem Stays.of_below {w w' : World} (h : Below w.heap.size w w') : Stays (· < w.heap.size) w w' := ⟨h.os, h.tape, h.output, h.size, fun b hb => h.block b hb⟩
theorem Stays.of_upd {S F : Nat → Prop} {w w' : World} (h : Upd S w w') (hF : ∀ b, F b → b < w.heap.size ∧ ¬ S b) : Stays F w w' := ⟨h.os, h.tape, h.output, h.size, fun b hb => h.block b (hF b hb).1 (hF b hb).2⟩
theorem Stays.upd {F : Nat → Prop} {w w' : World} (h : Stays F w w') : Upd (fun b => ¬ F b) w w' := ⟨h.os, h.tape, h.output, h.size, fun b _ hn => h.block b (by classical exact Classical.not_not.1 hn)⟩

structure Ass where
  p : World → (Nat → Prop) → Prop
  bnd : ∀ {w F}, p w F → ∀ b, F b → b < w.heap.size
  stab : ∀ {w w' F}, p w F → Stays F w w' → p w' F

def Own (w : World) : (Nat → Prop) → List Ass → Prop
  | _, [] => True
  | G, a :: l => ∃ F, a.p w F ∧ (∀ b, F b → ¬ G b) ∧ Own w (fun b => G b ∨ F b) l

def Mem (w : World) (Os Zs : List Ass) : Prop := ∃ G : Nat → Prop, (∀ b, G b → b < w.heap.size) ∧ (∀ z ∈ Zs, ∃ F, z.p w F ∧ ∀ b, F b → G b) ∧ Own w G Os

theorem Own.imp {w : World} : ∀ {l : List Ass} {G H : Nat → Prop}, Own w G l → (∀ b, H b → G b) → Own w H l
  | [], _, _, _, _ => trivial
  | a :: l, G, H, ⟨F, h1, h2, h3⟩, hi => ⟨F, h1, fun b hb hH => h2 b hb (hi b hH), Own.imp h3 (fun b hb => hb.elim (fun h => .inl (hi b h)) .inr)⟩
/-- What is apart from G stays where G alone is turned. -/
theorem Own.stays {w w' : World} : ∀ {l : List Ass} {G : Nat → Prop}, Own w G l → Upd G w w' → Own w' G l
  | [], _, _, _ => trivial
  | a :: l, G, ⟨F, h1, h2, h3⟩, hu => ⟨F, a.stab h1 (Stays.of_upd hu fun b hb => ⟨a.bnd h1 b hb, h2 b hb⟩), h2, by
      have h4 : Own w' (fun b => G b ∨ F b) l := Own.stays h3 (hu.mono fun b _ hb => .inl hb)
      exact h4⟩
/-- .. and is apart from whatever is new. -/
theorem Own.fresh {w w' : World} : ∀ {l : List Ass} {G : Nat → Prop}, Own w G l → Upd G w w' → Own w' (fun b => G b ∨ w.heap.size ≤ b) l
  | [], _, _, _ => trivial
  | a :: l, G, ⟨F, h1, h2, h3⟩, hu => ⟨F, a.stab h1 (Stays.of_upd hu fun b hb => ⟨a.bnd h1 b hb, h2 b hb⟩), fun b hb hG => hG.elim (h2 b hb) (fun h => by have := a.bnd h1 b hb; omega), by
      have h4 : Own w' (fun b => (G b ∨ F b) ∨ w.heap.size ≤ b) l := Own.fresh h3 (hu.mono fun b _ hb => .inl hb)
      exact h4.imp fun b hb => by
        rcases hb with (h | h) | h
        · exact .inl (.inl h)
        · exact .inr h
        · exact .inl (.inr h)⟩

section
variable {w w' : World} {a b c d : Ass} {Os Zs : List Ass}

theorem Mem.below (M : Mem w Os Zs) (hb : Below w.heap.size w w') : Mem w' Os Zs := by
  obtain ⟨G, h1, h2, h3⟩ := M
  refine ⟨G, fun b hG => Nat.lt_of_lt_of_le (h1 b hG) hb.size, fun z hz => ?_, h3.stays (Upd.of_below hb)⟩
  obtain ⟨F, hF, hs⟩ := h2 z hz
  exact ⟨F, z.stab hF ((Stays.of_below hb).mono fun b hb => z.bnd hF b hb), hs⟩
/-- The first of what is the walk's own: it may be turned, and what is turned to may take new blocks. -/
theorem Mem.take (M : Mem w (a :: Os) Zs) : ∃ F, a.p w F ∧ ∀ {w' : World} {a' : Ass} {F' : Nat → Prop}, Upd F w w' → a'.p w' F' → (∀ b, F' b → F b ∨ w.heap.size ≤ b) → Mem w' (a' :: Os) Zs := by
  obtain ⟨G, h1, h2, F, hF, hd, h3⟩ := M
  refine ⟨F, hF, fun {w' a' F'} hu hF' hs => ⟨G, fun b hG => Nat.lt_of_lt_of_le (h1 b hG) hu.size, fun z hz => ?_, F', hF', fun b hb hG => ?_, ?_⟩⟩
  · obtain ⟨E, hE, hEG⟩ := h2 z hz
    exact ⟨E, z.stab hE (Stays.of_upd hu fun b hb => ⟨z.bnd hE b hb, fun hFb => hd b hFb (hEG b hb)⟩), hEG⟩
  · rcases hs b hb with h | h
    · exact hd b h hG
    · have := h1 b hG; omega
  · have h4 := h3.fresh (hu.mono fun b _ hb => .inr hb : Upd (fun b => G b ∨ F b) w w')
    exact h4.imp fun b hb => hb.elim (fun h => .inl (.inl h)) (fun h => (hs b h).elim (fun h => .inl (.inr h)) .inr)
theorem Mem.new (M : Mem w Os Zs) (hb : Below w.heap.size w w') {F : Nat → Prop} (ha : a.p w' F) (hF : ∀ b, F b → w.heap.size ≤ b) : Mem w' (a :: Os) Zs := by
  have M' := M.below hb
  obtain ⟨G, h1, h2, h3⟩ := M
  refine ⟨G, fun b hG => Nat.lt_of_lt_of_le (h1 b hG) hb.size, fun z hz => ?_, F, ha, fun b hFb hG => by have := h1 b hG; have := hF b hFb; omega, (h3.fresh (Upd.of_below hb)).imp fun b hb => hb.elim .inl (fun h => .inr (hF b h))⟩
  obtain ⟨E, hE, hs⟩ := h2 z hz
  exact ⟨E, z.stab hE ((Stays.of_below hb).mono fun b hb => z.bnd hE b hb), hs⟩
theorem Mem.get (M : Mem w (a :: Os) Zs) : ∃ F, a.p w F := by obtain ⟨_, _, _, F, hF, _⟩ := M; exact ⟨F, hF⟩
theorem Mem.z {z : Ass} (M : Mem w Os Zs) (k : Nat) (hz : Zs[k]? = some z) : ∃ F, z.p w F := by
  obtain ⟨_, _, h2, _⟩ := M
  obtain ⟨F, hF, _⟩ := h2 z (List.mem_of_getElem? hz)
  exact ⟨F, hF⟩
theorem Mem.drop (M : Mem w (a :: Os) Zs) : Mem w Os Zs := by obtain ⟨G, h1, h2, F, _, _, h3⟩ := M; exact ⟨G, h1, h2, h3.imp fun b hb => .inl hb⟩
theorem Mem.swap (M : Mem w (a :: b :: Os) Zs) : Mem w (b :: a :: Os) Zs := by
  obtain ⟨G, h1, h2, F, hF, d1, F', hF', d2, h3⟩ := M
  exact ⟨G, h1, h2, F', hF', fun b hb hG => d2 b hb (.inl hG), F, hF, fun b hb hG => hG.elim (d1 b hb) (fun h => d2 b h (.inr hb)), h3.imp fun b hb => hb.elim (fun h => h.elim (fun h => .inl (.inl h)) .inr) (fun h => .inl (.inr h))⟩
theorem Mem.under (M : Mem w (a :: Os) Zs) {Os' : List Ass} (h : ∀ G, Own w G Os → Own w G Os') : Mem w (a :: Os') Zs := by
  obtain ⟨G, h1, h2, F, hF, d1, h3⟩ := M
  exact ⟨G, h1, h2, F, hF, d1, h _ h3⟩
theorem Own.swap {G : Nat → Prop} (M : Own w G (a :: b :: Os)) : Own w G (b :: a :: Os) := by
  obtain ⟨F, hF, d1, F', hF', d2, h3⟩ := M
  exact ⟨F', hF', fun b hb hG => d2 b hb (.inl hG), F, hF, fun b hb hG => hG.elim (d1 b hb) (fun h => d2 b h (.inr hb)), h3.imp fun b hb => hb.elim (fun h => h.elim (fun h => .inl (.inl h)) .inr) (fun h => .inl (.inr h))⟩
/-- The third one comes first; the fourth one. -/
theorem Mem.third (M : Mem w (a :: b :: c :: Os) Zs) : Mem w (c :: a :: b :: Os) Zs := (M.under fun _ h => h.swap).swap
theorem Mem.fourth (M : Mem w (a :: b :: c :: d :: Os) Zs) : Mem w (d :: a :: b :: c :: Os) Zs := (M.under fun _ h => by
  obtain ⟨F, hF, d1, h3⟩ := h
  exact Own.swap ⟨F, hF, d1, h3.swap⟩).swap
theorem Mem.fifth {e : Ass} (M : Mem w (a :: b :: c :: d :: e :: Os) Zs) : Mem w (e :: a :: b :: c :: d :: Os) Zs := (M.under fun _ h => by
  obtain ⟨F, hF, d1, F', hF', d2, h3⟩ := h
  exact Own.swap ⟨F, hF, d1, Own.swap ⟨F', hF', d2, h3.swap⟩⟩).swap
theorem Own.first : ∀ (n : Nat) {l : List Ass} {G : Nat → Prop}, Own w G l → Own w G (l.take n)
  | 0, _, _, _ => trivial
  | _ + 1, [], _, _ => trivial
  | n + 1, a :: l, G, ⟨F, h1, h2, h3⟩ => ⟨F, h1, h2, Own.first n h3⟩
theorem Mem.first (M : Mem w Os Zs) (n : Nat) : Mem w (Os.take n) Zs := by obtain ⟨G, h1, h2, h3⟩ := M; exact ⟨G, h1, h2, h3.first n⟩
theorem Mem.subz {Zs' : List Ass} (M : Mem w Os Zs) (h : ∀ z ∈ Zs', z ∈ Zs) : Mem w Os Zs' := by obtain ⟨G, h1, h2, h3⟩ := M; exact ⟨G, h1, fun z hz => h2 z (h z hz), h3⟩
/-- Nobody writes it any more. -/
theorem Mem.freeze (M : Mem w (a :: Os) Zs) : Mem w Os (a :: Zs) := by
  obtain ⟨G, h1, h2, F, hF, d1, h3⟩ := M
  refine ⟨_, fun b hb => hb.elim (h1 b) (a.bnd hF b), fun z hz => ?_, h3⟩
  rcases List.mem_cons.1 hz with rfl | hz
  · exact ⟨F, hF, fun b hb => .inr hb⟩
  · obtain ⟨E, hE, hs⟩ := h2 z hz; exact ⟨E, hE, fun b hb => .inl (hs b hb)⟩
theorem Mem.dropz (M : Mem w Os (a :: Zs)) : Mem w Os Zs := by obtain ⟨G, h1, h2, h3⟩ := M; exact ⟨G, h1, fun z hz => h2 z (List.mem_cons_of_mem _ hz), h3⟩
/-- A part of what nobody writes. -/
theorem Mem.part {z : Ass} (M : Mem w Os Zs) (k : Nat) (hz : Zs[k]? = some z) (h : ∀ F, z.p w F → ∃ F', a.p w F' ∧ ∀ b, F' b → F b) : Mem w Os (a :: Zs) := by
  obtain ⟨G, h1, h2, h3⟩ := M
  refine ⟨G, h1, fun y hy => ?_, h3⟩
  rcases List.mem_cons.1 hy with rfl | hy
  · obtain ⟨F, hF, hs⟩ := h2 z (List.mem_of_getElem? hz)
    obtain ⟨F', hF', hs'⟩ := h F hF
    exact ⟨F', hF', fun b hb => hs b (hs' b hb)⟩
  · exact h2 y hy
/-- Something else can be said of it. -/
theorem Mem.say (M : Mem w (a :: Os) Zs) (h : ∀ F, a.p w F → b.p w F) : Mem w (b :: Os) Zs := by
  obtain ⟨G, h1, h2, F, hF, d1, h3⟩ := M
  exact ⟨G, h1, h2, F, h F hF, d1, h3⟩

/-- All that was there, unturned. -/
def zPre (w0 : World) : Ass := ⟨fun w F => (∀ b, F b ↔ b < w0.heap.size) ∧ Below w0.heap.size w0 w, fun {w F} h b hb => Nat.lt_of_lt_of_le ((h.1 b).1 hb) h.2.size,
  fun {w w' F} h hs => ⟨h.1, ⟨hs.os.trans h.2.os, hs.tape.trans h.2.tape, hs.output.trans h.2.output, Nat.le_trans h.2.size hs.size, fun b hb => (hs.block b ((h.1 b).2 hb)).trans (h.2.block b hb)⟩⟩⟩
theorem Mem.start (w : World) : Mem w [] [zPre w] := ⟨fun b => b < w.heap.size, fun _ h => h, fun z hz => by
  obtain rfl := List.mem_singleton.1 hz
  exact ⟨fun b => b < w.heap.size, ⟨fun _ => Iff.rfl, Below.refl _ _⟩, fun _ h => h⟩, trivial⟩
theorem Mem.pre {w0 : World} (M : Mem w Os Zs) (k : Nat) (hz : Zs[k]? = some (zPre w0)) : Below w0.heap.size w0 w := by obtain ⟨_, h⟩ := M.z k hz; exact h.2

/-- A variable in memory. -/
def aBox (b : Nat) (cs : List Value) : Ass := ⟨fun w F => (∀ x, F x ↔ x = b) ∧ Box w b cs, fun {w F} h x hx => by rw [(h.1 x).1 hx]; exact h.2.lt, fun {w w' F} h hs => ⟨h.1, h.2.keep (hs.block b ((h.1 b).2 rfl))⟩⟩
theorem Mem.box {b : Nat} {cs : List Value} (M : Mem w (aBox b cs :: Os) Zs) : Box w b cs := by obtain ⟨_, h⟩ := M.get; exact h.2
theorem Mem.zbox {b : Nat} {cs : List Value} (M : Mem w Os Zs) (k : Nat) (hz : Zs[k]? = some (aBox b cs)) : Box w b cs := by obtain ⟨_, h⟩ := M.z k hz; exact h.2
theorem Mem.newBox {cs : List Value} (M : Mem w Os Zs) (hb : Below w.heap.size w w') (hx : Box w' w.heap.size cs) : Mem w' (aBox w.heap.size cs :: Os) Zs :=
  M.new hb (F := fun x => x = w.heap.size) ⟨fun _ => Iff.rfl, hx⟩ fun b hb => by omega
theorem Mem.setBox {b : Nat} {cs cs' : List Value} (M : Mem w (aBox b cs :: Os) Zs) (hu : Upd (· = b) w w') (hx : Box w' b cs') : Mem w' (aBox b cs' :: Os) Zs := by
  obtain ⟨F, hF, h⟩ := M.take
  exact h (hu.mono fun x _ hx => (hF.1 x).2 hx) (F' := F) ⟨hF.1, hx⟩ fun b hb => .inl hb
/-- A slice that nobody writes. -/
def zSl (k : Nat) (v : Value) (n : Nat) (xs : List Value) : Ass := ⟨fun w F => 0 < k ∧ Sl w F k v n xs ∧ ∀ b, F b → b < w.heap.size, fun {w F} h b hb => h.2.2 b hb, fun {w w' F} h hs => ⟨h.1, h.2.1.keep h.1 fun b _ hF => hs.block b hF, fun b hb => Nat.lt_of_lt_of_le (h.2.2 b hb) hs.size⟩⟩
/-- The first is turned, and something new comes beside it. -/
theorem Mem.takeNew (M : Mem w (a :: Os) Zs) : ∃ F, a.p w F ∧ ∀ {w' : World} {a' c' : Ass} {F' E : Nat → Prop}, Upd F w w' → a'.p w' F' → (∀ b, F' b → F b ∨ w.heap.size ≤ b) → c'.p w' E → (∀ b, E b → w.heap.size ≤ b ∧ ¬ F' b) → Mem w' (c' :: a' :: Os) Zs := by
  obtain ⟨G, h1, h2, F, hF, hd, h3⟩ := M
  refine ⟨F, hF, fun {w' a' c' F' E} hu hF' hs hE hEs => ⟨G, fun b hG => Nat.lt_of_lt_of_le (h1 b hG) hu.size, fun z hz => ?_, E, hE, fun b hb hG => ?_, F', hF', fun b hb hG => ?_, ?_⟩⟩
  · obtain ⟨E, hE, hEG⟩ := h2 z hz
    exact ⟨E, z.stab hE (Stays.of_upd hu fun b hb => ⟨z.bnd hE b hb, fun hFb => hd b hFb (hEG b hb)⟩), hEG⟩
  · have := h1 b hG; have := (hEs b hb).1; omega
  · rcases hG with hG | hG
    · rcases hs b hb with h | h
      · exact hd b h hG
      · have := h1 b hG; omega
    · exact (hEs b hG).2 hb
  · have h4 := h3.fresh (hu.mono fun b _ hb => .inr hb : Upd (fun b => G b ∨ F b) w w')
    exact h4.imp fun b hb => by
      rcases hb with (h | h) | h
      · exact .inl (.inl h)
      · exact .inr (hEs b h).1
      · exact (hs b h).elim (fun h => .inl (.inr h)) .inr
theorem Sl.of_row {w : World} {base : Nat} {e : TypeId} {k n : Nat} {v : Value} {xs : List Value} (h : w.ownsRow base e k v n xs) : K.Sl w (fun b => v.ownBlock = some b) k v n xs := by
  obtain ⟨hl, h2⟩ := h
  rcases h2 with ⟨rfl, rfl⟩ | ⟨g, cap, cur, rfl, hb, hh, hn, hc, hs, ht⟩
  · obtain rfl : xs = [] := List.eq_nil_of_length_eq_zero (by simpa using hl)
    exact Sl.nil _ _ _
  · refine ⟨hl, some ⟨g, 0, none⟩, cap, rfl, hn, hc, (fun h => by cases h), fun _ => ⟨_, rfl, rfl, ?_⟩⟩
    exact World.ownsRow.cells (g := g) (v := .slice (some ⟨g, 0, none⟩) n cap) ⟨hl, .inr ⟨g, cap, cur, rfl, hb, hh, hn, hc, hs, ht⟩⟩ rfl
/-- An own row, to be read alone. -/
theorem zsl_of_row {base : Nat} {e : TypeId} {k n : Nat} {v : Value} {xs : List Value} (hk : 0 < k) (h : w.ownsRow base e k v n xs) : (zSl k v n xs).p w (fun b => v.ownBlock = some b) :=
  ⟨hk, Sl.of_row h, fun b hb => (World.ownsRow.lt h b hb).2⟩
theorem Mem.newSl {base : Nat} {e : TypeId} {k n : Nat} {v : Value} {xs : List Value} (M : Mem w Os Zs) (hk : 0 < k) (hb : Below w.heap.size w w') (h : w'.ownsRow base e k v n xs) (hB : w.heap.size ≤ base) : Mem w' (zSl k v n xs :: Os) Zs :=
  M.new hb (zsl_of_row hk h) fun b hb => Nat.le_trans hB (World.ownsRow.lt h b hb).1
/-- A row of the walk's own. -/
def aRow (e k : Nat) (v : Value) (n : Nat) (xs : List Value) : Ass := ⟨fun w F => (∀ b, F b ↔ v.ownBlock = some b) ∧ w.ownsRow 0 e k v n xs, fun {w F} h b hb => (World.ownsRow.lt h.2 b ((h.1 b).1 hb)).2,
  fun {w w' F} h hs => ⟨h.1, own_keep h.2 fun g hg => hs.block g ((h.1 g).2 hg)⟩⟩
/-- Two parts of what nobody writes, as one. -/
theorem Mem.part2 {z y : Ass} (M : Mem w Os Zs) (k j : Nat) (hz : Zs[k]? = some z) (hy : Zs[j]? = some y) (h : ∀ F E, z.p w F → y.p w E → ∃ F', a.p w F' ∧ ∀ b, F' b → F b ∨ E b) : Mem w Os (a :: Zs) := by
  obtain ⟨G, h1, h2, h3⟩ := M
  refine ⟨G, h1, fun x hx => ?_, h3⟩
  rcases List.mem_cons.1 hx with rfl | hx
  · obtain ⟨F, hF, hs⟩ := h2 z (List.mem_of_getElem? hz)
    obtain ⟨E, hE, hs2⟩ := h2 y (List.mem_of_getElem? hy)
    obtain ⟨F', hF', hs'⟩ := h F E hF hE
    exact ⟨F', hF', fun b hb => (hs' b hb).elim (hs b) (hs2 b)⟩
  · exact h2 x hx
/-- The second of what nobody writes is struck. -/
theorem Mem.dropz2 (M : Mem w Os (a :: b :: Zs)) : Mem w Os (a :: Zs) := M.subz fun z hz => by
  rcases List.mem_cons.1 hz with rfl | hz
  · exact List.mem_cons_self ..
  · exact List.mem_cons_of_mem _ (List.mem_cons_of_mem _ hz)
end

end Go.Proofs.Ytjgobljclodpfaa.E
