/- Rows of the walk's own that may lie in a larger block: read, appended to, cut short. No condition. -/
import Derived.Test.YtjgobljclodpfaaMs
namespace Go.Proofs.Ytjgobljclodpfaa.E
open Go Go.RowKit K
set_option linter.unusedVariables false
set_option linter.unusedSimpArgs false

def LRow (w : World) (e k : Nat) (v : Value) (n : Nat) (xs : List Value) : Prop :=
  xs.length = n * k ∧ ((v = .slice none 0 0 ∧ n = 0) ∨
    ∃ g cap cur, v = .slice (some ⟨g, 0, none⟩) n cap ∧ w.heap[g]? = some (.cells cur e (0, 0)) ∧ n ≤ cap ∧ cap ≤ maxLen ∧ cap * k ≤ cur.size ∧ cur.toList.take (n * k) = xs)

section
variable {P : Program} {w w' : World} {e k n m i : Nat} {v vx : Value} {xs news : List Value} {Os Zs : List Ass}

theorem LRow.of_own {base : Nat} (h : w.ownsRow base e k v n xs) : LRow w e k v n xs := by
  obtain ⟨h1, h2 | ⟨g, cap, cur, h3, _, h4, h5, h6, h7, h8⟩⟩ := h
  · exact ⟨h1, .inl h2⟩
  · exact ⟨h1, .inr ⟨g, cap, cur, h3, h4, h5, h6, by omega, h8⟩⟩
theorem LRow.lt (h : LRow w e k v n xs) : ∀ b, v.ownBlock = some b → b < w.heap.size := by
  intro b hb
  obtain ⟨_, ⟨rfl, _⟩ | ⟨g, cap, cur, rfl, h4, _⟩⟩ := h
  · cases hb
  · obtain rfl : g = b := by simpa [Value.ownBlock] using hb
    exact (Array.getElem?_eq_some_iff.1 h4).1
theorem LRow.keep (h : LRow w e k v n xs) (hb : ∀ b, v.ownBlock = some b → w'.heap[b]? = w.heap[b]?) : LRow w' e k v n xs := by
  obtain ⟨h1, h2 | ⟨g, cap, cur, rfl, h4, h5⟩⟩ := h
  · exact ⟨h1, .inl h2⟩
  · exact ⟨h1, .inr ⟨g, cap, cur, rfl, (hb g rfl).trans h4, h5⟩⟩
theorem LRow.cells (h : LRow w e k v n xs) {g : Nat} (hg : v.ownBlock = some g) : At w ⟨g, 0, none⟩ xs := by
  intro j u hu
  obtain ⟨_, ⟨rfl, _⟩ | ⟨g', cap, cur, rfl, h4, _, _, _, rfl⟩⟩ := h
  · cases hg
  · obtain rfl : g' = g := by simpa [Value.ownBlock] using hg
    rw [Addr.add_lit, Nat.zero_add, cell_in h4]
    rw [List.getElem?_take] at hu
    split at hu
    · simpa using hu
    · cases hu
theorem LRow.sl (h : LRow w e k v n xs) : K.Sl w (fun b => v.ownBlock = some b) k v n xs := by
  have hc := fun g => h.cells (g := g)
  obtain ⟨h1, ⟨rfl, rfl⟩ | ⟨g, cap, cur, rfl, h4, h5, h6, _⟩⟩ := h
  · obtain rfl : xs = [] := List.eq_nil_of_length_eq_zero (by simpa using h1)
    exact Sl.nil _ _ _
  · exact ⟨h1, some ⟨g, 0, none⟩, cap, rfl, h5, h6, (fun h => by cases h), fun _ => ⟨_, rfl, rfl, hc g rfl⟩⟩
def aLr (e k : Nat) (v : Value) (n : Nat) (xs : List Value) : Ass := ⟨fun w F => (∀ b, F b ↔ v.ownBlock = some b) ∧ LRow w e k v n xs, fun {w F} h b hb => h.2.lt b ((h.1 b).1 hb),
  fun {w w' F} h hs => ⟨h.1, h.2.keep fun g hg => hs.block g ((h.1 g).2 hg)⟩⟩
theorem Mem.lrow (M : Mem w (aLr e k v n xs :: Os) Zs) : LRow w e k v n xs := by obtain ⟨_, h⟩ := M.get; exact h.2
theorem Mem.newLRow {base : Nat} (M : Mem w Os Zs) (hb : Below w.heap.size w w') (h : w'.ownsRow base e k v n xs) (hB : w.heap.size ≤ base) : Mem w' (aLr e k v n xs :: Os) Zs :=
  M.new hb (F := fun b => v.ownBlock = some b) ⟨fun _ => Iff.rfl, .of_own h⟩ fun b hb => Nat.le_trans hB (World.ownsRow.lt h b hb).1
theorem Mem.setLRow {v' : Value} {n' : Nat} {xs' : List Value} (M : Mem w (aLr e k v n xs :: Os) Zs) (hu : Upd (fun b => v.ownBlock = some b) w w') (h : LRow w' e k v' n' xs') (hv : ∀ b, v'.ownBlock = some b → v.ownBlock = some b ∨ w.heap.size ≤ b) : Mem w' (aLr e k v' n' xs' :: Os) Zs := by
  obtain ⟨F, hF, hM⟩ := M.take
  exact hM (hu.mono fun b _ hb => (hF.1 b).2 hb) (F' := fun b => v'.ownBlock = some b) ⟨fun _ => Iff.rfl, h⟩ fun b hb => (hv b hb).imp (fun h => (hF.1 b).2 h) (fun h => h)
/-- The first i of a row. -/
theorem LRow.cut {g cap : Nat} (h : LRow w e k (.slice (some ⟨g, 0, none⟩) n cap) n xs) (hi : i ≤ n) : LRow w e k (.slice (some ⟨g, 0, none⟩) i i) i (xs.take (i * k)) := by
  have hik : i * k ≤ n * k := Nat.mul_le_mul_right _ hi
  obtain ⟨h1, ⟨h2, _⟩ | ⟨g', cap', cur, h2, h4, h5, h6, h7, h8⟩⟩ := h
  · cases h2
  · cases h2
    refine ⟨by rw [List.length_take, h1]; omega, .inr ⟨g, i, cur, rfl, h4, Nat.le_refl _, by omega, ?_, ?_⟩⟩
    · exact Nat.le_trans (Nat.mul_le_mul_right _ (by omega : i ≤ cap)) h7
    · rw [← h8, List.take_take]; congr 1; omega

theorem run_lapp {t bytes : Nat} {z : Value} (E : Elem P t e k bytes z) (ty : TypeId) {F : Nat → Prop} (hown : LRow w e k v n xs) (hsrc : Sl w F k vx m news) (h1 : ∀ u ∈ news, u.oneCell' = true) (hb : n + m ≤ 1073741824) (hby : bytes ≤ 65536) :
    ∃ v' w', (Builtin.append_ #[t, t] ty #[v, vx]).run P w = .ok v' w' ∧ LRow w' e k v' (n + m) (xs ++ news) ∧ Upd (fun b => v.ownBlock = some b) w w' ∧ (∀ g, v'.ownBlock = some g → v.ownBlock = some g ∨ w.heap.size ≤ g) := by
  have hc := fun g => hown.cells (g := g)
  obtain ⟨hx, ⟨rfl, rfl⟩ | ⟨g, cap, cur, rfl, hg, hnc, hcm', hcs, htake⟩⟩ := id hown
  · obtain rfl : xs = [] := List.eq_nil_of_length_eq_zero (by simpa using hx)
    obtain ⟨v', w', h1, h2, h3, h4⟩ := run_app2 E ty 0 (World.ownsRow_nil w 0 e k) hsrc h1 hb hby (Nat.zero_le _)
    exact ⟨v', w', h1, .of_own h2, ⟨h3.os, h3.tape, h3.output, h3.size, fun b hb hn => h3.block b hb fun h => by cases h⟩, fun g hg => by rcases h4 with h4 | h4; exact .inl (h4 ▸ hg); exact .inr (h4 g hg)⟩
  obtain ⟨i, hi, hz, hs, hb'⟩ := info_parts E.info
  have hbb : (n + m) * bytes ≤ 140737488355328 := Nat.le_trans (Nat.mul_le_mul hb hby) (by decide)
  have hml : n + m ≤ maxLen := by simp only [maxLen]; omega
  obtain ⟨hl, A, c, rfl, hmc, hcm, hnil, hat⟩ := hsrc
  have hne : ∀ u ∈ news, u.oneCell' = true := h1
  by_cases hm : 0 < m
  · obtain ⟨ad, rfl, _, hnews⟩ := hat hm
    by_cases hroom : n + m ≤ cap
    · have hfit : n * i.size + news.length ≤ cur.size := by rw [hl, hs, ← Nat.add_mul]; exact Nat.le_trans (Nat.mul_le_mul_right _ hroom) hcs
      have hr := run_append_room (P := P) w t ty e i E.ut hi g n cap cur hg ad m c news (by rw [hs]; exact hl) hnews h1 hroom hfit
      refine ⟨_, _, hr, ⟨by rw [List.length_append, hx, hl, Nat.add_mul], .inr ⟨g, cap, _, rfl, setRow_heap w g cur _ e _ hg, hroom, hcm', ?_, ?_⟩⟩, (upd_setRow _ _ _).mono fun b _ hb => by rw [hb]; rfl, fun b hb => .inl hb⟩
      · simp only [List.size_toArray, List.length_append, List.length_take, List.length_drop, Array.length_toList]
        omega
      · rw [hs, htake, Nat.add_mul, ← hx, ← hl, ← List.length_append]
        exact List.take_left
    · obtain ⟨v', w', a, b, c'⟩ := run_append_arg_grows (P := P) (w := w) t ty e i z k bytes E.ut hi hz hs hb' E.zs E.pos ⟨g, 0, none⟩ n cap xs hx (hc g rfl) ad m c news hl hnews (by omega) hml hbb
      exact ⟨v', w', a, .of_own b, ⟨c'.os, c'.tape, c'.output, c'.size, fun j hj hne => c'.block j hj (by simp)⟩, fun g hg => .inr (b.lt g hg).1⟩
  · obtain rfl : m = 0 := by omega
    obtain rfl : news = [] := List.eq_nil_of_length_eq_zero (by simpa using hl)
    have hsr : Src P i.size t (.slice A 0 c) 0 [] w := by
      cases A with
      | none => obtain rfl : c = 0 := hnil rfl
                exact Src.ofNil w E.ut 0
      | some ad => exact Src.ofSlice w E.ut ad 0 c [] (by simp) (fun j u hu => by simp at hu) (fun u hu => by cases hu)
    have hr2 := run_append_room_src (P := P) w t t ty e i E.ut hi g 0 n cap _ 0 [] hsr (by omega) (fun j hj => by simp at hj) (fun j hj => by simp at hj)
    exact ⟨_, w, hr2, by simpa using hown, Upd.refl _ _, fun b hb => .inl hb⟩
end

end Go.Proofs.Ytjgobljclodpfaa.E
