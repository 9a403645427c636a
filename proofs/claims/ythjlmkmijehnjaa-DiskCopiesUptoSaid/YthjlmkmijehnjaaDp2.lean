/- Layer 2's laws, plain: a disk that will fail does as one that does not, but once. No condition. -/
import Derived.Test.YthjlmkmijehnjaaDpL
namespace Go.Proofs.Ythjlmkmijehnjaa
open Go.RowKit Go.Shelf K L
set_option linter.unusedVariables false
set_option linter.unusedSimpArgs false

def PD.failing (d : PD) (k : Nat) : PD := { d with fails := k }
theorem PD.failing_zero {d : PD} (h : d.fine) : d.failing 0 = d := by
  have := h.fails
  cases d; simp only [PD.failing] at *; simp_all
/-- It asks the disk for something that is done. -/
def DOp.asks (o : DOp) : Prop := opk o.kind = 2 ∨ (opk o.kind < 2 ∧ 0 ≤ o.at_ ∧ o.at_ < 6)
theorem DOp.asks_cases {o : DOp} (h : o.asks) : (opk o.kind = 0 ∧ 0 ≤ o.at_ ∧ o.at_ < 6) ∨ (opk o.kind = 1 ∧ 0 ≤ o.at_ ∧ o.at_ < 6) ∨ opk o.kind = 2 := by
  rcases h with h | ⟨h, h1, h2⟩
  · exact .inr (.inr h)
  · rcases opk_cases o.kind with hk | hk | hk | hk | hk | hk
    · exact .inl ⟨hk, h1, h2⟩
    · exact .inr (.inl ⟨hk, h1, h2⟩)
    all_goals omega
theorem DOp.asks_lt {o : DOp} (h : o.asks) : opk o.kind < 3 := by rcases h with h | ⟨h, _⟩ <;> omega

theorem does_failing1 {d : PD} (h : d.fine) {o : DOp} (ha : o.asks) : (d.failing 1).does o = (8, zblk, d) := by
  have hr : ∀ i : Int, 0 ≤ i → i < 6 → (d.failing 1).ready i = (8, d) := fun i h0 h6 => by
    rw [PD.ready_2 (d := d.failing 1) h.dead (by have := h.six; show ¬ (i < 0 ∨ (d.safe.length : Int) ≤ i); omega) rfl]
    exact congrArg (Prod.mk 8) (PD.failing_zero h)
  rcases DOp.asks_cases ha with ⟨hk, h0, h6⟩ | ⟨hk, h0, h6⟩ | hk
  · simp only [PD.does, hk, if_true]
    rw [PD.read_no (by rw [hr _ h0 h6]; simp), hr _ h0 h6]
  · simp only [PD.does, hk]
    rw [if_neg (by decide), if_pos (by decide), PD.write_no (by rw [hr _ h0 h6]; simp), hr _ h0 h6]
  · simp only [PD.does, hk]
    rw [if_neg (by decide), if_neg (by decide), if_pos (by decide), PD.sync_no (by rw [hr 0 (by decide) (by decide)]; simp), hr 0 (by decide) (by decide)]
theorem does_failing2 {d : PD} (h : d.fine) {o : DOp} (ha : o.asks) (k : Nat) (hk2 : 2 ≤ k) : (d.failing k).does o = ((d.does o).1, (d.does o).2.1, (d.does o).2.2.failing (k - 1)) := by
  have hr : ∀ i : Int, 0 ≤ i → i < 6 → (d.failing k).ready i = (0, d.failing (k - 1)) := fun i h0 h6 => by
    rw [PD.ready_3 (d := d.failing k) h.dead (by have := h.six; show ¬ (i < 0 ∨ (d.safe.length : Int) ≤ i); omega) (by show ¬ (k : Int) = 1; omega) (by show 1 < (k : Int); omega)]
    show (0, ({ d with fails := (k : Int) - 1 } : PD)) = (0, ({ d with fails := ((k - 1 : Nat) : Int) } : PD))
    rw [show (k : Int) - 1 = ((k - 1 : Nat) : Int) from by omega]
  have ht : (d.failing (k - 1)).tick = (0, (d.failing (k - 1)).done 1) := by unfold PD.tick; rw [if_neg (by show ¬ d.armed = true; rw [h.armed]; decide)]; rfl
  rcases DOp.asks_cases ha with ⟨hk, h0, h6⟩ | ⟨hk, h0, h6⟩ | hk
  · simp only [PD.does, hk, if_true]
    rw [PD.fine_read h, if_pos ⟨h0, h6⟩, PD.read_yes (by rw [hr _ h0 h6]), hr _ h0 h6]; rfl
  · simp only [PD.does, hk]
    rw [if_neg (by decide), if_pos (by decide), if_neg (by decide), if_pos (by decide), PD.fine_write h, if_pos ⟨h0, h6⟩, PD.write_yes (by rw [hr _ h0 h6]) (by rw [hr _ h0 h6]; dsimp only; rw [ht]), hr _ h0 h6]; dsimp only; rw [ht]; rfl
  · simp only [PD.does, hk]
    rw [if_neg (by decide), if_neg (by decide), if_pos (by decide), if_neg (by decide), if_neg (by decide), if_pos (by decide), PD.fine_sync h, PD.sync_yes (by rw [hr 0 (by decide) (by decide)]) (by rw [hr 0 (by decide) (by decide)]; dsimp only; rw [ht]), hr 0 (by decide) (by decide)]; dsimp only; rw [ht]; rfl
/-- Behind how many it fails yet, and one more. -/
def toFail (n asked : Nat) : Nat := if asked ≤ n then n + 1 - asked else 0
theorem does_rel {d : PD} (h : d.fine) {o : DOp} (ha : o.asks) {n k : Nat} (hk : ¬ k = n) : (d.failing (toFail n k)).does o = ((d.does o).1, (d.does o).2.1, (d.does o).2.2.failing (toFail n (k + 1))) := by
  by_cases hlt : k < n
  · rw [show toFail n k = n + 1 - k from if_pos (by omega), show toFail n (k + 1) = n + 1 - k - 1 from by unfold toFail; rw [if_pos (by omega)]; omega]
    exact does_failing2 h ha _ (by omega)
  · have hw := (wstep_fine h o).1
    rw [wstep, if_pos (DOp.asks_lt ha)] at hw
    rw [show toFail n k = 0 from if_neg (by omega), show toFail n (k + 1) = 0 from if_neg (by omega), PD.failing_zero h, PD.failing_zero hw]
theorem does_now {d : PD} (h : d.fine) {o : DOp} (ha : o.asks) {n : Nat} : (d.failing (toFail n n)).does o = (8, zblk, d.failing (toFail n (n + 1))) := by
  rw [show toFail n n = 1 from by unfold toFail; rw [if_pos (Nat.le_refl _)]; omega, show toFail n (n + 1) = 0 from if_neg (by omega), PD.failing_zero h]
  exact does_failing1 h ha
theorem does_blk {d : PD} (h : d.ok) (o : DOp) : (d.does o).2.1.length = 64 := by
  unfold PD.does
  (repeat' split) <;> first | exact PD.blk_read h _ | exact zblk_len
theorem does_fine {d : PD} (h : d.fine) {o : DOp} (ho : opk o.kind < 3) : (d.does o).2.2.fine ∧ (d.does o).2.2.ops ≤ d.ops + 1 := by
  have := wstep_fine h o
  rwa [wstep, if_pos ho] at this
theorem failing_ok {d : PD} (h : d.fine) (k : Nat) (hk : k ≤ 1000) : (d.failing k).ok := ⟨h.ok.some, h.ok.few, h.ok.blk, h.ok.pnd, h.ok.num, h.ok.lo, h.ok.hi, h.ok.arm, by show 0 ≤ (k : Int); omega, by show (k : Int) ≤ _; omega⟩
theorem fail_failing {d : PD} (h : d.fine) (n : Nat) (hn : n ≤ 1000) : d.fail n = (0, d.failing (toFail n 0)) := by
  unfold PD.fail
  rw [if_neg (by rw [h.dead]; decide), if_pos (by omega), show toFail n 0 = n + 1 from if_pos (by omega)]; rfl
theorem unfail {d : PD} (h : d.fine) (k : Nat) : (d.failing k).fail (-1) = (0, d) := by
  unfold PD.fail
  rw [if_neg (by show ¬ d.dead = true; rw [h.dead]; decide), if_neg (by decide)]
  exact congrArg (Prod.mk 0) (PD.failing_zero h)

end Go.Proofs.Ythjlmkmijehnjaa
