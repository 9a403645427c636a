/- Layer 2's laws, plain: an armed disk does as one that is not, till the power goes. No condition. -/
import Derived.Test.YthjlmkmijehnjaaDp2
namespace Go.Proofs.Ythjlmkmijehnjaa
open Go.RowKit Go.Shelf K L
set_option linter.unusedVariables false
set_option linter.unusedSimpArgs false

def PD.arming (d : PD) (k : Nat) : PD := { d with armed := true, left := (k : Int) }
/-- The power is gone. -/
def PD.gone (d : PD) : PD := { d with dead := true, armed := false, left := 0 }
/-- It is counted: a write that is done, or a sync. -/
def DOp.ticks (o : DOp) : Prop := opk o.kind = 2 ∨ (opk o.kind = 1 ∧ 0 ≤ o.at_ ∧ o.at_ < 6)

theorem arming_ready {d : PD} (h : d.fine) (k : Nat) (i : Int) : (d.arming k).ready i = if 0 ≤ i ∧ i < 6 then (0, d.arming k) else (2, d.arming k) := by
  have h6 := h.six; have hf := h.fails
  split
  · exact PD.ready_4 (d := d.arming k) h.dead (by show ¬ (i < 0 ∨ (d.safe.length : Int) ≤ i); omega) (by show ¬ d.fails = 1; omega) (by show ¬ 1 < d.fails; omega)
  · exact PD.ready_1 (d := d.arming k) h.dead (by show i < 0 ∨ (d.safe.length : Int) ≤ i; omega)
theorem arming_tick0 (d : PD) : (d.arming 0).tick = (9, d.gone) := PD.tick_no rfl rfl
theorem arming_tick (d : PD) (k : Nat) : (d.arming (k + 1)).tick = (0, (d.done 1).arming k) := by
  rw [PD.tick_armed rfl (by show ¬ ((k + 1 : Nat) : Int) = 0; omega)]
  show (0, ({ d with armed := true, left := ((k + 1 : Nat) : Int) - 1, ops := d.ops + 1 } : PD)) = (0, ({ d with armed := true, left := (k : Int), ops := d.ops + 1 } : PD))
  rw [show ((k + 1 : Nat) : Int) - 1 = (k : Int) from by omega]

theorem armed_now {d : PD} (h : d.fine) {o : DOp} (ht : o.ticks) : (d.arming 0).does o = (9, zblk, d.gone) := by
  rcases ht with hk | ⟨hk, h0, h6⟩
  · simp only [PD.does, hk]
    rw [if_neg (by decide), if_neg (by decide), if_pos (by decide)]
    have hr := arming_ready h 0 0
    rw [if_pos (by decide)] at hr
    rw [PD.sync_dead (by rw [hr]) (by rw [hr]; dsimp only; rw [arming_tick0]; simp), hr]; dsimp only; rw [arming_tick0]
  · simp only [PD.does, hk]
    rw [if_neg (by decide), if_pos (by decide)]
    have hr := arming_ready h 0 o.at_
    rw [if_pos ⟨h0, h6⟩] at hr
    rw [PD.write_dead (by rw [hr]) (by rw [hr]; dsimp only; rw [arming_tick0]; simp), hr]; dsimp only; rw [arming_tick0]
theorem armed_yes {d : PD} (h : d.fine) {o : DOp} (ht : o.ticks) (k : Nat) : (d.arming (k + 1)).does o = (0, zblk, (d.does o).2.2.arming k) ∧ (d.does o).1 = 0 ∧ (d.does o).2.1 = zblk := by
  rcases ht with hk | ⟨hk, h0, h6⟩
  · simp only [PD.does, hk]
    rw [if_neg (by decide), if_neg (by decide), if_pos (by decide), if_neg (by decide), if_neg (by decide), if_pos (by decide)]
    have hr := arming_ready h (k + 1) 0
    rw [if_pos (by decide)] at hr
    rw [PD.fine_sync h, PD.sync_yes (by rw [hr]) (by rw [hr]; dsimp only; rw [arming_tick]), hr]; dsimp only; rw [arming_tick]; exact ⟨rfl, rfl, rfl⟩
  · simp only [PD.does, hk]
    rw [if_neg (by decide), if_pos (by decide), if_neg (by decide), if_pos (by decide)]
    have hr := arming_ready h (k + 1) o.at_
    rw [if_pos ⟨h0, h6⟩] at hr
    rw [PD.fine_write h, if_pos ⟨h0, h6⟩, PD.write_yes (by rw [hr]) (by rw [hr]; dsimp only; rw [arming_tick]), hr]; dsimp only; rw [arming_tick]; exact ⟨rfl, rfl, rfl⟩
theorem armed_not {d : PD} (h : d.fine) {o : DOp} (ho : opk o.kind < 3) (ht : ¬ o.ticks) (k : Nat) : (d.arming k).does o = ((d.does o).1, (d.does o).2.1, (d.does o).2.2.arming k) ∧ ¬ (0 < opk o.kind ∧ (d.does o).1 = 0) := by
  rcases opk_cases o.kind with hk | hk | hk | hk | hk | hk
  · simp only [PD.does, hk, if_true]
    have hr := arming_ready h k o.at_
    rw [PD.fine_read h]
    by_cases hi : 0 ≤ o.at_ ∧ o.at_ < 6
    · rw [if_pos hi] at hr ⊢
      rw [PD.read_yes (by rw [hr]), hr]; exact ⟨rfl, by simp⟩
    · rw [if_neg hi] at hr ⊢
      rw [PD.read_no (by rw [hr]; simp), hr]; exact ⟨rfl, by simp⟩
  · simp only [PD.does, hk]
    have hi : ¬ (0 ≤ o.at_ ∧ o.at_ < 6) := fun hi => ht (.inr ⟨hk, hi⟩)
    have hr := arming_ready h k o.at_
    rw [if_neg hi] at hr
    rw [if_neg (by decide), if_pos (by decide), if_neg (by decide), if_pos (by decide), PD.fine_write h, if_neg hi, PD.write_no (by rw [hr]; simp), hr]; exact ⟨rfl, by simp⟩
  · exact absurd (.inl hk) ht
  all_goals omega
theorem arm_arming {d : PD} (h : d.fine) (n : Nat) : d.arm n = (0, d.arming n) := by
  unfold PD.arm
  rw [if_neg (by rw [h.dead]; decide), decide_eq_true (by omega)]; rfl
theorem gone_read (d : PD) (i : Int) : d.gone.read i = (9, zblk, d.gone) := by
  have : d.gone.ready i = (9, d.gone) := by unfold PD.ready; rw [if_pos (show d.gone.dead = true from rfl)]
  rw [PD.read_no (by rw [this]; simp), this]
theorem gone_arm (d : PD) (n : Int) : d.gone.arm n = (9, d.gone) := by unfold PD.arm; rw [if_pos (show d.gone.dead = true from rfl)]
theorem gone_sync (d : PD) : d.gone.sync = (9, d.gone) := by
  have : d.gone.ready 0 = (9, d.gone) := by unfold PD.ready; rw [if_pos (show d.gone.dead = true from rfl)]
  rw [PD.sync_no (by rw [this]; simp), this]
theorem gone_fail (d : PD) (n : Int) : d.gone.fail n = (9, d.gone) := by unfold PD.fail; rw [if_pos (show d.gone.dead = true from rfl)]
/-- What a crash leaves if all lives. -/
theorem crash_holds {d : PD} (h : d.fine) (live : Nat → Bool) (hl : ∀ j, j < d.pend.length → live j = true) (i : Nat) : (d.gone.crash live).holds i = d.holds i := by
  have hp : ∀ p ∈ d.pend, p.1 < d.safe.length := fun p hp => (h.ok.pnd p hp).1
  show (lastAt i []).getD ((settle live 0 d.pend d.safe).getD i zblk) = (lastAt i d.pend).getD (d.safe.getD i zblk)
  rw [settle_get d.pend 0 d.safe (fun j _ hj => hl j (by omega)) hp]; rfl

end Go.Proofs.Ythjlmkmijehnjaa
