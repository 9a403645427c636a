/- Layer 2, plain: a disk as the document has it, and what ties the two. No condition. -/
import Derived.Test.YthjlmkmijehnjaaDkL
namespace Go.Proofs.Ythjlmkmijehnjaa
set_option linter.unusedVariables false
set_option linter.unusedSimpArgs false

structure RD where
  safe : List Blk
  pend : List (Nat × Blk)
  dead : Bool
  left : Int
  fails : Int
  ops : Nat

def RD.asked (r : RD) (i : Int) : RD × Int :=
  if r.dead then (r, 9) else if i < 0 ∨ (r.safe.length : Int) ≤ i then (r, 2)
  else if r.fails = 0 then ({ r with fails := -1 }, 8) else if 0 < r.fails then ({ r with fails := r.fails - 1 }, 0) else (r, 0)
def RD.holds (r : RD) (i : Nat) : Blk := (lastAt i r.pend).getD (r.safe.getD i zblk)
def RD.done (r : RD) : RD × Bool :=
  if r.left = 0 then ({ r with dead := true }, false) else if 0 < r.left then ({ r with left := r.left - 1, ops := r.ops + 1 }, true) else ({ r with ops := r.ops + 1 }, true)
def RD.read (r : RD) (i : Int) : RD × Blk × Int :=
  if (r.asked i).2 = 0 then ({ (r.asked i).1 with ops := (r.asked i).1.ops + 1 }, (r.asked i).1.holds i.toNat, 0) else ((r.asked i).1, zblk, (r.asked i).2)
def RD.put (r : RD) (i : Nat) (b : Blk) : RD := { r with pend := r.pend ++ [(i, b)] }
def RD.write (r : RD) (i : Int) (b : Blk) : RD × Int :=
  if (r.asked i).2 = 0 then (if (r.asked i).1.done.2 = true then ((r.asked i).1.done.1.put i.toNat b, 0) else ((r.asked i).1.done.1, 9)) else r.asked i
def RD.live (r : RD) (live : Nat → Bool) : RD := { r with safe := settle live 0 r.pend r.safe, pend := [] }
def RD.sync (r : RD) : RD × Int :=
  if (r.asked 0).2 = 0 then (if (r.asked 0).1.done.2 = true then ((r.asked 0).1.done.1.live fun _ => true, 0) else ((r.asked 0).1.done.1, 9)) else r.asked 0
def RD.arm (r : RD) (n : Int) : RD × Int := if r.dead then (r, 9) else ({ r with left := if n < -1 then -1 else n }, 0)
def RD.fail (r : RD) (n : Int) : RD × Int := if r.dead then (r, 9) else ({ r with fails := if n < -1 then -1 else n }, 0)
def RD.crash (r : RD) (live : Nat → Bool) : RD := { r.live live with dead := false, left := -1, fails := -1 }
def RD.new (n : Nat) : RD := ⟨List.replicate n zblk, [], false, -1, -1, 0⟩

structure RD.ok (r : RD) : Prop where
  few : r.safe.length ≤ 2048
  blk : ∀ x ∈ r.safe, x.length = 64
  pnd : ∀ p ∈ r.pend, p.1 < r.safe.length ∧ p.2.length = 64
  num : r.pend.length ≤ r.ops
  lo : -1 ≤ r.left
  hi : r.left ≤ 9223372036854775807
  f0 : -1 ≤ r.fails
  f1 : r.fails ≤ 9223372036854775807

theorem RD.ok_asked {r : RD} (h : r.ok) (i : Int) : (r.asked i).1.ok := by
  have h0 := h.f0; have h1 := h.f1
  unfold RD.asked
  split
  · exact h
  · split
    · exact h
    · split
      · exact ⟨h.few, h.blk, h.pnd, h.num, h.lo, h.hi, by simp, by simp⟩
      · split
        · exact ⟨h.few, h.blk, h.pnd, h.num, h.lo, h.hi, by dsimp only; omega, by dsimp only; omega⟩
        · exact h
theorem RD.ok_done {r : RD} (h : r.ok) : r.done.1.ok := by
  have h0 := h.lo; have h1 := h.hi; have hn := h.num
  unfold RD.done
  split
  · exact ⟨h.few, h.blk, h.pnd, h.num, h.lo, h.hi, h.f0, h.f1⟩
  · split
    · exact ⟨h.few, h.blk, h.pnd, by dsimp only; omega, by dsimp only; omega, by dsimp only; omega, h.f0, h.f1⟩
    · exact ⟨h.few, h.blk, h.pnd, by dsimp only; omega, h.lo, h.hi, h.f0, h.f1⟩
theorem RD.ok_ops {r : RD} (h : r.ok) : ({ r with ops := r.ops + 1 } : RD).ok :=
  ⟨h.few, h.blk, h.pnd, by have := h.num; dsimp only; omega, h.lo, h.hi, h.f0, h.f1⟩
theorem RD.ok_live {r : RD} (h : r.ok) (live : Nat → Bool) : (r.live live).ok :=
  ⟨by have := h.few; simp only [RD.live, settle_len]; exact this, settle_blk live _ _ _ h.blk (fun p hp => (h.pnd p hp).2), fun p hp => (by cases hp), by simp [RD.live], h.lo, h.hi, h.f0, h.f1⟩
theorem RD.ok_crash {r : RD} (h : r.ok) (live : Nat → Bool) : (r.crash live).ok := by
  have h2 := RD.ok_live h live
  exact ⟨h2.few, h2.blk, h2.pnd, h2.num, by simp [RD.crash], by simp [RD.crash], by simp [RD.crash], by simp [RD.crash]⟩
theorem RD.ok_new (n : Nat) (h2 : n ≤ 2048) : (RD.new n).ok :=
  ⟨by simpa [RD.new] using h2, fun x hx => by rw [List.eq_of_mem_replicate hx]; rfl, fun p hp => (by cases hp), by simp [RD.new], by simp [RD.new], by simp [RD.new], by simp [RD.new], by simp [RD.new]⟩
theorem RD.ok_arm {r : RD} (h : r.ok) (n : Int) (h2 : n ≤ 9223372036854775807) : (r.arm n).1.ok := by
  unfold RD.arm
  split
  · exact h
  · exact ⟨h.few, h.blk, h.pnd, h.num, by dsimp only; split <;> omega, by dsimp only; split <;> omega, h.f0, h.f1⟩
theorem RD.ok_fail {r : RD} (h : r.ok) (n : Int) (h2 : n ≤ 9223372036854775807) : (r.fail n).1.ok := by
  unfold RD.fail
  split
  · exact h
  · exact ⟨h.few, h.blk, h.pnd, h.num, h.lo, h.hi, by dsimp only; split <;> omega, by dsimp only; split <;> omega⟩
theorem RD.asked_safe (r : RD) (i : Int) : (r.asked i).1.safe = r.safe := by unfold RD.asked; (repeat' split) <;> rfl
theorem RD.asked_pend (r : RD) (i : Int) : (r.asked i).1.pend = r.pend := by unfold RD.asked; (repeat' split) <;> rfl
theorem RD.asked_ops (r : RD) (i : Int) : (r.asked i).1.ops = r.ops := by unfold RD.asked; (repeat' split) <;> rfl
theorem RD.asked_in {r : RD} {i : Int} (h : (r.asked i).2 = 0) : 0 ≤ i ∧ i < r.safe.length := by
  unfold RD.asked at h
  split at h
  · simp at h
  · split at h
    · simp at h
    · omega
theorem RD.done_safe (r : RD) : r.done.1.safe = r.safe := by unfold RD.done; (repeat' split) <;> rfl
theorem RD.done_pend (r : RD) : r.done.1.pend = r.pend := by unfold RD.done; (repeat' split) <;> rfl
theorem RD.done_ops0 {r : RD} (h : r.done.2 = true) : r.done.1.ops = r.ops + 1 := by
  unfold RD.done at h ⊢
  split
  · rename_i hl; rw [if_pos hl] at h; cases h
  · split <;> rfl
theorem RD.ok_put {r : RD} (h : r.ok) (i : Nat) (b : Blk) (hi : i < r.safe.length) (hb : b.length = 64) (hn : r.pend.length < r.ops) : (r.put i b).ok :=
  ⟨h.few, h.blk, fun p hp => by
    simp only [RD.put, List.mem_append, List.mem_singleton] at hp
    rcases hp with hp | rfl
    · exact h.pnd p hp
    · exact ⟨hi, hb⟩, by simp only [RD.put, List.length_append, List.length_singleton]; omega, h.lo, h.hi, h.f0, h.f1⟩
theorem RD.ok_write {r : RD} (h : r.ok) (i : Int) (b : Blk) (hb : b.length = 64) : (r.write i b).1.ok := by
  unfold RD.write
  split
  · rename_i h0
    have hr := RD.ok_asked h i
    split
    · rename_i h1
      have := RD.asked_in h0
      refine RD.ok_put (RD.ok_done hr) _ _ (by rw [RD.done_safe, RD.asked_safe]; omega) hb ?_
      rw [RD.done_ops0 h1, RD.done_pend]
      have := hr.num
      omega
    · exact RD.ok_done hr
  · exact RD.ok_asked h i
theorem RD.ok_sync {r : RD} (h : r.ok) : r.sync.1.ok := by
  unfold RD.sync
  split
  · split
    · exact RD.ok_live (RD.ok_done (RD.ok_asked h 0)) _
    · exact RD.ok_done (RD.ok_asked h 0)
  · exact RD.ok_asked h 0
theorem RD.ok_read {r : RD} (h : r.ok) (i : Int) : (r.read i).1.ok := by
  unfold RD.read
  split
  · exact RD.ok_ops (RD.ok_asked h i)
  · exact RD.ok_asked h i

/-- What both say: k operations were done since. -/
structure Tie (k : Nat) (d : PD) (r : RD) : Prop where
  safe : d.safe = r.safe
  pend : d.pend = r.pend
  dead : d.dead = r.dead
  ops : d.ops = r.ops
  arm : d.dead = false → d.armed = decide (0 ≤ r.left)
  left : d.dead = false → d.armed = true → d.left = r.left
  fail : d.fails = r.fails + 1 ∧ r.fails < 4611686018427387904 ∨ d.fails = 0 ∧ 4611686018427387904 ≤ r.fails + k

theorem Tie.more {k k' : Nat} {d : PD} {r : RD} (h : Tie k d r) (hk : k ≤ k') : Tie k' d r :=
  ⟨h.safe, h.pend, h.dead, h.ops, h.arm, h.left, h.fail.imp id fun h => ⟨h.1, by omega⟩⟩
theorem Tie.new (n : Nat) : Tie 0 (PD.new n) (RD.new n) := ⟨rfl, rfl, rfl, rfl, fun _ => rfl, fun _ h => (by cases h), .inl ⟨rfl, by simp [RD.new]⟩⟩
theorem Tie.ready {k : Nat} {d : PD} {r : RD} (h : Tie k d r) (hk : k < 1000000) (i : Int) : (d.ready i).1 = (r.asked i).2 ∧ Tie (k + 1) (d.ready i).2 (r.asked i).1 := by
  obtain ⟨h1, h2, h3, h4, h5, h6, h7⟩ := h
  have mk : ∀ {f : Int} {g : Int}, (f = g + 1 ∧ g < 4611686018427387904 ∨ f = 0 ∧ 4611686018427387904 ≤ g + ((k + 1 : Nat) : Int)) → Tie (k + 1) { d with fails := f } { r with fails := g } := fun hf => ⟨h1, h2, h3, h4, h5, h6, hf⟩
  have hfl : d.fails = r.fails + 1 ∧ r.fails < 4611686018427387904 ∨ d.fails = 0 ∧ 4611686018427387904 ≤ r.fails + ((k + 1 : Nat) : Int) := h7.imp id fun h => ⟨h.1, by omega⟩
  have same : Tie (k + 1) d r := ⟨h1, h2, h3, h4, h5, h6, hfl⟩
  unfold PD.ready RD.asked
  by_cases hd : r.dead = true
  · rw [if_pos (show d.dead = true by rw [h3]; exact hd), if_pos hd]
    exact ⟨rfl, same⟩
  · rw [if_neg (show ¬ d.dead = true by rw [h3]; exact hd), if_neg hd]
    by_cases hi : i < 0 ∨ (r.safe.length : Int) ≤ i
    · rw [if_pos (show i < 0 ∨ (d.safe.length : Int) ≤ i by rw [h1]; exact hi), if_pos hi]
      exact ⟨rfl, same⟩
    · rw [if_neg (show ¬ (i < 0 ∨ (d.safe.length : Int) ≤ i) by rw [h1]; exact hi), if_neg hi]
      rcases h7 with ⟨a, b⟩ | ⟨a, b⟩
      · by_cases hf : r.fails = 0
        · rw [if_pos hf, if_pos (show d.fails = 1 by omega)]
          exact ⟨rfl, mk (.inl ⟨rfl, by decide⟩)⟩
        · rw [if_neg hf, if_neg (show ¬ d.fails = 1 by omega)]
          by_cases hp : 0 < r.fails
          · rw [if_pos hp, if_pos (show 1 < d.fails by omega)]
            exact ⟨rfl, mk (.inl ⟨by omega, by omega⟩)⟩
          · rw [if_neg hp, if_neg (show ¬ 1 < d.fails by omega)]
            exact ⟨rfl, same⟩
      · rw [if_neg (show ¬ d.fails = 1 by omega), if_neg (show ¬ 1 < d.fails by omega), if_neg (show ¬ r.fails = 0 by omega), if_pos (show 0 < r.fails by omega)]
        exact ⟨rfl, (mk (f := d.fails) (.inr ⟨a, by omega⟩))⟩
theorem Tie.alive {d : PD} {i : Int} (h : (d.ready i).1 = 0) : (d.ready i).2.dead = false := by
  unfold PD.ready at h ⊢
  split
  · rename_i hd; rw [if_pos hd] at h; simp at h
  · rename_i hd
    have : d.dead = false := by simpa using hd
    (repeat' split) <;> exact this
theorem Tie.tick {k : Nat} {d : PD} {r : RD} (h : Tie k d r) (hd : d.dead = false) (ho : d.ok) (hr : r.ok) : (d.tick.1 = 0 ↔ r.done.2 = true) ∧ (d.tick.1 ≠ 0 → d.tick.1 = 9) ∧ Tie k d.tick.2 r.done.1 := by
  obtain ⟨h1, h2, h3, h4, h5, h6, h7⟩ := h
  have ha := h5 hd
  have hlo := hr.lo
  unfold PD.tick RD.done
  by_cases hl : 0 ≤ r.left
  · have ha' : d.armed = true := by rw [ha]; exact decide_eq_true hl
    have hle := h6 hd ha'
    rw [if_pos ha', hle]
    by_cases h0 : r.left = 0
    · rw [if_pos h0, if_pos h0]
      exact ⟨by simp, fun _ => rfl, h1, h2, rfl, h4, fun h => (by cases h), fun h => (by cases h), h7⟩
    · rw [if_neg h0, if_neg h0, if_pos (by omega)]
      exact ⟨by simp, fun h => absurd rfl h, h1, h2, h3, by dsimp only; omega, fun _ => (by dsimp only; rw [ha']; exact (decide_eq_true (by omega)).symm), fun _ _ => rfl, h7⟩
  · have ha' : d.armed = false := by rw [ha]; exact decide_eq_false hl
    rw [if_neg (by rw [ha']; decide), if_neg (by omega), if_neg (by omega)]
    exact ⟨by simp, fun h => absurd rfl h, h1, h2, h3, by dsimp only; omega, fun _ => ha, fun _ h => (by dsimp only at h; rw [ha'] at h; cases h), h7⟩
theorem Tie.holds {k : Nat} {d : PD} {r : RD} (h : Tie k d r) (i : Nat) : d.holds i = r.holds i := by unfold PD.holds RD.holds; rw [h.safe, h.pend]
theorem Tie.read {k : Nat} {d : PD} {r : RD} (h : Tie k d r) (hk : k < 1000000) (i : Int) : (d.read i).1 = (r.read i).2.2 ∧ (d.read i).2.1 = (r.read i).2.1 ∧ Tie (k + 1) (d.read i).2.2 (r.read i).1 := by
  obtain ⟨h1, h2⟩ := h.ready hk i
  unfold PD.read RD.read
  rw [h1]
  by_cases h0 : (r.asked i).2 = 0
  · rw [if_pos h0, if_pos h0]
    exact ⟨rfl, h2.holds _, h2.safe, h2.pend, h2.dead, by dsimp only; rw [h2.ops], h2.arm, h2.left, h2.fail⟩
  · rw [if_neg h0, if_neg h0]
    exact ⟨rfl, rfl, h2⟩
theorem Tie.write {k : Nat} {d : PD} {r : RD} (h : Tie k d r) (hk : k < 1000000) (ho : d.ok) (hr : r.ok) (i : Int) (b : Blk) : (d.write i b).1 = (r.write i b).2 ∧ Tie (k + 1) (d.write i b).2 (r.write i b).1 := by
  obtain ⟨h1, h2⟩ := h.ready hk i
  unfold PD.write RD.write
  rw [h1]
  by_cases h0 : (r.asked i).2 = 0
  · rw [if_pos h0, if_pos h0]
    obtain ⟨a, b', c⟩ := h2.tick (Tie.alive (h1.trans h0)) (PD.ok_ready ho i) (RD.ok_asked hr i)
    by_cases ht : (d.ready i).2.tick.1 = 0
    · rw [if_pos ht, if_pos (a.1 ht)]
      exact ⟨rfl, c.safe, by simp only [PD.put, RD.put]; rw [c.pend], c.dead, c.ops, c.arm, c.left, c.fail⟩
    · rw [if_neg ht, if_neg (fun h => ht (a.2 h))]
      exact ⟨b' ht, c⟩
  · rw [if_neg h0, if_neg h0]
    exact ⟨h1, h2⟩
theorem Tie.live {k : Nat} {d : PD} {r : RD} (h : Tie k d r) (live : Nat → Bool) : Tie k (d.live live) (r.live live) :=
  ⟨by simp only [PD.live, RD.live]; rw [h.safe, h.pend], rfl, h.dead, h.ops, h.arm, h.left, h.fail⟩
theorem Tie.sync {k : Nat} {d : PD} {r : RD} (h : Tie k d r) (hk : k < 1000000) (ho : d.ok) (hr : r.ok) : d.sync.1 = r.sync.2 ∧ Tie (k + 1) d.sync.2 r.sync.1 := by
  obtain ⟨h1, h2⟩ := h.ready hk 0
  unfold PD.sync RD.sync
  rw [h1]
  by_cases h0 : (r.asked 0).2 = 0
  · rw [if_pos h0, if_pos h0]
    obtain ⟨a, b', c⟩ := h2.tick (Tie.alive (h1.trans h0)) (PD.ok_ready ho 0) (RD.ok_asked hr 0)
    by_cases ht : (d.ready 0).2.tick.1 = 0
    · rw [if_pos ht, if_pos (a.1 ht)]
      exact ⟨rfl, c.live _⟩
    · rw [if_neg ht, if_neg (fun h => ht (a.2 h))]
      exact ⟨b' ht, c⟩
  · rw [if_neg h0, if_neg h0]
    exact ⟨h1, h2⟩
theorem Tie.armed {k : Nat} {d : PD} {r : RD} (h : Tie k d r) (n : Int) : (d.arm n).1 = (r.arm n).2 ∧ Tie (k + 1) (d.arm n).2 (r.arm n).1 := by
  unfold PD.arm RD.arm
  by_cases hdd : r.dead = true
  · rw [if_pos (show d.dead = true by rw [h.dead]; exact hdd), if_pos hdd]
    exact ⟨rfl, h.more (by omega)⟩
  · rw [if_neg (show ¬ d.dead = true by rw [h.dead]; exact hdd), if_neg hdd]
    refine ⟨rfl, h.safe, h.pend, h.dead, h.ops, fun _ => ?_, fun _ ha => ?_, h.fail.imp id fun h => ⟨h.1, by have := h.2; dsimp only; omega⟩⟩
    · dsimp only
      by_cases hn : n < -1
      · rw [if_pos hn, decide_eq_false (by omega), decide_eq_false (by omega)]
      · rw [if_neg hn]
    · dsimp only at ha ⊢
      have := of_decide_eq_true ha
      rw [if_neg (by omega)]
theorem Tie.failing {k : Nat} {d : PD} {r : RD} (h : Tie k d r) (n : Int) : (d.fail n).1 = (r.fail n).2 ∧ Tie (k + 1) (d.fail n).2 (r.fail n).1 := by
  unfold PD.fail RD.fail
  by_cases hdd : r.dead = true
  · rw [if_pos (show d.dead = true by rw [h.dead]; exact hdd), if_pos hdd]
    exact ⟨rfl, h.more (by omega)⟩
  · rw [if_neg (show ¬ d.dead = true by rw [h.dead]; exact hdd), if_neg hdd]
    refine ⟨rfl, h.safe, h.pend, h.dead, h.ops, h.arm, h.left, ?_⟩
    dsimp only
    by_cases h1 : n < -1
    · rw [if_pos h1, if_neg (by omega)]; exact .inl ⟨rfl, by omega⟩
    · rw [if_neg h1]
      by_cases h2 : 0 ≤ n ∧ n < 4611686018427387904
      · rw [if_pos h2]; exact .inl ⟨rfl, h2.2⟩
      · rw [if_neg h2]
        by_cases h3 : n = -1
        · subst h3; exact .inl ⟨rfl, by omega⟩
        · exact .inr ⟨rfl, by omega⟩
theorem Tie.crash {k : Nat} {d : PD} {r : RD} (h : Tie k d r) (live : Nat → Bool) : Tie k (d.crash live) (r.crash live) :=
  ⟨(h.live live).safe, rfl, rfl, h.ops, fun _ => rfl, fun _ h => (by cases h), .inl ⟨rfl, by simp [RD.crash]⟩⟩

end Go.Proofs.Ythjlmkmijehnjaa
