/- Layer 2, plain: a disk as the program keeps it. No condition. -/
import Derived.Test.YthjlmkmijehnjaaL
namespace Go.Proofs.Ythjlmkmijehnjaa
set_option linter.unusedVariables false
set_option linter.unusedSimpArgs false

abbrev Blk := List UInt8
def zblk : Blk := List.replicate 64 0
theorem zblk_len : zblk.length = 64 := rfl

structure PD where
  safe : List Blk
  pend : List (Nat × Blk)
  dead : Bool
  armed : Bool
  left : Int
  fails : Int
  ops : Nat

/-- What was written last there. -/
def lastAt (i : Nat) : List (Nat × Blk) → Option Blk
  | [] => none
  | (a, b) :: l => match lastAt i l with
    | some c => some c
    | none => if a = i then some b else none

theorem lastAt_snoc (i : Nat) (p : Nat × Blk) : ∀ l : List (Nat × Blk), lastAt i (l ++ [p]) = if p.1 = i then some p.2 else lastAt i l
  | [] => by simp [lastAt]
  | (a, b) :: l => by
    rw [List.cons_append, lastAt, lastAt_snoc i p l]
    by_cases h : p.1 = i
    · simp [h]
    · simp only [h, if_false]; rfl
theorem lastAt_mem {i : Nat} {b : Blk} : ∀ {l : List (Nat × Blk)}, lastAt i l = some b → (i, b) ∈ l
  | [], h => by cases h
  | (a, c) :: l, h => by
    rw [lastAt] at h
    cases hl : lastAt i l with
    | some d => rw [hl] at h; cases h; exact List.mem_cons_of_mem _ (lastAt_mem hl)
    | none =>
      rw [hl] at h
      dsimp only at h
      split at h
      · rename_i e; cases h; subst e; exact List.mem_cons_self ..
      · cases h

def PD.holds (d : PD) (i : Nat) : Blk := (lastAt i d.pend).getD (d.safe.getD i zblk)

/-- The pending writes that live made safe, from the k-th on. -/
def settle (live : Nat → Bool) : Nat → List (Nat × Blk) → List Blk → List Blk
  | _, [], s => s
  | k, (a, b) :: l, s => settle live (k + 1) l (if live k then s.set a b else s)
theorem settle_snoc (live : Nat → Bool) (p : Nat × Blk) : ∀ (l : List (Nat × Blk)) (k : Nat) (s : List Blk),
    settle live k (l ++ [p]) s = if live (k + l.length) then (settle live k l s).set p.1 p.2 else settle live k l s
  | [], k, s => by simp [settle]
  | (a, b) :: l, k, s => by
    rw [List.cons_append, settle, settle_snoc live p l (k + 1), settle, List.length_cons, show k + 1 + l.length = k + (l.length + 1) from by omega]
theorem settle_len (live : Nat → Bool) : ∀ (l : List (Nat × Blk)) (k : Nat) (s : List Blk), (settle live k l s).length = s.length
  | [], k, s => rfl
  | (a, b) :: l, k, s => by rw [settle, settle_len live l]; split <;> simp
theorem settle_blk (live : Nat → Bool) : ∀ (l : List (Nat × Blk)) (k : Nat) (s : List Blk), (∀ x ∈ s, x.length = 64) → (∀ p ∈ l, p.2.length = 64) → ∀ x ∈ settle live k l s, x.length = 64
  | [], k, s, hs, _ => hs
  | (a, b) :: l, k, s, hs, hl => by
    rw [settle]
    refine settle_blk live l (k + 1) _ ?_ (fun p hp => hl p (List.mem_cons_of_mem _ hp))
    split
    · intro x hx
      rcases List.mem_or_eq_of_mem_set hx with h | h
      · exact hs x h
      · rw [h]; exact hl (a, b) (List.mem_cons_self ..)
    · exact hs

def PD.ready (d : PD) (i : Int) : Int × PD :=
  if d.dead then (9, d) else if i < 0 ∨ (d.safe.length : Int) ≤ i then (2, d)
  else if d.fails = 1 then (8, { d with fails := 0 }) else if 1 < d.fails then (0, { d with fails := d.fails - 1 }) else (0, d)
/-- A write or a sync is done, or the power goes. -/
def PD.tick (d : PD) : Int × PD :=
  if d.armed then (if d.left = 0 then (9, { d with dead := true, armed := false }) else (0, { d with left := d.left - 1, ops := d.ops + 1 }))
  else (0, { d with ops := d.ops + 1 })
def PD.read (d : PD) (i : Int) : Int × Blk × PD :=
  if (d.ready i).1 = 0 then (0, (d.ready i).2.holds i.toNat, { (d.ready i).2 with ops := (d.ready i).2.ops + 1 }) else ((d.ready i).1, zblk, (d.ready i).2)
def PD.put (d : PD) (i : Nat) (b : Blk) : PD := { d with pend := d.pend ++ [(i, b)] }
def PD.write (d : PD) (i : Int) (b : Blk) : Int × PD :=
  if (d.ready i).1 = 0 then (if (d.ready i).2.tick.1 = 0 then (0, (d.ready i).2.tick.2.put i.toNat b) else (d.ready i).2.tick) else d.ready i
def PD.live (d : PD) (live : Nat → Bool) : PD := { d with safe := settle live 0 d.pend d.safe, pend := [] }
def PD.sync (d : PD) : Int × PD :=
  if (d.ready 0).1 = 0 then (if (d.ready 0).2.tick.1 = 0 then (0, (d.ready 0).2.tick.2.live fun _ => true) else (d.ready 0).2.tick) else d.ready 0
def PD.arm (d : PD) (n : Int) : Int × PD := if d.dead then (9, d) else (0, { d with armed := decide (0 ≤ n), left := n })
def PD.fail (d : PD) (n : Int) : Int × PD := if d.dead then (9, d) else (0, { d with fails := if 0 ≤ n ∧ n < 4611686018427387904 then n + 1 else 0 })
def PD.crash (d : PD) (live : Nat → Bool) : PD := { d.live live with dead := false, armed := false, fails := 0 }
def PD.new (n : Nat) : PD := ⟨List.replicate n zblk, [], false, false, 0, 0, 0⟩
/-- What lives of a row of choices. -/
def kept (l : List Bool) (i : Nat) : Bool := l.getD i false

structure PD.ok (d : PD) : Prop where
  some : 1 ≤ d.safe.length
  few : d.safe.length ≤ 2048
  blk : ∀ x ∈ d.safe, x.length = 64
  pnd : ∀ p ∈ d.pend, p.1 < d.safe.length ∧ p.2.length = 64
  num : d.pend.length ≤ d.ops
  lo : -9223372036854775808 ≤ d.left
  hi : d.left ≤ 9223372036854775807
  arm : d.armed = true → 0 ≤ d.left
  f0 : 0 ≤ d.fails
  f1 : d.fails ≤ 4611686018427387904

theorem PD.ok_ready {d : PD} (h : d.ok) (i : Int) : (d.ready i).2.ok := by
  have h0 := h.f0; have h1 := h.f1
  unfold PD.ready
  split
  · exact h
  · split
    · exact h
    · split
      · exact ⟨h.some, h.few, h.blk, h.pnd, h.num, h.lo, h.hi, h.arm, by simp, by simp⟩
      · split
        · exact ⟨h.some, h.few, h.blk, h.pnd, h.num, h.lo, h.hi, h.arm, by dsimp only; omega, by dsimp only; omega⟩
        · exact h
theorem PD.ok_tick {d : PD} (h : d.ok) : d.tick.2.ok := by
  have h0 := h.lo; have h1 := h.hi; have hn := h.num
  unfold PD.tick
  split
  · rename_i ha
    have := h.arm ha
    split
    · exact ⟨h.some, h.few, h.blk, h.pnd, h.num, h.lo, h.hi, fun h => (by cases h), h.f0, h.f1⟩
    · exact ⟨h.some, h.few, h.blk, h.pnd, by dsimp only; omega, by dsimp only; omega, by dsimp only; omega, fun _ => (by dsimp only; omega), h.f0, h.f1⟩
  · exact ⟨h.some, h.few, h.blk, h.pnd, by dsimp only; omega, h.lo, h.hi, h.arm, h.f0, h.f1⟩
theorem PD.ok_ops {d : PD} (h : d.ok) : ({ d with ops := d.ops + 1 } : PD).ok :=
  ⟨h.some, h.few, h.blk, h.pnd, by have := h.num; dsimp only; omega, h.lo, h.hi, h.arm, h.f0, h.f1⟩
theorem PD.ok_live {d : PD} (h : d.ok) (live : Nat → Bool) : (d.live live).ok :=
  ⟨by have := h.some; simp only [PD.live, settle_len]; exact this, by have := h.few; simp only [PD.live, settle_len]; exact this, settle_blk live _ _ _ h.blk (fun p hp => (h.pnd p hp).2), fun p hp => (by cases hp), by simp [PD.live], h.lo, h.hi, h.arm, h.f0, h.f1⟩
theorem PD.ok_crash {d : PD} (h : d.ok) (live : Nat → Bool) : (d.crash live).ok := by
  have h2 := PD.ok_live h live
  exact ⟨h2.some, h2.few, h2.blk, h2.pnd, h2.num, h2.lo, h2.hi, fun h => (by cases h), by simp [PD.crash], by simp [PD.crash]⟩
theorem PD.ok_new (n : Nat) (h1 : 1 ≤ n) (h2 : n ≤ 2048) : (PD.new n).ok :=
  ⟨by simpa [PD.new] using h1, by simpa [PD.new] using h2, fun x hx => by rw [List.eq_of_mem_replicate hx]; rfl, fun p hp => (by cases hp), by simp [PD.new], by simp [PD.new], by simp [PD.new], fun h => (by cases h), by simp [PD.new], by simp [PD.new]⟩
theorem PD.ok_arm {d : PD} (h : d.ok) (n : Int) (h1 : -9223372036854775808 ≤ n) (h2 : n ≤ 9223372036854775807) : (d.arm n).2.ok := by
  unfold PD.arm
  split
  · exact h
  · exact ⟨h.some, h.few, h.blk, h.pnd, h.num, h1, h2, fun h => (by simpa using h), h.f0, h.f1⟩
theorem PD.ok_fail {d : PD} (h : d.ok) (n : Int) : (d.fail n).2.ok := by
  unfold PD.fail
  split
  · exact h
  · exact ⟨h.some, h.few, h.blk, h.pnd, h.num, h.lo, h.hi, h.arm, by dsimp only; split <;> omega, by dsimp only; split <;> omega⟩

theorem PD.ready_safe (d : PD) (i : Int) : (d.ready i).2.safe = d.safe := by unfold PD.ready; (repeat' split) <;> rfl
theorem PD.ready_pend (d : PD) (i : Int) : (d.ready i).2.pend = d.pend := by unfold PD.ready; (repeat' split) <;> rfl
theorem PD.ready_ops (d : PD) (i : Int) : (d.ready i).2.ops = d.ops := by unfold PD.ready; (repeat' split) <;> rfl
theorem PD.ready_holds (d : PD) (i : Int) (k : Nat) : (d.ready i).2.holds k = d.holds k := by unfold PD.holds; rw [PD.ready_safe, PD.ready_pend]
theorem PD.ready_in {d : PD} {i : Int} (h : (d.ready i).1 = 0) : 0 ≤ i ∧ i < d.safe.length := by
  unfold PD.ready at h
  split at h
  · simp at h
  · split at h
    · simp at h
    · omega
theorem PD.tick_safe (d : PD) : d.tick.2.safe = d.safe := by unfold PD.tick; (repeat' split) <;> rfl
theorem PD.tick_pend (d : PD) : d.tick.2.pend = d.pend := by unfold PD.tick; (repeat' split) <;> rfl
theorem PD.tick_ops (d : PD) : d.tick.2.ops ≤ d.ops + 1 := by unfold PD.tick; (repeat' split) <;> (dsimp only; omega)
theorem PD.tick_ops0 {d : PD} (h : d.tick.1 = 0) : d.tick.2.ops = d.ops + 1 := by
  unfold PD.tick at h ⊢
  split
  · rename_i ha
    rw [if_pos ha] at h
    split
    · rename_i hl; rw [if_pos hl] at h; simp at h
    · rfl
  · rfl
theorem PD.ok_put {d : PD} (h : d.ok) (i : Nat) (b : Blk) (hi : i < d.safe.length) (hb : b.length = 64) (hn : d.pend.length < d.ops) : (d.put i b).ok :=
  ⟨h.some, h.few, h.blk, fun p hp => by
    simp only [PD.put, List.mem_append, List.mem_singleton] at hp
    rcases hp with hp | rfl
    · exact h.pnd p hp
    · exact ⟨hi, hb⟩, by simp only [PD.put, List.length_append, List.length_singleton]; omega, h.lo, h.hi, h.arm, h.f0, h.f1⟩
theorem PD.ok_write {d : PD} (h : d.ok) (i : Int) (b : Blk) (hb : b.length = 64) : (d.write i b).2.ok := by
  unfold PD.write
  split
  · rename_i h0
    have hr := PD.ok_ready h i
    split
    · rename_i h1
      have := PD.ready_in h0
      refine PD.ok_put (PD.ok_tick hr) _ _ (by rw [PD.tick_safe, PD.ready_safe]; omega) hb ?_
      rw [PD.tick_ops0 h1, PD.tick_pend]
      have := hr.num
      omega
    · exact PD.ok_tick hr
  · exact PD.ok_ready h i
theorem PD.ok_sync {d : PD} (h : d.ok) : d.sync.2.ok := by
  unfold PD.sync
  split
  · split
    · exact PD.ok_live (PD.ok_tick (PD.ok_ready h 0)) _
    · exact PD.ok_tick (PD.ok_ready h 0)
  · exact PD.ok_ready h 0
theorem PD.ok_read {d : PD} (h : d.ok) (i : Int) : (d.read i).2.2.ok := by
  unfold PD.read
  split
  · exact PD.ok_ops (PD.ok_ready h i)
  · exact PD.ok_ready h i
theorem PD.blk_holds {d : PD} (h : d.ok) (i : Nat) : (d.holds i).length = 64 := by
  unfold PD.holds
  cases hl : lastAt i d.pend with
  | some b => exact (h.pnd _ (lastAt_mem hl)).2
  | none =>
    rw [Option.getD_none, List.getD_eq_getElem?_getD]
    cases hs : d.safe[i]? with
    | none => rfl
    | some x => exact h.blk x (List.mem_of_getElem? hs)
theorem PD.blk_read {d : PD} (h : d.ok) (i : Int) : (d.read i).2.1.length = 64 := by
  unfold PD.read
  split
  · exact PD.blk_holds (PD.ok_ready h i) _
  · rfl

end Go.Proofs.Ythjlmkmijehnjaa
