/- Layer 2's laws, plain: what a sector holds behind a crash. No condition. -/
import Derived.Test.YthjlmkmijehnjaaDp3
namespace Go.Proofs.Ythjlmkmijehnjaa
open Go.RowKit Go.Shelf K L
set_option linter.unusedVariables false
set_option linter.unusedSimpArgs false

theorem crash_hold (d : PD) (live : Nat → Bool) (i : Nat) : (d.crash live).holds i = (settle live 0 d.pend d.safe).getD i zblk := rfl
/-- The last of the live writes to a sector, from the k-th on. -/
theorem settle_from (live : Nat → Bool) (i : Nat) : ∀ (l : List (Nat × Blk)) (k : Nat) (s : List Blk), (∀ p ∈ l, p.1 < s.length) → (settle live k l s).getD i zblk = s.getD i zblk ∨ ∃ j b, l[j]? = some (i, b) ∧ live (k + j) = true ∧ (settle live k l s).getD i zblk = b
  | [], k, s, _ => .inl rfl
  | (a, b) :: l, k, s, hp => by
    rw [settle]
    have hl : (if live k = true then s.set a b else s).length = s.length := by split <;> simp
    rcases settle_from live i l (k + 1) (if live k = true then s.set a b else s) (fun p h => by rw [hl]; exact hp p (List.mem_cons_of_mem _ h)) with h | ⟨j, c, h1, h2, h3⟩
    · rw [h]
      split
      · rename_i hlv
        by_cases e : a = i
        · subst e
          refine .inr ⟨0, b, rfl, by simpa using hlv, ?_⟩
          have := hp (a, b) (List.mem_cons_self ..)
          rw [List.getD_eq_getElem?_getD, List.getElem?_set_self (by simpa using this)]; rfl
        · left
          rw [List.getD_eq_getElem?_getD, List.getD_eq_getElem?_getD, List.getElem?_set_ne e]
      · exact .inl rfl
    · exact .inr ⟨j + 1, c, by simpa using h1, by rw [← h2]; congr 1; omega, h3⟩
theorem settle_none (live : Nat → Bool) : ∀ (l : List (Nat × Blk)) (k : Nat) (s : List Blk), (∀ j, k ≤ j → live j = false) → settle live k l s = s
  | [], k, s, _ => rfl
  | (a, b) :: l, k, s, h => by rw [settle, if_neg (by rw [h k (Nat.le_refl _)]; decide)]; exact settle_none live l (k + 1) s (fun j hj => h j (by omega))
/-- If the k-th alone lives. -/
theorem settle_one (live : Nat → Bool) (m i : Nat) (b : Blk) : ∀ (l : List (Nat × Blk)) (k : Nat) (s : List Blk), k ≤ m → (∀ j, live j = true ↔ j = m) → l[m - k]? = some (i, b) → i < s.length → (settle live k l s).getD i zblk = b
  | [], k, s, _, _, h, _ => by simp at h
  | (a, c) :: l, k, s, hk, hl, h, hi => by
    rw [settle]
    by_cases e : k = m
    · subst e
      rw [Nat.sub_self] at h
      cases h
      rw [if_pos ((hl k).2 rfl), settle_none live l (k + 1) _ (fun j hj => by rw [← Bool.not_eq_true]; intro h; have := (hl j).1 h; omega)]
      rw [List.getD_eq_getElem?_getD, List.getElem?_set_self hi]; rfl
    · rw [if_neg (by intro h; exact e ((hl k).1 h))]
      refine settle_one live m i b l (k + 1) s (by omega) hl ?_ hi
      rw [show m - k = (m - (k + 1)) + 1 from by omega] at h
      simpa using h
/-- Which writes of the first m tell what a sector holds behind a crash. -/
def told (d : PD) (live : Nat → Bool) (i m : Nat) : Prop := (d.crash live).holds i = (d.crash fun _ => false).holds i ∨ ∃ j, j < m ∧ ∃ b, d.pend[j]? = some (i, b) ∧ (d.crash live).holds i = b
theorem told_all {d : PD} (h : d.ok) (live : Nat → Bool) (i : Nat) : told d live i d.pend.length := by
  unfold told
  rw [crash_hold, crash_hold, settle_none (fun _ => false) _ _ _ (fun _ _ => rfl)]
  rcases settle_from live i d.pend 0 d.safe (fun p hp => (h.pnd p hp).1) with h1 | ⟨j, b, h1, _, h3⟩
  · exact .inl h1
  · exact .inr ⟨j, (List.getElem?_eq_some_iff.1 h1).1, b, h1, h3⟩
theorem told_zero {d : PD} {live : Nat → Bool} {i : Nat} : told d live i 0 ↔ (d.crash live).holds i = (d.crash fun _ => false).holds i := ⟨fun h => h.elim id (fun ⟨j, hj, _⟩ => by omega), .inl⟩
theorem one_live (m j : Nat) : kept (List.replicate m false ++ [true]) j = true ↔ j = m := by
  unfold kept
  rw [List.getD_eq_getElem?_getD]
  by_cases h : j < m
  · rw [List.getElem?_append_left (by simpa using h)]; simp [h]; omega
  · rw [List.getElem?_append_right (by simpa using h)]
    by_cases e : j = m
    · subst e; simp
    · rw [show j - (List.replicate m false).length = (j - m - 1) + 1 from by simp; omega]; simp [e]
theorem told_succ {d : PD} (h : d.ok) {live : Nat → Bool} {i m a : Nat} {b : Blk} (hp : d.pend[m]? = some (a, b)) : told d live i (m + 1) ↔ told d live i m ∨ (a = i ∧ (d.crash live).holds i = (d.crash (kept (List.replicate m false ++ [true]))).holds i) := by
  have hone : a = i → (d.crash (kept (List.replicate m false ++ [true]))).holds i = b := fun e => by
    subst e
    rw [crash_hold]
    exact settle_one _ m a b d.pend 0 d.safe (Nat.zero_le _) (fun j => one_live m j) (by simpa using hp) (h.pnd _ (List.mem_of_getElem? hp)).1
  constructor
  · rintro (h1 | ⟨j, hj, c, h2, h3⟩)
    · exact .inl (.inl h1)
    · by_cases e : j = m
      · subst e
        rw [hp] at h2; cases h2
        exact .inr ⟨rfl, by rw [hone rfl, h3]⟩
      · exact .inl (.inr ⟨j, by omega, c, h2, h3⟩)
  · rintro ((h1 | ⟨j, hj, c, h2, h3⟩) | ⟨rfl, h2⟩)
    · exact .inl h1
    · exact .inr ⟨j, by omega, c, h2, h3⟩
    · exact .inr ⟨m, by omega, b, hp, by rw [h2, hone rfl]⟩
theorem crash_all {d : PD} (h : d.fine) (live : Nat → Bool) (hl : ∀ j, j < d.pend.length → live j = true) (i : Nat) : (d.crash live).holds i = d.holds i := by
  have hp : ∀ p ∈ d.pend, p.1 < d.safe.length := fun p hp => (h.ok.pnd p hp).1
  show (lastAt i []).getD ((settle live 0 d.pend d.safe).getD i zblk) = (lastAt i d.pend).getD (d.safe.getD i zblk)
  rw [settle_get d.pend 0 d.safe (fun j _ hj => hl j (by omega)) hp]; rfl
theorem crash_fine {d : PD} (h : d.fine) (live : Nat → Bool) : (d.crash live).fine := ⟨PD.ok_crash h.ok live, rfl, rfl, rfl, by show (settle live 0 d.pend d.safe).length = 6; rw [settle_len]; exact h.six⟩
theorem sync_fine {d : PD} (h : d.fine) : d.sync.1 = 0 ∧ d.sync.2.fine ∧ d.sync.2.ops = d.ops + 1 ∧ d.sync.2.pend = [] ∧ ∀ i, d.sync.2.holds i = d.holds i := by
  rw [PD.fine_sync h]
  have hp : ∀ p ∈ d.pend, p.1 < d.safe.length := fun p hp => (h.ok.pnd p hp).1
  refine ⟨rfl, ⟨PD.ok_live (PD.fine_done h 1).ok _, h.dead, h.armed, h.fails, by show (settle _ 0 d.pend d.safe).length = 6; rw [settle_len]; exact h.six⟩, rfl, rfl, fun i => ?_⟩
  show (lastAt i []).getD ((settle (fun _ => true) 0 d.pend d.safe).getD i zblk) = (lastAt i d.pend).getD (d.safe.getD i zblk)
  rw [settle_get d.pend 0 d.safe (fun j _ hj => rfl) hp]; rfl

end Go.Proofs.Ythjlmkmijehnjaa
