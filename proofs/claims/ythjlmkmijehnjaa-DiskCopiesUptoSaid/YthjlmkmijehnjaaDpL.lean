/- Layer 2's laws, plain: a disk that was worn holds what was written last. No condition. -/
import Derived.Test.YthjlmkmijehnjaaDl5
namespace Go.Proofs.Ythjlmkmijehnjaa
set_option linter.unusedVariables false
set_option linter.unusedSimpArgs false

/-- Alive, not armed, not failing, of six sectors. -/
structure PD.fine (d : PD) : Prop where
  ok : d.ok
  dead : d.dead = false
  armed : d.armed = false
  fails : d.fails = 0
  six : d.safe.length = 6
theorem PD.fine_new : (PD.new 6).fine := ⟨PD.ok_new 6 (by decide) (by decide), rfl, rfl, rfl, rfl⟩
theorem PD.fine_ready {d : PD} (h : d.fine) {i : Int} (hi : 0 ≤ i ∧ i < 6) : d.ready i = (0, d) := PD.ready_4 h.dead (by have := h.six; omega) (by have := h.fails; omega) (by have := h.fails; omega)
theorem PD.fine_out {d : PD} (h : d.fine) {i : Int} (hi : ¬ (0 ≤ i ∧ i < 6)) : d.ready i = (2, d) := PD.ready_1 h.dead (by have := h.six; omega)
theorem PD.fine_tick {d : PD} (h : d.fine) : d.tick = (0, d.done 1) := by unfold PD.tick; rw [if_neg (by rw [h.armed]; decide)]; rfl
theorem PD.fine_done {d : PD} (h : d.fine) (k : Nat) : (d.done k).fine := ⟨⟨h.ok.some, h.ok.few, h.ok.blk, h.ok.pnd, by have := h.ok.num; unfold PD.done; dsimp only; omega, h.ok.lo, h.ok.hi, h.ok.arm, h.ok.f0, h.ok.f1⟩, h.dead, h.armed, h.fails, h.six⟩

theorem settle_get {live : Nat → Bool} {i : Nat} : ∀ (l : List (Nat × Blk)) (k : Nat) (s : List Blk), (∀ j, k ≤ j → j < k + l.length → live j = true) → (∀ p ∈ l, p.1 < s.length) → (settle live k l s).getD i zblk = (lastAt i l).getD (s.getD i zblk)
  | [], k, s, _, _ => rfl
  | (a, b) :: l, k, s, hl, hp => by
    rw [settle, settle_get l (k + 1) _ (fun j h1 h2 => hl j (by omega) (by simp only [List.length_cons]; omega)), hl k (Nat.le_refl _) (by simp only [List.length_cons]; omega), lastAt]
    · cases hq : lastAt i l with
      | some c => rfl
      | none =>
        have ha := hp (a, b) (List.mem_cons_self ..)
        dsimp only at ha
        simp only [if_true, Option.getD_none]
        by_cases h : a = i
        · subst h; rw [if_pos rfl, Option.getD_some, List.getD_eq_getElem?_getD, List.getElem?_set_self ha]; rfl
        · rw [if_neg h, Option.getD_none, List.getD_eq_getElem?_getD, List.getElem?_set_ne h, ← List.getD_eq_getElem?_getD]
    · intro p hp'
      split
      · rw [List.length_set]; exact hp p (List.mem_cons_of_mem _ hp')
      · exact hp p (List.mem_cons_of_mem _ hp')
/-- Synced, or crashed with all kept, each sector holds what it held. -/
theorem PD.live_holds {d : PD} (h : d.ok) {live : Nat → Bool} (hl : ∀ j, j < d.pend.length → live j = true) (i : Nat) : (d.live live).holds i = d.holds i := by
  show ((none : Option Blk)).getD ((settle live 0 d.pend d.safe).getD i zblk) = _
  rw [Option.getD_none, settle_get d.pend 0 d.safe (fun j _ hj => hl j (by omega)) (fun p hp => (h.pnd p hp).1)]
  rfl
theorem PD.put_holds (d : PD) (a i : Nat) (b : Blk) : (d.put a b).holds i = if a = i then b else d.holds i := by
  unfold PD.holds PD.put
  dsimp only
  rw [lastAt_snoc]
  split <;> rfl

theorem PD.fine_read {d : PD} (h : d.fine) (i : Int) : d.read i = if 0 ≤ i ∧ i < 6 then (0, d.holds i.toNat, d.done 1) else (2, zblk, d) := by
  unfold PD.read
  by_cases hi : 0 ≤ i ∧ i < 6
  · rw [PD.fine_ready h hi, if_pos hi]; rfl
  · rw [PD.fine_out h hi, if_neg hi]; rfl
theorem PD.fine_write {d : PD} (h : d.fine) (i : Int) (b : Blk) : d.write i b = if 0 ≤ i ∧ i < 6 then (0, (d.done 1).put i.toNat b) else (2, d) := by
  unfold PD.write
  by_cases hi : 0 ≤ i ∧ i < 6
  · rw [PD.fine_ready h hi, if_pos hi]; dsimp only; rw [if_pos rfl, PD.fine_tick h]; rfl
  · rw [PD.fine_out h hi, if_neg hi]; rfl
theorem PD.fine_sync {d : PD} (h : d.fine) : d.sync = (0, (d.done 1).live fun _ => true) := by
  unfold PD.sync
  rw [PD.fine_ready h (by decide)]; dsimp only; rw [if_pos rfl, PD.fine_tick h]; rfl
theorem PD.fine_put {d : PD} (h : d.fine) (i : Nat) (b : Blk) (hi : i < 6) (hb : b.length = 64) : ((d.done 1).put i b).fine :=
  ⟨PD.ok_put (PD.fine_done h 1).ok i b (by rw [(PD.fine_done h 1).six]; exact hi) hb (by have := h.ok.num; unfold PD.done; dsimp only; omega), h.dead, h.armed, h.fails, h.six⟩
theorem PD.fine_live {d : PD} (h : d.fine) (live : Nat → Bool) : (d.live live).fine := ⟨PD.ok_live h.ok live, h.dead, h.armed, h.fails, by simp only [PD.live, settle_len]; exact h.six⟩

/-- What is done to a worn disk: reads, writes and syncs alone. -/
def wstep (d : PD) (o : DOp) : PD := if opk o.kind < 3 then (d.does o).2.2 else d
def worn (os : List DOp) : PD := os.foldl wstep (PD.new 6)
/-- What was written last. -/
def lstep (l : List Blk) (o : DOp) : List Blk := if opk o.kind = 1 ∧ 0 ≤ o.at_ ∧ o.at_ < 6 then l.set o.at_.toNat (pat o.fill) else l
def lasts (os : List DOp) : List Blk := os.foldl lstep (List.replicate 6 zblk)

theorem wstep_cases {d : PD} (h : d.fine) (o : DOp) :
    (opk o.kind = 0 ∧ 0 ≤ o.at_ ∧ o.at_ < 6 ∧ wstep d o = d.done 1) ∨ (opk o.kind = 1 ∧ 0 ≤ o.at_ ∧ o.at_ < 6 ∧ wstep d o = (d.done 1).put o.at_.toNat (pat o.fill)) ∨ (opk o.kind = 2 ∧ wstep d o = (d.done 1).live fun _ => true) ∨ (¬ (opk o.kind = 1 ∧ 0 ≤ o.at_ ∧ o.at_ < 6) ∧ wstep d o = d) := by
  unfold wstep PD.does
  rcases opk_cases o.kind with hk | hk | hk | hk | hk | hk
  · by_cases hi : 0 ≤ o.at_ ∧ o.at_ < 6
    · exact .inl ⟨hk, hi.1, hi.2, by simp [hk, PD.fine_read h, hi]⟩
    · exact .inr (.inr (.inr ⟨by omega, by simp [hk, PD.fine_read h, hi]⟩))
  · by_cases hi : 0 ≤ o.at_ ∧ o.at_ < 6
    · exact .inr (.inl ⟨hk, hi.1, hi.2, by simp [hk, PD.fine_write h, hi]⟩)
    · exact .inr (.inr (.inr ⟨by omega, by simp [hk, PD.fine_write h, hi]⟩))
  · exact .inr (.inr (.inl ⟨hk, by simp [hk, PD.fine_sync h]⟩))
  all_goals exact .inr (.inr (.inr ⟨by omega, by simp [hk]⟩))
theorem wstep_fine {d : PD} (h : d.fine) (o : DOp) : (wstep d o).fine ∧ (wstep d o).ops ≤ d.ops + 1 := by
  rcases wstep_cases h o with ⟨_, _, _, e⟩ | ⟨_, h1, h2, e⟩ | ⟨_, e⟩ | ⟨_, e⟩ <;> rw [e]
  · exact ⟨PD.fine_done h 1, Nat.le_refl _⟩
  · exact ⟨PD.fine_put h _ _ (by omega) (pat_len _), Nat.le_refl _⟩
  · exact ⟨PD.fine_live (PD.fine_done h 1) _, Nat.le_refl _⟩
  · exact ⟨h, Nat.le_succ _⟩
theorem worn_snoc (os : List DOp) (o : DOp) : worn (os ++ [o]) = wstep (worn os) o := by unfold worn; rw [List.foldl_append]; rfl
theorem lasts_snoc (os : List DOp) (o : DOp) : lasts (os ++ [o]) = lstep (lasts os) o := by unfold lasts; rw [List.foldl_append]; rfl
theorem snoc_ind {α : Type} {P : List α → Prop} (h0 : P []) (h1 : ∀ l a, P l → P (l ++ [a])) (l : List α) : P l := by
  have : ∀ (n : Nat) (l : List α), l.length = n → P l := fun n => by
    induction n with
    | zero => intro l hl; rw [List.eq_nil_of_length_eq_zero hl]; exact h0
    | succ n ih =>
      intro l hl
      have hne : l ≠ [] := by intro e; rw [e] at hl; cases hl
      rw [← List.dropLast_concat_getLast hne]
      exact h1 _ _ (ih _ (by rw [List.length_dropLast, hl]; rfl))
  exact this _ l rfl
theorem worn_fine (os : List DOp) : (worn os).fine ∧ (worn os).ops ≤ os.length := by
  induction os using snoc_ind with
  | h0 => exact ⟨PD.fine_new, Nat.le_refl _⟩
  | h1 os o ih =>
    rw [worn_snoc, List.length_append, List.length_singleton]
    have := wstep_fine ih.1 o
    exact ⟨this.1, Nat.le_trans this.2 (Nat.succ_le_succ ih.2)⟩
theorem lasts_len (os : List DOp) : (lasts os).length = 6 := by
  induction os using snoc_ind with
  | h0 => rfl
  | h1 os o ih => rw [lasts_snoc, lstep]; split <;> simp [ih]
theorem lasts_blk (os : List DOp) : ∀ x ∈ lasts os, x.length = 64 := by
  induction os using snoc_ind with
  | h0 => intro x hx; rw [List.eq_of_mem_replicate hx]; rfl
  | h1 os o ih =>
    rw [lasts_snoc, lstep]
    split
    · intro x hx
      rcases List.mem_or_eq_of_mem_set hx with h | h
      · exact ih x h
      · rw [h]; exact pat_len _
    · exact ih
theorem worn_last (os : List DOp) (i : Nat) : (worn os).holds i = (lasts os).getD i zblk := by
  induction os using snoc_ind with
  | h0 =>
    show ((none : Option Blk)).getD _ = _
    rfl
  | h1 os o ih =>
    have hf := (worn_fine os).1
    have hl := lasts_len os
    rw [worn_snoc, lasts_snoc]
    rcases wstep_cases hf o with ⟨hk, _, _, e⟩ | ⟨hk, h1, h2, e⟩ | ⟨hk, e⟩ | ⟨hk, e⟩ <;> rw [e]
    · rw [lstep, if_neg (by omega)]; exact ih
    · rw [lstep, if_pos ⟨hk, h1, h2⟩, PD.put_holds]
      split
      · rename_i he; subst he; rw [List.getD_eq_getElem?_getD, List.getElem?_set_self (by omega)]; rfl
      · rename_i he; rw [List.getD_eq_getElem?_getD, List.getElem?_set_ne he, ← List.getD_eq_getElem?_getD]; exact ih
    · rw [lstep, if_neg (by omega), PD.live_holds (PD.fine_done hf 1).ok (fun _ _ => rfl)]; exact ih
    · rw [lstep, if_neg hk]; exact ih
theorem worn_helds (os : List DOp) : (worn os).helds 6 = lasts os := by
  refine List.ext_getElem? fun i => ?_
  unfold PD.helds
  by_cases h : i < 6
  · rw [List.getElem?_map, List.getElem?_range h, Option.map_some, worn_last, List.getD_eq_getElem?_getD, List.getElem?_eq_getElem (by rw [lasts_len]; exact h)]; rfl
  · rw [List.getElem?_eq_none (by simp; omega), List.getElem?_eq_none (by rw [lasts_len]; omega)]

end Go.Proofs.Ythjlmkmijehnjaa
