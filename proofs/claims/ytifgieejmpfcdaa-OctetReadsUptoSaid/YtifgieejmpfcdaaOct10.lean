/- Layer 1's reference: (heliographref01.Reader).Do. No condition beyond sizes. -/
import Derived.Test.YtifgieejmpfcdaaOct8
import Derived.Test.YtifgieejmpfcdaaG
import Derived.StillTailTactics
namespace Go.Proofs.Ytifgieejmpfcdaa
open Go.RowKit K L
set_option linter.unusedVariables false
set_option linter.unusedSimpArgs false

/-- How many bytes a call takes. -/
def askN (k : Int) (N : Int) : Int := if k = 0 then 1 else if k = 1 then 2 else if k = 2 then 4 else if k = 3 then 8 else N

theorem Rs.take_err (xs : List UInt8) (pos : Nat) (err n : Int) (h : err ≠ 0) : Rs.take ⟨xs, pos, err⟩ n = (⟨xs, pos, err⟩, []) := by unfold Rs.take; rw [if_pos h]
theorem Rs.take_neg (xs : List UInt8) (pos : Nat) (n : Int) (h : n < 0) : Rs.take ⟨xs, pos, 0⟩ n = (⟨xs, pos, 2⟩, []) := by unfold Rs.take; rw [if_neg (by simp), if_pos h]
theorem Rs.take_short (xs : List UInt8) (pos : Nat) (n : Int) (h0 : ¬ n < 0) (h : (xs.length : Int) - pos < n) : Rs.take ⟨xs, pos, 0⟩ n = (⟨xs, pos, 7⟩, []) := by unfold Rs.take; rw [if_neg (by simp), if_neg h0, if_pos h]

/-- What Do hands back. -/
def DoPost (w : World) (F : Nat → Prop) (v : Value) (r : Rs) (taken : List UInt8) (k : Int) (e : Ending) (w' : World) : Prop :=
  ∃ vb, e = .returned (.tuple #[.agg #[v, .int .i64 (r.pos : Nat), .int .i64 r.err], .agg #[.int .u64 (if k < 4 then num taken else 0 : Nat), vb]]) ∧ Bs w' F vb (if k < 4 then [] else taken) ∧ Below w.heap.size w w'

set_option maxHeartbeats 2000000 in
theorem do_err (v : Value) (xs : List UInt8) (at_ : Nat) (err k N : Int) (w : World) (F : Nat → Prop) (h : Bs w F v xs) (hne : (err != 0) = true) (hk : k = 0 ∨ k = 1 ∨ k = 2 ∨ k = 3 ∨ k = 4) :
    Calls Try.prog 15 #[.agg #[v, .int .i64 (at_ : Nat), .int .i64 err], .agg #[.int .i64 k, .int .i64 N]] w (DoPost w F v ⟨xs, at_, err⟩ [] k) := by
  obtain ⟨A, c, rfl, -, -, -, -⟩ := h.open_
  rcases hk with rfl | rfl | rfl | rfl | rfl
  all_goals
    go_enter Try.func15, Try.ntmps15
    go_wp2
    exact bodyPost_ret (v := .tuple #[.agg #[.slice A xs.length c, .int .i64 (at_ : Nat), .int .i64 err], .agg #[.int .u64 0, (.slice none 0 0)]]) (by simp [results, Try.results15, go_sem]) rfl ⟨(.slice none 0 0), rfl, Sl.nil _ _ _, (by repeat' (first | exact Below.refl _ _ | assumption | with_reducible refine below_dn ?_ _ | with_reducible refine below_al ?_ _ | with_reducible refine Below.drew ?_ | (with_reducible refine below_sc ?_ ?_ _) | (simp; done) | (simp; omega)))⟩

set_option maxHeartbeats 2000000 in
theorem do_neg (v : Value) (xs : List UInt8) (at_ : Nat) (N : Int) (w : World) (F : Nat → Prop) (h : Bs w F v xs) (hn : N < 0) :
    Calls Try.prog 15 #[.agg #[v, .int .i64 (at_ : Nat), .int .i64 0], .agg #[.int .i64 4, .int .i64 N]] w (DoPost w F v ⟨xs, at_, 2⟩ [] 4) := by
  obtain ⟨A, c, rfl, -, -, -, -⟩ := h.open_
  go_enter Try.func15, Try.ntmps15
  go_wp2
  exact bodyPost_ret (v := .tuple #[.agg #[.slice A xs.length c, .int .i64 (at_ : Nat), .int .i64 2], .agg #[.int .u64 0, (.slice none 0 0)]]) (by simp [results, Try.results15, go_sem]) rfl ⟨(.slice none 0 0), rfl, Sl.nil _ _ _, (by repeat' (first | exact Below.refl _ _ | assumption | with_reducible refine below_dn ?_ _ | with_reducible refine below_al ?_ _ | with_reducible refine Below.drew ?_ | (with_reducible refine below_sc ?_ ?_ _) | (simp; done) | (simp; omega)))⟩

set_option maxHeartbeats 2000000 in
theorem do_short (v : Value) (xs : List UInt8) (at_ : Nat) (k N : Int) (w : World) (F : Nat → Prop) (h : Bs w F v xs) (hk : k = 0 ∨ k = 1 ∨ k = 2 ∨ k = 3 ∨ k = 4) (hp : at_ ≤ xs.length) (h0 : 0 ≤ askN k N) (hs : (xs.length : Int) - at_ < askN k N) (hN : N ≤ 9223372036854775807) :
    Calls Try.prog 15 #[.agg #[v, .int .i64 (at_ : Nat), .int .i64 0], .agg #[.int .i64 k, .int .i64 N]] w (DoPost w F v ⟨xs, at_, 7⟩ [] k) := by
  have hml := h.len
  obtain ⟨A, c, rfl, -, -, -, -⟩ := h.open_
  unfold maxLen at hml
  rcases hk with rfl | rfl | rfl | rfl | rfl
  all_goals
    simp [askN] at h0 hs
    go_enter Try.func15, Try.ntmps15
    go_wp2
    exact bodyPost_ret (v := .tuple #[.agg #[.slice A xs.length c, .int .i64 (at_ : Nat), .int .i64 7], .agg #[.int .u64 0, (.slice none 0 0)]]) (by simp [results, Try.results15, go_sem]) rfl ⟨(.slice none 0 0), rfl, Sl.nil _ _ _, (by repeat' (first | exact Below.refl _ _ | assumption | with_reducible refine below_dn ?_ _ | with_reducible refine below_al ?_ _ | with_reducible refine Below.drew ?_ | (with_reducible refine below_sc ?_ ?_ _) | (simp; done) | (simp; omega)))⟩

set_option maxHeartbeats 2000000 in
theorem do_raw (v : Value) (xs : List UInt8) (at_ N : Nat) (w : World) (F : Nat → Prop) (h : Bs w F v xs) (hp : at_ + N ≤ xs.length) :
    Calls Try.prog 15 #[.agg #[v, .int .i64 (at_ : Nat), .int .i64 0], .agg #[.int .i64 4, .int .i64 N]] w (DoPost w F v ⟨xs, at_ + N, 0⟩ ((xs.drop at_).take N) 4) := by
  have hml := h.len
  have hb := h
  obtain ⟨A, c, rfl, l1, l2, -, -⟩ := h.open_
  unfold maxLen at hml l2
  have q4 := hb.sub at_ N hp
  by_cases hcc : c = at_
  · subst hcc
    obtain rfl : N = 0 := by omega
    rw [if_pos rfl, Nat.sub_self] at q4
    go_enter Try.func15, Try.ntmps15
    go_wp2
    exact bodyPost_ret (v := .tuple #[.agg #[.slice A xs.length c, .int .i64 ((c + 0 : Nat) : Int), .int .i64 0], .agg #[.int .u64 0, (.slice A 0 0)]]) (by simp [results, Try.results15, go_sem]) rfl ⟨_, rfl, Bs.below q4 (by repeat' (first | exact Below.refl _ _ | assumption | with_reducible refine below_dn ?_ _ | with_reducible refine below_al ?_ _ | with_reducible refine Below.drew ?_ | (with_reducible refine below_sc ?_ ?_ _) | (simp; done) | (simp; omega))), (by repeat' (first | exact Below.refl _ _ | assumption | with_reducible refine below_dn ?_ _ | with_reducible refine below_al ?_ _ | with_reducible refine Below.drew ?_ | (with_reducible refine below_sc ?_ ?_ _) | (simp; done) | (simp; omega)))⟩
  · rw [if_neg hcc] at q4
    go_enter Try.func15, Try.ntmps15
    go_wp2
    exact bodyPost_ret (v := .tuple #[.agg #[.slice A xs.length c, .int .i64 ((at_ + N : Nat) : Int), .int .i64 0], .agg #[.int .u64 0, (.slice (A.map (fun x => x.add at_)) (at_ + N - at_) (c - at_))]]) (by simp [results, Try.results15, go_sem]) rfl ⟨_, rfl, (by rw [Nat.add_sub_cancel_left]; exact Bs.below q4 (by repeat' (first | exact Below.refl _ _ | assumption | with_reducible refine below_dn ?_ _ | with_reducible refine below_al ?_ _ | with_reducible refine Below.drew ?_ | (with_reducible refine below_sc ?_ ?_ _) | (simp; done) | (simp; omega)))), (by repeat' (first | exact Below.refl _ _ | assumption | with_reducible refine below_dn ?_ _ | with_reducible refine below_al ?_ _ | with_reducible refine Below.drew ?_ | (with_reducible refine below_sc ?_ ?_ _) | (simp; done) | (simp; omega)))⟩

end Go.Proofs.Ytifgieejmpfcdaa
