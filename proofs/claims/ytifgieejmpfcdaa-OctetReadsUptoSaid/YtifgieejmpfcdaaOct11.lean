/- Layer 1's reference: (heliographref01.Reader).Do where a number is read; all of Do together. No condition beyond sizes. -/
import Derived.Test.YtifgieejmpfcdaaOct10
import Derived.Deep.RegionWith
namespace Go.Proofs.Ytifgieejmpfcdaa
open Go.RowKit K L
set_option linter.unusedVariables false
set_option linter.unusedSimpArgs false

set_option maxHeartbeats 2000000 in
set_option maxRecDepth 100000 in
theorem do_num (v : Value) (xs : List UInt8) (at_ n : Nat) (k N : Int) (w : World) (F : Nat → Prop) (h : Bs w F v xs) (hk : k = 0 ∨ k = 1 ∨ k = 2 ∨ k = 3) (hn : askN k N = n) (hp : at_ + n ≤ xs.length) :
    Calls Try.prog 15 #[.agg #[v, .int .i64 (at_ : Nat), .int .i64 0], .agg #[.int .i64 k, .int .i64 N]] w (DoPost w F v ⟨xs, at_ + n, 0⟩ ((xs.drop at_).take n) k) := by
  have hml := h.len
  have hb := h
  obtain ⟨A, c, rfl, l1, l2, -, -⟩ := h.open_
  unfold maxLen at hml l2
  have hn8 : 1 ≤ n ∧ n ≤ 8 := by rcases hk with rfl | rfl | rfl | rfl <;> simp [askN] at hn <;> omega
  have q4 := hb.sub at_ n hp
  have hcc : ¬ c = at_ := by omega
  rw [if_neg hcc] at q4
  have hlen : ((xs.drop at_).take n).length ≤ 8 := by simp; omega
  rcases hk with rfl | rfl | rfl | rfl
  · simp [askN] at hn
    obtain rfl : n = 1 := by omega
    clear hn hn8
    go_enter Try.func15, Try.ntmps15
    go_wp2
    clear hml hcc
    have Q4 := Lib.hid q4
    have HL := Lib.hid hlen
    clear q4 hlen h hb l1 l2
    go_region_with (go_at_call 29; refine (refnum_any _ _ _ F (Bs.below Q4.out (by repeat' (first | exact Below.refl _ _ | assumption | with_reducible refine below_dn ?_ _ | with_reducible refine below_al ?_ _ | with_reducible refine Below.drew ?_ | (with_reducible refine below_sc ?_ ?_ _) | (simp; done) | (simp; omega)))) HL.out).mono ?_; rintro e w5 ⟨rfl, rfl⟩)
    all_goals
      go_wp2
      exact bodyPost_ret (v := .tuple #[.agg #[.slice A xs.length c, .int .i64 ((at_ + 1 : Nat) : Int), .int .i64 0], .agg #[.int .u64 (num ((xs.drop at_).take 1) : Nat), .slice none 0 0]]) (by simp [results, Try.results15, go_sem]) rfl ⟨_, rfl, Sl.nil _ _ _, (by repeat' (first | exact Below.refl _ _ | assumption | with_reducible refine below_dn ?_ _ | with_reducible refine below_al ?_ _ | with_reducible refine Below.drew ?_ | (with_reducible refine below_sc ?_ ?_ _) | (simp; done) | (simp; omega)))⟩
  · simp [askN] at hn
    obtain rfl : n = 2 := by omega
    clear hn hn8
    go_enter Try.func15, Try.ntmps15
    go_wp2
    clear hml hcc
    have Q4 := Lib.hid q4
    have HL := Lib.hid hlen
    clear q4 hlen h hb l1 l2
    go_region_with (go_at_call 29; refine (refnum_any _ _ _ F (Bs.below Q4.out (by repeat' (first | exact Below.refl _ _ | assumption | with_reducible refine below_dn ?_ _ | with_reducible refine below_al ?_ _ | with_reducible refine Below.drew ?_ | (with_reducible refine below_sc ?_ ?_ _) | (simp; done) | (simp; omega)))) HL.out).mono ?_; rintro e w5 ⟨rfl, rfl⟩)
    all_goals
      go_wp2
      exact bodyPost_ret (v := .tuple #[.agg #[.slice A xs.length c, .int .i64 ((at_ + 2 : Nat) : Int), .int .i64 0], .agg #[.int .u64 (num ((xs.drop at_).take 2) : Nat), .slice none 0 0]]) (by simp [results, Try.results15, go_sem]) rfl ⟨_, rfl, Sl.nil _ _ _, (by repeat' (first | exact Below.refl _ _ | assumption | with_reducible refine below_dn ?_ _ | with_reducible refine below_al ?_ _ | with_reducible refine Below.drew ?_ | (with_reducible refine below_sc ?_ ?_ _) | (simp; done) | (simp; omega)))⟩
  · simp [askN] at hn
    obtain rfl : n = 4 := by omega
    clear hn hn8
    go_enter Try.func15, Try.ntmps15
    go_wp2
    clear hml hcc
    have Q4 := Lib.hid q4
    have HL := Lib.hid hlen
    clear q4 hlen h hb l1 l2
    go_region_with (go_at_call 29; refine (refnum_any _ _ _ F (Bs.below Q4.out (by repeat' (first | exact Below.refl _ _ | assumption | with_reducible refine below_dn ?_ _ | with_reducible refine below_al ?_ _ | with_reducible refine Below.drew ?_ | (with_reducible refine below_sc ?_ ?_ _) | (simp; done) | (simp; omega)))) HL.out).mono ?_; rintro e w5 ⟨rfl, rfl⟩)
    all_goals
      go_wp2
      exact bodyPost_ret (v := .tuple #[.agg #[.slice A xs.length c, .int .i64 ((at_ + 4 : Nat) : Int), .int .i64 0], .agg #[.int .u64 (num ((xs.drop at_).take 4) : Nat), .slice none 0 0]]) (by simp [results, Try.results15, go_sem]) rfl ⟨_, rfl, Sl.nil _ _ _, (by repeat' (first | exact Below.refl _ _ | assumption | with_reducible refine below_dn ?_ _ | with_reducible refine below_al ?_ _ | with_reducible refine Below.drew ?_ | (with_reducible refine below_sc ?_ ?_ _) | (simp; done) | (simp; omega)))⟩
  · simp [askN] at hn
    obtain rfl : n = 8 := by omega
    clear hn hn8
    go_enter Try.func15, Try.ntmps15
    go_wp2
    clear hml hcc
    have Q4 := Lib.hid q4
    have HL := Lib.hid hlen
    clear q4 hlen h hb l1 l2
    go_region_with (go_at_call 29; refine (refnum_any _ _ _ F (Bs.below Q4.out (by repeat' (first | exact Below.refl _ _ | assumption | with_reducible refine below_dn ?_ _ | with_reducible refine below_al ?_ _ | with_reducible refine Below.drew ?_ | (with_reducible refine below_sc ?_ ?_ _) | (simp; done) | (simp; omega)))) HL.out).mono ?_; rintro e w5 ⟨rfl, rfl⟩)
    all_goals
      go_wp2
      exact bodyPost_ret (v := .tuple #[.agg #[.slice A xs.length c, .int .i64 ((at_ + 8 : Nat) : Int), .int .i64 0], .agg #[.int .u64 (num ((xs.drop at_).take 8) : Nat), .slice none 0 0]]) (by simp [results, Try.results15, go_sem]) rfl ⟨_, rfl, Sl.nil _ _ _, (by repeat' (first | exact Below.refl _ _ | assumption | with_reducible refine below_dn ?_ _ | with_reducible refine below_al ?_ _ | with_reducible refine Below.drew ?_ | (with_reducible refine below_sc ?_ ?_ _) | (simp; done) | (simp; omega)))⟩

/-- Do, whatever is asked. -/
theorem do_any (v : Value) (r : Rs) (k N : Int) (w : World) (F : Nat → Prop) (h : Bs w F v r.xs) (hp : r.pos ≤ r.xs.length) (hk : k = 0 ∨ k = 1 ∨ k = 2 ∨ k = 3 ∨ k = 4) (hN : -9223372036854775808 ≤ N ∧ N ≤ 9223372036854775807) :
    Calls Try.prog 15 #[.agg #[v, .int .i64 (r.pos : Nat), .int .i64 r.err], .agg #[.int .i64 k, .int .i64 N]] w (DoPost w F v (r.take (askN k N)).1 (r.take (askN k N)).2 k) := by
  obtain ⟨xs, at_, err⟩ := r
  dsimp only at h hp ⊢
  by_cases he : err = 0
  · subst he
    by_cases hn : askN k N < 0
    · rw [Rs.take_neg _ _ _ hn]
      have h4 : k = 4 := by
        rcases hk with rfl | rfl | rfl | rfl | rfl <;> first | rfl | (simp [askN] at hn)
      subst h4
      exact do_neg v xs at_ N w F h (by simpa [askN] using hn)
    · by_cases hs : (xs.length : Int) - at_ < askN k N
      · rw [Rs.take_short _ _ _ hn hs]
        exact do_short v xs at_ k N w F h hk hp (by omega) hs hN.2
      · obtain ⟨n, hq⟩ := Int.eq_ofNat_of_zero_le (Int.not_lt.1 hn)
        rw [hq, Rs.take_ok xs at_ n (by omega)]
        by_cases h4 : k = 4
        · subst h4
          have : N = n := by simpa [askN] using hq
          subst this
          exact do_raw v xs at_ n w F h (by omega)
        · exact do_num v xs at_ n k N w F h (by omega) hq (by omega)
  · rw [Rs.take_err _ _ _ _ he]
    exact do_err v xs at_ err k N w F h (by simpa using he) hk

end Go.Proofs.Ytifgieejmpfcdaa
