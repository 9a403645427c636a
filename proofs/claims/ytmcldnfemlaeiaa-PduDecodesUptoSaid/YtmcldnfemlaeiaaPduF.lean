/- Layer 11's reference: Fields, has. No condition beyond sizes. -/
import Derived.Test.YtmcldnfemlaeiaaPduK
namespace Go.Proofs.Ytmcldnfemlaeiaa
open Go.RowKit K L
set_option linter.unusedVariables false
set_option linter.unusedSimpArgs false

theorem str_ne2 {s : List UInt8} (h : s.length ≠ 0) : ((⟨s.toArray⟩ : ByteArray) == (⟨#[]⟩ : ByteArray)) = false := by
  have : (s.toArray == #[]) = false := by
    rw [beq_eq_false_iff_ne]; intro e; apply h; have := congrArg Array.size e; simpa using this
  exact this

/-- Which fields count, as letters. -/
def fstr (k : Int) : List UInt8 := if k = 1 then [110, 115] else if k = 2 then [111, 98] else if k = 3 then [115, 117] else if k = 4 then [99] else if k = 5 then [110, 98] else if k = 6 then [110] else if k = 7 then [98] else if k = 8 then [99, 98] else []

set_option maxHeartbeats 1000000 in
theorem rfields_0 (k : Int) (h : k < 1 ∨ 8 < k) (w : World) : Calls Try.prog 24 #[.int .i64 k] w fun e w' => e = .returned (.string ⟨#[]⟩) ∧ Below w.heap.size w w' := by
  by_cases h1 : k < 1
  · go_enter Try.func24, Try.ntmps24
    go_wp2
    go_ret
    exact ⟨rfl, (by repeat' (first | exact Below.refl _ _ | assumption | with_reducible refine below_dn ?_ _ | with_reducible refine below_al ?_ _ | with_reducible refine Below.drew ?_ | (with_reducible refine below_sc ?_ ?_ _) | (simp; done) | (simp; omega)))⟩
  · have h2 : 8 < k := by omega
    go_enter Try.func24, Try.ntmps24
    go_wp2
    go_ret
    exact ⟨rfl, (by repeat' (first | exact Below.refl _ _ | assumption | with_reducible refine below_dn ?_ _ | with_reducible refine below_al ?_ _ | with_reducible refine Below.drew ?_ | (with_reducible refine below_sc ?_ ?_ _) | (simp; done) | (simp; omega)))⟩

set_option maxHeartbeats 1000000 in
theorem rfields_1 (w : World) : Calls Try.prog 24 #[.int .i64 1] w fun e w' => e = .returned (.string ⟨#[110, 115]⟩) ∧ Below w.heap.size w w' := by
  go_enter Try.func24, Try.ntmps24
  go_wp2
  go_ret
  exact ⟨rfl, (by repeat' (first | exact Below.refl _ _ | assumption | with_reducible refine below_dn ?_ _ | with_reducible refine below_al ?_ _ | with_reducible refine Below.drew ?_ | (with_reducible refine below_sc ?_ ?_ _) | (simp; done) | (simp; omega)))⟩

set_option maxHeartbeats 1000000 in
theorem rfields_2 (w : World) : Calls Try.prog 24 #[.int .i64 2] w fun e w' => e = .returned (.string ⟨#[111, 98]⟩) ∧ Below w.heap.size w w' := by
  go_enter Try.func24, Try.ntmps24
  go_wp2
  go_ret
  exact ⟨rfl, (by repeat' (first | exact Below.refl _ _ | assumption | with_reducible refine below_dn ?_ _ | with_reducible refine below_al ?_ _ | with_reducible refine Below.drew ?_ | (with_reducible refine below_sc ?_ ?_ _) | (simp; done) | (simp; omega)))⟩

set_option maxHeartbeats 1000000 in
theorem rfields_3 (w : World) : Calls Try.prog 24 #[.int .i64 3] w fun e w' => e = .returned (.string ⟨#[115, 117]⟩) ∧ Below w.heap.size w w' := by
  go_enter Try.func24, Try.ntmps24
  go_wp2
  go_ret
  exact ⟨rfl, (by repeat' (first | exact Below.refl _ _ | assumption | with_reducible refine below_dn ?_ _ | with_reducible refine below_al ?_ _ | with_reducible refine Below.drew ?_ | (with_reducible refine below_sc ?_ ?_ _) | (simp; done) | (simp; omega)))⟩

set_option maxHeartbeats 1000000 in
theorem rfields_4 (w : World) : Calls Try.prog 24 #[.int .i64 4] w fun e w' => e = .returned (.string ⟨#[99]⟩) ∧ Below w.heap.size w w' := by
  go_enter Try.func24, Try.ntmps24
  go_wp2
  go_ret
  exact ⟨rfl, (by repeat' (first | exact Below.refl _ _ | assumption | with_reducible refine below_dn ?_ _ | with_reducible refine below_al ?_ _ | with_reducible refine Below.drew ?_ | (with_reducible refine below_sc ?_ ?_ _) | (simp; done) | (simp; omega)))⟩

set_option maxHeartbeats 1000000 in
theorem rfields_5 (w : World) : Calls Try.prog 24 #[.int .i64 5] w fun e w' => e = .returned (.string ⟨#[110, 98]⟩) ∧ Below w.heap.size w w' := by
  go_enter Try.func24, Try.ntmps24
  go_wp2
  go_ret
  exact ⟨rfl, (by repeat' (first | exact Below.refl _ _ | assumption | with_reducible refine below_dn ?_ _ | with_reducible refine below_al ?_ _ | with_reducible refine Below.drew ?_ | (with_reducible refine below_sc ?_ ?_ _) | (simp; done) | (simp; omega)))⟩

set_option maxHeartbeats 1000000 in
theorem rfields_6 (w : World) : Calls Try.prog 24 #[.int .i64 6] w fun e w' => e = .returned (.string ⟨#[110]⟩) ∧ Below w.heap.size w w' := by
  go_enter Try.func24, Try.ntmps24
  go_wp2
  go_ret
  exact ⟨rfl, (by repeat' (first | exact Below.refl _ _ | assumption | with_reducible refine below_dn ?_ _ | with_reducible refine below_al ?_ _ | with_reducible refine Below.drew ?_ | (with_reducible refine below_sc ?_ ?_ _) | (simp; done) | (simp; omega)))⟩

set_option maxHeartbeats 1000000 in
theorem rfields_7 (w : World) : Calls Try.prog 24 #[.int .i64 7] w fun e w' => e = .returned (.string ⟨#[98]⟩) ∧ Below w.heap.size w w' := by
  go_enter Try.func24, Try.ntmps24
  go_wp2
  go_ret
  exact ⟨rfl, (by repeat' (first | exact Below.refl _ _ | assumption | with_reducible refine below_dn ?_ _ | with_reducible refine below_al ?_ _ | with_reducible refine Below.drew ?_ | (with_reducible refine below_sc ?_ ?_ _) | (simp; done) | (simp; omega)))⟩

set_option maxHeartbeats 1000000 in
theorem rfields_8 (w : World) : Calls Try.prog 24 #[.int .i64 8] w fun e w' => e = .returned (.string ⟨#[99, 98]⟩) ∧ Below w.heap.size w w' := by
  go_enter Try.func24, Try.ntmps24
  go_wp2
  go_ret
  exact ⟨rfl, (by repeat' (first | exact Below.refl _ _ | assumption | with_reducible refine below_dn ?_ _ | with_reducible refine below_al ?_ _ | with_reducible refine Below.drew ?_ | (with_reducible refine below_sc ?_ ?_ _) | (simp; done) | (simp; omega)))⟩

set_option maxHeartbeats 1000000 in
theorem rhas_any (xs : List UInt8) (c : UInt8) (w : World) (hl : xs.length ≤ 1000) : Calls Try.prog 25 #[.string ⟨xs.toArray⟩, .int .u8 c.toNat] w fun e w' => e = .returned (.bool (decide (c ∈ xs))) ∧ w = w' := by
  go_enter Try.func25, Try.ntmps25
  go_wp2
  go_loop [5] (fun i => ∃ k : Nat, k ≤ xs.length ∧ i = .int .i64 k ∧ (xs.take k).contains c = false) (fun i => xs.length - (intOf i).toNat)
  case atStart => exact ⟨0, Nat.zero_le _, rfl, rfl⟩
  case round =>
    obtain ⟨k, hk, rfl, hno⟩ := hrel
    by_cases hlt : k < xs.length
    · have hs := take_snoc xs k hlt
      have hx : xs[k]? = some xs[k] := List.getElem?_eq_getElem hlt
      by_cases he : xs[k] = c
      · have hin : decide (c ∈ xs) = true := by rw [decide_eq_true_eq, ← he]; exact List.getElem_mem hlt
        have hq : (((xs[k]).toNat : Int) == (c.toNat : Int)) = true := by rw [he]; simp
        have he' : ((((⟨xs.toArray⟩ : ByteArray)[k]'(by simpa [ByteArray.size] using hlt)).toNat : Int) == (c.toNat : Int)) = true := hq
        have HI := Lib.hid hin
        clear hin hs hno he
        go_wp2
        go_ret
        exact ⟨ret_bool HI.out.symm, rfl⟩
      · have he' : (((xs[k]).toNat : Int) == (c.toNat : Int)) = false := by rw [beq_eq_false_iff_ne]; intro h; exact he (UInt8.toNat_inj.1 (by omega))
        have hno' : (xs.take (k + 1)).contains c = false := by
          rw [hs]
          simp only [List.contains_eq_mem, List.mem_append, List.mem_singleton, decide_eq_false_iff_not, not_or] at hno ⊢
          exact ⟨hno, fun h => he h.symm⟩
        have HN := Lib.hid hno'
        clear hno' hs hno he
        go_wp2
        all_goals first
          | exact ⟨⟨k + 1, by omega, by go_num, HN.out⟩, by simp only [intOf]; omega⟩
          | exact absurd (show (((xs[k]).toNat : Int) == (c.toNat : Int)) = true by assumption) (by rw [he']; decide)
    · rw [List.take_of_length_le (by omega)] at hno
      have HN : RowKit.Hid (decide (c ∈ xs) = false) := Lib.hid (by simpa using hno)
      clear hno
      go_wp2
      go_ret
      exact ⟨ret_bool HN.out.symm, rfl⟩

theorem rhas_1 (z : Int) (h0 : 0 ≤ z) (h1 : z < 256) (w : World) : Calls Try.prog 25 #[.string ⟨#[110, 115]⟩, .int .u8 z] w fun e w' => e = .returned (.bool (decide (z = 110) || decide (z = 115))) ∧ w = w' := by
  have h := rhas_any [110, 115] (UInt8.ofNat z.toNat) w (by decide)
  have e1 : (((UInt8.ofNat z.toNat).toNat : Nat) : Int) = z := by simp; omega
  rw [e1] at h
  rw [show (decide (z = 110) || decide (z = 115)) = decide (UInt8.ofNat z.toNat ∈ ([110, 115] : List UInt8)) from ?_]
  · exact h
  rw [Bool.eq_iff_iff]
  simp only [Bool.or_eq_true, decide_eq_true_eq, List.mem_cons, List.not_mem_nil, or_false, ← UInt8.toNat_inj]
  have e2 : (UInt8.ofNat z.toNat).toNat = z.toNat := by omega
  rw [e2]
  simp
  omega

theorem rhas_2 (z : Int) (h0 : 0 ≤ z) (h1 : z < 256) (w : World) : Calls Try.prog 25 #[.string ⟨#[111, 98]⟩, .int .u8 z] w fun e w' => e = .returned (.bool (decide (z = 111) || decide (z = 98))) ∧ w = w' := by
  have h := rhas_any [111, 98] (UInt8.ofNat z.toNat) w (by decide)
  have e1 : (((UInt8.ofNat z.toNat).toNat : Nat) : Int) = z := by simp; omega
  rw [e1] at h
  rw [show (decide (z = 111) || decide (z = 98)) = decide (UInt8.ofNat z.toNat ∈ ([111, 98] : List UInt8)) from ?_]
  · exact h
  rw [Bool.eq_iff_iff]
  simp only [Bool.or_eq_true, decide_eq_true_eq, List.mem_cons, List.not_mem_nil, or_false, ← UInt8.toNat_inj]
  have e2 : (UInt8.ofNat z.toNat).toNat = z.toNat := by omega
  rw [e2]
  simp
  omega

theorem rhas_3 (z : Int) (h0 : 0 ≤ z) (h1 : z < 256) (w : World) : Calls Try.prog 25 #[.string ⟨#[115, 117]⟩, .int .u8 z] w fun e w' => e = .returned (.bool (decide (z = 115) || decide (z = 117))) ∧ w = w' := by
  have h := rhas_any [115, 117] (UInt8.ofNat z.toNat) w (by decide)
  have e1 : (((UInt8.ofNat z.toNat).toNat : Nat) : Int) = z := by simp; omega
  rw [e1] at h
  rw [show (decide (z = 115) || decide (z = 117)) = decide (UInt8.ofNat z.toNat ∈ ([115, 117] : List UInt8)) from ?_]
  · exact h
  rw [Bool.eq_iff_iff]
  simp only [Bool.or_eq_true, decide_eq_true_eq, List.mem_cons, List.not_mem_nil, or_false, ← UInt8.toNat_inj]
  have e2 : (UInt8.ofNat z.toNat).toNat = z.toNat := by omega
  rw [e2]
  simp
  omega

theorem rhas_4 (z : Int) (h0 : 0 ≤ z) (h1 : z < 256) (w : World) : Calls Try.prog 25 #[.string ⟨#[99]⟩, .int .u8 z] w fun e w' => e = .returned (.bool (decide (z = 99))) ∧ w = w' := by
  have h := rhas_any [99] (UInt8.ofNat z.toNat) w (by decide)
  have e1 : (((UInt8.ofNat z.toNat).toNat : Nat) : Int) = z := by simp; omega
  rw [e1] at h
  rw [show (decide (z = 99)) = decide (UInt8.ofNat z.toNat ∈ ([99] : List UInt8)) from ?_]
  · exact h
  rw [Bool.eq_iff_iff]
  simp only [Bool.or_eq_true, decide_eq_true_eq, List.mem_cons, List.not_mem_nil, or_false, ← UInt8.toNat_inj]
  have e2 : (UInt8.ofNat z.toNat).toNat = z.toNat := by omega
  rw [e2]
  simp
  omega

theorem rhas_5 (z : Int) (h0 : 0 ≤ z) (h1 : z < 256) (w : World) : Calls Try.prog 25 #[.string ⟨#[110, 98]⟩, .int .u8 z] w fun e w' => e = .returned (.bool (decide (z = 110) || decide (z = 98))) ∧ w = w' := by
  have h := rhas_any [110, 98] (UInt8.ofNat z.toNat) w (by decide)
  have e1 : (((UInt8.ofNat z.toNat).toNat : Nat) : Int) = z := by simp; omega
  rw [e1] at h
  rw [show (decide (z = 110) || decide (z = 98)) = decide (UInt8.ofNat z.toNat ∈ ([110, 98] : List UInt8)) from ?_]
  · exact h
  rw [Bool.eq_iff_iff]
  simp only [Bool.or_eq_true, decide_eq_true_eq, List.mem_cons, List.not_mem_nil, or_false, ← UInt8.toNat_inj]
  have e2 : (UInt8.ofNat z.toNat).toNat = z.toNat := by omega
  rw [e2]
  simp
  omega

theorem rhas_6 (z : Int) (h0 : 0 ≤ z) (h1 : z < 256) (w : World) : Calls Try.prog 25 #[.string ⟨#[110]⟩, .int .u8 z] w fun e w' => e = .returned (.bool (decide (z = 110))) ∧ w = w' := by
  have h := rhas_any [110] (UInt8.ofNat z.toNat) w (by decide)
  have e1 : (((UInt8.ofNat z.toNat).toNat : Nat) : Int) = z := by simp; omega
  rw [e1] at h
  rw [show (decide (z = 110)) = decide (UInt8.ofNat z.toNat ∈ ([110] : List UInt8)) from ?_]
  · exact h
  rw [Bool.eq_iff_iff]
  simp only [Bool.or_eq_true, decide_eq_true_eq, List.mem_cons, List.not_mem_nil, or_false, ← UInt8.toNat_inj]
  have e2 : (UInt8.ofNat z.toNat).toNat = z.toNat := by omega
  rw [e2]
  simp
  omega

theorem rhas_7 (z : Int) (h0 : 0 ≤ z) (h1 : z < 256) (w : World) : Calls Try.prog 25 #[.string ⟨#[98]⟩, .int .u8 z] w fun e w' => e = .returned (.bool (decide (z = 98))) ∧ w = w' := by
  have h := rhas_any [98] (UInt8.ofNat z.toNat) w (by decide)
  have e1 : (((UInt8.ofNat z.toNat).toNat : Nat) : Int) = z := by simp; omega
  rw [e1] at h
  rw [show (decide (z = 98)) = decide (UInt8.ofNat z.toNat ∈ ([98] : List UInt8)) from ?_]
  · exact h
  rw [Bool.eq_iff_iff]
  simp only [Bool.or_eq_true, decide_eq_true_eq, List.mem_cons, List.not_mem_nil, or_false, ← UInt8.toNat_inj]
  have e2 : (UInt8.ofNat z.toNat).toNat = z.toNat := by omega
  rw [e2]
  simp
  omega

theorem rhas_8 (z : Int) (h0 : 0 ≤ z) (h1 : z < 256) (w : World) : Calls Try.prog 25 #[.string ⟨#[99, 98]⟩, .int .u8 z] w fun e w' => e = .returned (.bool (decide (z = 99) || decide (z = 98))) ∧ w = w' := by
  have h := rhas_any [99, 98] (UInt8.ofNat z.toNat) w (by decide)
  have e1 : (((UInt8.ofNat z.toNat).toNat : Nat) : Int) = z := by simp; omega
  rw [e1] at h
  rw [show (decide (z = 99) || decide (z = 98)) = decide (UInt8.ofNat z.toNat ∈ ([99, 98] : List UInt8)) from ?_]
  · exact h
  rw [Bool.eq_iff_iff]
  simp only [Bool.or_eq_true, decide_eq_true_eq, List.mem_cons, List.not_mem_nil, or_false, ← UInt8.toNat_inj]
  have e2 : (UInt8.ofNat z.toNat).toNat = z.toNat := by omega
  rw [e2]
  simp
  omega

end Go.Proofs.Ytmcldnfemlaeiaa
