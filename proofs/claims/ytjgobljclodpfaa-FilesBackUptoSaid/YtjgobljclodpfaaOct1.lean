/- The bytes' comparisons: octet.Zero, slices.Equal at bytes, heliographref01.Same, for whatever slices. No condition. -/
import Derived.Test.YtjgobljclodpfaaK
import Derived.Test.YtjgobljclodpfaaL
import Derived.Test.YtjgobljclodpfaaProg
import Derived.Deep.QuietTactic
import Derived.BigQuiet
import Derived.Lib.Hide
namespace Go.Proofs.Ytjgobljclodpfaa
open Go.RowKit K L
set_option linter.unusedVariables false

theorem ret_int {k : IntKind} {a b : Int} (h : a = b) : Ending.returned (.int k a) = .returned (.int k b) := by rw [h]
theorem ret_bool {a b : Bool} (h : a = b) : Ending.returned (.bool a) = .returned (.bool b) := by rw [h]

set_option maxHeartbeats 400000 in
theorem equal_any (v1 v2 : Value) (xs ys : List UInt8) (w : World) (F G : Nat → Prop) (h : Bs w F v1 xs) (g : Bs w G v2 ys) :
    Calls Try.prog 41 #[v1, v2] w fun e w' => e = .returned (.bool (xs == ys)) ∧ ∃ n, w' = w.drewN n := by
  obtain ⟨A, c, rfl, h1, h2, -, hc⟩ := h.open_
  obtain ⟨A', c', rfl, g1, g2, -, hc'⟩ := g.open_
  unfold maxLen at h2 g2
  by_cases hl : xs.length = ys.length
  · have hl1 : (((xs.length : Nat) : Int) != (ys.length : Nat)) = false := by rw [hl]; simp
    have HL := Lib.hid hl
    clear hl
    go_enter Try.func41, Try.ntmps41
    go_wp2
    go_loopw [13] (fun i wr => ∃ k : Nat, k ≤ xs.length ∧ i = .int .i64 k ∧ xs.take k = ys.take k ∧ ∃ n, wr = w.drewN n) (fun i _ => xs.length - (intOf i).toNat)
    case atStart => exact ⟨0, Nat.zero_le _, rfl, rfl, 0, rfl⟩
    case round =>
      obtain ⟨k, hk, rfl, hs, n, rfl⟩ := hrel
      have HS := Lib.hid hs
      clear hs
      by_cases hlt : k < xs.length
      · have hlt' : k < ys.length := by rw [← HL.out]; exact hlt
        obtain ⟨ad, rfl, -, -, hx⟩ := hc k hlt
        obtain ⟨ad', rfl, -, -, hx'⟩ := hc' k hlt'
        clear hc hc' hl1
        go_wp2
        go_quiet (fail)
        go_wp2
        · go_ret
          exact ⟨ret_bool (beq_part xs ys k hlt hlt' (u8_ne (by assumption))).symm, n + nq, by simp⟩
        · exact ⟨⟨k + 1, by omega, by go_num, take_eq_snoc xs ys k hlt hlt' HS.out (u8_eq (by assumption)), n + nq, by simp⟩, by simp [intOf]; omega⟩
      · go_wp2
        go_ret
        exact ⟨ret_bool (beq_all xs ys k HL.out (by omega) HS.out).symm, _, rfl⟩
  · have hl1 : (((xs.length : Nat) : Int) != (ys.length : Nat)) = true := by simp; omega
    go_enter Try.func41, Try.ntmps41
    go_wp2
    go_ret
    exact ⟨ret_bool (beq_len xs ys hl).symm, 0, rfl⟩

set_option maxHeartbeats 400000 in
theorem same_any (v1 v2 : Value) (xs ys : List UInt8) (w : World) (F G : Nat → Prop) (h : Bs w F v1 xs) (g : Bs w G v2 ys) :
    Calls Try.prog 25 #[v1, v2] w fun e w' => e = .returned (.bool (xs == ys)) ∧ ∃ n, w' = w.drewN n := by
  obtain ⟨A, c, rfl, h1, h2, -, hc⟩ := h.open_
  obtain ⟨A', c', rfl, g1, g2, -, hc'⟩ := g.open_
  unfold maxLen at h2 g2
  by_cases hl : xs.length = ys.length
  · have hl1 : (((xs.length : Nat) : Int) != (ys.length : Nat)) = false := by rw [hl]; simp
    have HL := Lib.hid hl
    clear hl
    go_enter Try.func25, Try.ntmps25
    go_wp2
    go_loopw [5] (fun i wr => ∃ k : Nat, k ≤ xs.length ∧ i = .int .i64 k ∧ xs.take k = ys.take k ∧ ∃ n, wr = w.drewN n) (fun i _ => xs.length - (intOf i).toNat)
    case atStart => exact ⟨0, Nat.zero_le _, rfl, rfl, 0, rfl⟩
    case round =>
      obtain ⟨k, hk, rfl, hs, n, rfl⟩ := hrel
      have HS := Lib.hid hs
      clear hs
      by_cases hlt : k < xs.length
      · have hlt' : k < ys.length := by rw [← HL.out]; exact hlt
        obtain ⟨ad, rfl, -, -, hx⟩ := hc k hlt
        obtain ⟨ad', rfl, -, -, hx'⟩ := hc' k hlt'
        clear hc hc' hl1
        go_wp2
        go_quiet (fail)
        go_wp2
        · go_ret
          exact ⟨ret_bool (beq_part xs ys k hlt hlt' (u8_ne (by assumption))).symm, n + nq, by simp⟩
        · exact ⟨⟨k + 1, by omega, by go_num, take_eq_snoc xs ys k hlt hlt' HS.out (u8_eq (by assumption)), n + nq, by simp⟩, by simp [intOf]; omega⟩
      · go_wp2
        go_ret
        exact ⟨ret_bool (beq_all xs ys k HL.out (by omega) HS.out).symm, _, rfl⟩
  · have hl1 : (((xs.length : Nat) : Int) != (ys.length : Nat)) = true := by simp; omega
    go_enter Try.func25, Try.ntmps25
    go_wp2
    go_ret
    exact ⟨ret_bool (beq_len xs ys hl).symm, 0, rfl⟩

end Go.Proofs.Ytjgobljclodpfaa
