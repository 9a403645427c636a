/- Layer 1's statements: the walk of OctetPuts. No condition beyond sizes. -/
import Derived.Test.YtifgieejmpfcdaaOct6
namespace Go.Proofs.Ytifgieejmpfcdaa
open Go.RowKit K L
set_option linter.unusedVariables false

theorem be_mod (n : Nat) : ∀ x, be (x % 256 ^ n) n = be x n := by
  induction n with
  | zero => intro x; rfl
  | succ n ih =>
    intro x
    rw [be, be]
    have h1 : x % 256 ^ (n + 1) / 256 = (x / 256) % 256 ^ n := by rw [Nat.pow_succ', Nat.mod_mul_right_div_self]
    have h2 : UInt8.ofNat (x % 256 ^ (n + 1)) = UInt8.ofNat x := by
      apply UInt8.toNat_inj.1
      simp only [UInt8.toNat_ofNat']
      rw [Nat.pow_succ']
      exact Nat.mod_mul_right_mod _ _ _
    rw [h1, ih, h2]

theorem wrap16 (x : Nat) : IntKind.u16.wrap (x : Int) = ((x % 65536 : Nat) : Int) := by simp [IntKind.wrap, IntKind.bits, IntKind.signed]
theorem wrap32' (x : Nat) : ((x : Int) % 4294967296) = ((x % 4294967296 : Nat) : Int) := by simp

set_option maxHeartbeats 1000000 in
theorem puts_walk (v : Value) (xs : List UInt8) (x : Nat) (w : World) (h : Bs w (· < w.heap.size) v xs) (hb : xs.length ≤ 1048576) (hx : x < 18446744073709551616) :
    Calls Try.prog 7 #[v, .int .u64 x] w fun e w' => e = .returned (.bool true) ∧ Below w.heap.size w w' := by
  have hx' : (x : Int) ≤ 18446744073709551615 := by omega
  have e2 : be (x % 65536) 2 = be x 2 := be_mod 2 x
  have e4 : be (x % 4294967296) 4 = be x 4 := be_mod 4 x
  have E2 := Lib.hid e2
  have E4 := Lib.hid e4
  clear e2 e4
  go_enter Try.func7, Try.ntmps7
  go_wp2_with fail
  refine (wakes_any w).mono ?_
  rintro e w1 ⟨rfl, hB1⟩
  go_wp2_with fail
  refine (both_any _ _ xs [] _ _ (fun _ => True) (h.below hB1) (Sl.nil _ _ _) (by omega) (by decide)).mono ?_
  rintro e w2 ⟨v2, rfl, o2, hB2⟩
  rw [List.append_nil] at o2
  have k2 : Below w.heap.size w w2 := below_tr hB1 hB2
  go_wp2_with fail
  rw [wrap16]
  refine (put16_any _ xs (x % 65536) _ _ (h.below k2) (by omega) (by omega)).mono ?_
  rintro e w3 ⟨v3, rfl, o3, hB3⟩
  rw [E2.out] at o3
  have k3 : Below w.heap.size w w3 := below_tr k2 hB3
  have a2 := o2.bs.below hB3
  go_wp2_with fail
  rw [wrap32']
  refine (put32_any _ xs (x % 4294967296) _ _ (h.below k3) (by omega) (by omega)).mono ?_
  rintro e w4 ⟨v4, rfl, o4, hB4⟩
  rw [E4.out] at o4
  have k4 : Below w.heap.size w w4 := below_tr k3 hB4
  have a2 := a2.below hB4
  have a3 := o3.bs.below hB4
  go_wp2_with fail
  refine (put64_any _ xs x _ _ (h.below k4) (by omega) (by omega)).mono ?_
  rintro e w5 ⟨v5, rfl, o5, hB5⟩
  have k5 : Below w.heap.size w w5 := below_tr k4 hB5
  have a2 := a2.below hB5
  have a3 := a3.below hB5
  have a4 := o4.bs.below hB5
  have a5 := o5.bs
  clear hB1 hB2 hB3 hB4 hB5 k2 k3 k4 o2 o3 o4 o5 E2 E4
  go_wp2_with fail
  refine (high_any x 2 _ (by decide) hx).mono ?_
  rintro e w6 ⟨vh, rfl, oh, hBh⟩
  have k5x : Below w.heap.size w w6 := below_tr k5 hBh
  have a2 := a2.below hBh
  have a3 := a3.below hBh
  have a4 := a4.below hBh
  have a5 := a5.below hBh
  go_wp2_with fail
  refine (both_any _ _ xs (be x 2) _ _ _ a2 oh.bs (by omega) (by rw [be_len]; decide)).mono ?_
  rintro e w7 ⟨vb, rfl, ob, hBb⟩
  have k5y : Below w.heap.size w w7 := below_tr k5x hBb
  have a2 := a2.below hBb
  have a3 := a3.below hBb
  have a4 := a4.below hBb
  have a5 := a5.below hBb
  clear hBh hBb oh
  go_wp2_with fail
  refine (same_any _ _ (xs ++ be x 2) (xs ++ be x 2) _ _ _ a3 ob.bs).mono ?_
  rintro e w0 ⟨rfl, n8, rfl⟩
  rw [beq_self_eq_true]
  have k5z : Below w.heap.size w (w7.drewN n8) := below_dn k5y _
  have hdn : Below w7.heap.size w7 (w7.drewN n8) := below_dn (Below.refl _ _) _
  have a2 := a2.below hdn
  have a3 := a3.below hdn
  have a4 := a4.below hdn
  have a5 := a5.below hdn
  clear hdn ob
  go_wp2_with fail
  refine (high_any x 4 _ (by decide) hx).mono ?_
  rintro e w9 ⟨vh, rfl, oh, hBh⟩
  have k5zx : Below w.heap.size w w9 := below_tr k5z hBh
  have a2 := a2.below hBh
  have a3 := a3.below hBh
  have a4 := a4.below hBh
  have a5 := a5.below hBh
  go_wp2_with fail
  refine (both_any _ _ xs (be x 4) _ _ _ a2 oh.bs (by omega) (by rw [be_len]; decide)).mono ?_
  rintro e w10 ⟨vb, rfl, ob, hBb⟩
  have k5zy : Below w.heap.size w w10 := below_tr k5zx hBb
  have a2 := a2.below hBb
  have a3 := a3.below hBb
  have a4 := a4.below hBb
  have a5 := a5.below hBb
  clear hBh hBb oh
  go_wp2_with fail
  refine (same_any _ _ (xs ++ be x 4) (xs ++ be x 4) _ _ _ a4 ob.bs).mono ?_
  rintro e w0 ⟨rfl, n11, rfl⟩
  rw [beq_self_eq_true]
  have k5zz : Below w.heap.size w (w10.drewN n11) := below_dn k5zy _
  have hdn : Below w10.heap.size w10 (w10.drewN n11) := below_dn (Below.refl _ _) _
  have a2 := a2.below hdn
  have a3 := a3.below hdn
  have a4 := a4.below hdn
  have a5 := a5.below hdn
  clear hdn ob
  go_wp2_with fail
  refine (high_any x 8 _ (by decide) hx).mono ?_
  rintro e w12 ⟨vh, rfl, oh, hBh⟩
  have k5zzx : Below w.heap.size w w12 := below_tr k5zz hBh
  have a2 := a2.below hBh
  have a3 := a3.below hBh
  have a4 := a4.below hBh
  have a5 := a5.below hBh
  go_wp2_with fail
  refine (both_any _ _ xs (be x 8) _ _ _ a2 oh.bs (by omega) (by rw [be_len]; decide)).mono ?_
  rintro e w13 ⟨vb, rfl, ob, hBb⟩
  have k5zzy : Below w.heap.size w w13 := below_tr k5zzx hBb
  have a2 := a2.below hBb
  have a3 := a3.below hBb
  have a4 := a4.below hBb
  have a5 := a5.below hBb
  clear hBh hBb oh
  go_wp2_with fail
  refine (same_any _ _ (xs ++ be x 8) (xs ++ be x 8) _ _ _ a5 ob.bs).mono ?_
  rintro e w0 ⟨rfl, n14, rfl⟩
  rw [beq_self_eq_true]
  have k5zzz : Below w.heap.size w (w13.drewN n14) := below_dn k5zzy _
  have hdn : Below w13.heap.size w13 (w13.drewN n14) := below_dn (Below.refl _ _) _
  have a2 := a2.below hdn
  have a3 := a3.below hdn
  have a4 := a4.below hdn
  have a5 := a5.below hdn
  clear hdn ob
  go_wp2_with fail
  refine (same_any _ _ xs xs _ _ _ (h.below k5zzz) a2).mono ?_
  rintro e w0 ⟨rfl, n0, rfl⟩
  rw [beq_self_eq_true]
  go_wp2
  go_ret
  exact ⟨rfl, below_dn k5zzy _⟩

end Go.Proofs.Ytifgieejmpfcdaa
