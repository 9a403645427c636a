/- Law 11's walk: PduEncodes. No condition beyond sizes. -/
import Derived.Test.YtmcldnfemlaeiaaPduBy
import Derived.Test.YtmcldnfemlaeiaaPduC
import Derived.Test.YtmcldnfemlaeiaaPduW
namespace Go.Proofs.Ytmcldnfemlaeiaa
open Go.RowKit K L
set_option linter.unusedVariables false
set_option linter.unusedSimpArgs false

theorem enc_len400 (m : Msg) (hok : m.ok) : m.enc.length ≤ 400 := by
  have hnl : m.name.length ≤ 24 := by
    have h1 := hok.2.2.1
    have h2 := hok.2.2.2.1
    cases hf : fldN m.kind
    · have := h2 hf; omega
    · have := h1 hf; omega
  have hbl : m.bytes.length ≤ 256 := hok.2.2.2.2.2.2.2.2.2.2.1
  unfold Msg.enc
  simp only [List.length_append, be_len, List.length_cons, List.length_nil]
  repeat' split
  all_goals simp [be_len]
  all_goals omega

set_option maxRecDepth 100000 in
set_option maxHeartbeats 8000000 in
theorem encodes_walk (m : Msg) (vb : Value) (w : World) (h : Bs w (· < w.heap.size) vb m.bytes) (hl : m.name.length ≤ 1048576) (hn : m.number < 4294967296) (hu : m.sum < 4294967296) :
    Calls Try.prog 3 #[.agg (m.cells vb).toArray] w fun e w' => e = .returned (.bool true) ∧ Below w.heap.size w w' := by
  have hb := h
  obtain ⟨A, c, rfl, l1, l2, -, -⟩ := h.open_
  unfold maxLen at l2
  clear h
  obtain ⟨kind, number, name, size, off, sum, code, bytes⟩ := m
  unfold Msg.cells
  dsimp only at hl hn hu hb l1 ⊢
  have HRT := Lib.hid (fun w F h => right_any ⟨kind, number, name, size, off, sum, code, bytes⟩ (.slice A bytes.length c) w F h (by dsimp only; omega))
  have HCP := Lib.hid (fun w F h h5 => copied_any ⟨kind, number, name, size, off, sum, code, bytes⟩ (.slice A bytes.length c) w F h h5)
  have HCK := Lib.hid (fun vb w F h => check_any ⟨kind, number, name, size, off, sum, code, bytes⟩ vb w F h (by dsimp only; omega))
  unfold Msg.cells at HRT HCP HCK
  dsimp only at HRT HCP HCK
  go_enter Try.func3, Try.ntmps3
  go_wp2_with fail
  obtain ⟨hm, hB0, hb1, hsz⟩ := box_one w (.cells #[.int .i64 kind, .int .u32 (number : Nat), .string ⟨name.toArray⟩, .int .i64 size, .int .i64 off, .int .u32 (sum : Nat), .int .i64 code, .slice A bytes.length c] 25) _ _ _ hb
  generalize w.alloc (.cells #[.int .i64 kind, .int .u32 (number : Nat), .string ⟨name.toArray⟩, .int .i64 size, .int .i64 off, .int .u32 (sum : Nat), .int .i64 code, .slice A bytes.length c] 25) = W at *
  clear hb
  have HX0 := Lib.hid hm
  have HB0 := Lib.hid hB0
  have HS0 := Lib.hid hb1
  clear hm hB0 hb1
  refine (wakes_any W).mono ?_
  rintro e w1 ⟨rfl, hB1⟩
  have hx1 := heap_bl hB1 HX0.out
  have HS1 := Lib.hid (HS0.out.below hB1)
  have HB1 := Lib.hid (below_tr HB0.out hB1)
  clear hB1
  have c0 := cell_of hx1 0
  have c1 := cell_of hx1 1
  have c2 := cell_of hx1 2
  have c3 := cell_of hx1 3
  have c4 := cell_of hx1 4
  have c5 := cell_of hx1 5
  have c6 := cell_of hx1 6
  have c7 := cell_of hx1 7
  simp at c0 c1 c2 c3 c4 c5 c6 c7
  have HX1 := Lib.hid hx1
  clear hx1 HX0 HS0 HB0
  by_cases h5 : 5000 < bytes.length
  · have hd : decide (5000 < (bytes.length : Int)) = true := by rw [decide_eq_true_eq]; omega
    go_wp2
    go_ret
    exact ⟨rfl, HB1.out⟩
  have hd : decide (5000 < (bytes.length : Int)) = false := by rw [decide_eq_false_iff_not]; omega
  by_cases h6 : 5000 < name.length
  · have hd6 : decide (5000 < (name.length : Int)) = true := by rw [decide_eq_true_eq]; omega
    go_wp2
    go_ret
    exact ⟨rfl, HB1.out⟩
  have hd6 : decide (5000 < (name.length : Int)) = false := by rw [decide_eq_false_iff_not]; omega
  go_wp2_with fail
  refine (HCP.out _ _ HS1.out (by omega)).mono ?_
  rintro e w2 ⟨vc2, rfl, hoc2, hBc⟩
  have HO2 := Lib.hid hoc2.bs
  clear hoc2
  have hx2 := heap_bl hBc HX1.out
  have HS2 := Lib.hid (HS1.out.below hBc)
  have HB2 := Lib.hid (below_tr HB1.out hBc)
  clear hBc c0 c1 c2 c3 c4 c5 c6 c7
  have c0 := cell_of hx2 0
  have c1 := cell_of hx2 1
  have c2 := cell_of hx2 2
  have c3 := cell_of hx2 3
  have c4 := cell_of hx2 4
  have c5 := cell_of hx2 5
  have c6 := cell_of hx2 6
  have c7 := cell_of hx2 7
  simp at c0 c1 c2 c3 c4 c5 c6 c7
  have HX2 := Lib.hid hx2
  clear hx2 HX1 HS1 HB1
  by_cases hok : Msg.ok ⟨kind, number, name, size, off, sum, code, bytes⟩
  · have hlen := enc_len400 _ hok
    have HEN := Lib.hid (fun vb w F h => encode_good ⟨kind, number, name, size, off, sum, code, bytes⟩ vb w F h hok hn hu)
    have HBY := Lib.hid (fun w F h => rbytes_any ⟨kind, number, name, size, off, sum, code, bytes⟩ (.slice A bytes.length c) w F h hok hn hu)
    have hoke : okErr ⟨kind, number, name, size, off, sum, code, bytes⟩ = 0 := by unfold okErr; rw [if_pos hok]
    have hokd : decide (Msg.ok ⟨kind, number, name, size, off, sum, code, bytes⟩) = true := decide_eq_true hok
    rw [hokd] at HRT
    rw [hoke] at HCK
    unfold Msg.cells at HEN HBY
    dsimp only at HEN HBY
    clear hoke hokd hok
    generalize Msg.enc ⟨kind, number, name, size, off, sum, code, bytes⟩ = xs at *
    go_wp2_with fail
    refine (HEN.out _ _ _ HO2.out).mono ?_
    rintro e w3 ⟨ve, rfl, hoe, hBe⟩
    have hbe := hoe.bs
    obtain ⟨A3, c3', rfl, -, k2, -, -⟩ := hbe.open_
    unfold maxLen at k2
    have HE3 := Lib.hid hbe
    clear hoe hbe HO2
    have hx3 := heap_bl hBe HX2.out
    have HS3 := Lib.hid (HS2.out.below hBe)
    have HB3 := Lib.hid (below_tr HB2.out hBe)
    clear hBe c0 c1 c2 c3 c4 c5 c6 c7
    have c0 := cell_of hx3 0
    have c1 := cell_of hx3 1
    have c2 := cell_of hx3 2
    have c3 := cell_of hx3 3
    have c4 := cell_of hx3 4
    have c5 := cell_of hx3 5
    have c6 := cell_of hx3 6
    have c7 := cell_of hx3 7
    simp at c0 c1 c2 c3 c4 c5 c6 c7
    have HX3 := Lib.hid hx3
    clear hx3 HX2 HS2 HB2
    go_wp2_with fail
    refine (HRT.out _ _ HS3.out).mono ?_
    rintro e w4 ⟨rfl, hB4⟩
    have HE4 := Lib.hid (HE3.out.below hB4)
    clear HE3
    have hx4 := heap_bl hB4 HX3.out
    have HS4 := Lib.hid (HS3.out.below hB4)
    have HB4 := Lib.hid (below_tr HB3.out hB4)
    clear hB4 c0 c1 c2 c3 c4 c5 c6 c7
    have c0 := cell_of hx4 0
    have c1 := cell_of hx4 1
    have c2 := cell_of hx4 2
    have c3 := cell_of hx4 3
    have c4 := cell_of hx4 4
    have c5 := cell_of hx4 5
    have c6 := cell_of hx4 6
    have c7 := cell_of hx4 7
    simp at c0 c1 c2 c3 c4 c5 c6 c7
    have HX4 := Lib.hid hx4
    clear hx4 HX3 HS3 HB3
    have hlx : decide ((xs.length : Int) ≤ 400) = true := by rw [decide_eq_true_eq]; omega
    go_wp2_with fail
    refine (HCP.out _ _ HS4.out (by omega)).mono ?_
    rintro e w5 ⟨vc5, rfl, hoc5, hBc⟩
    have HO5 := Lib.hid hoc5.bs
    clear hoc5
    have HE5 := Lib.hid (HE4.out.below hBc)
    clear HE4
    have hx5 := heap_bl hBc HX4.out
    have HS5 := Lib.hid (HS4.out.below hBc)
    have HB5 := Lib.hid (below_tr HB4.out hBc)
    clear hBc c0 c1 c2 c3 c4 c5 c6 c7
    have c0 := cell_of hx5 0
    have c1 := cell_of hx5 1
    have c2 := cell_of hx5 2
    have c3 := cell_of hx5 3
    have c4 := cell_of hx5 4
    have c5 := cell_of hx5 5
    have c6 := cell_of hx5 6
    have c7 := cell_of hx5 7
    simp at c0 c1 c2 c3 c4 c5 c6 c7
    have HX5 := Lib.hid hx5
    clear hx5 HX4 HS4 HB4
    go_wp2_with fail
    refine (HCK.out _ _ _ HO5.out).mono ?_
    rintro e w6 ⟨rfl, hB6⟩
    have HE6 := Lib.hid (HE5.out.below hB6)
    clear HE5
    have hx6 := heap_bl hB6 HX5.out
    have HS6 := Lib.hid (HS5.out.below hB6)
    have HB6 := Lib.hid (below_tr HB5.out hB6)
    clear hB6 c0 c1 c2 c3 c4 c5 c6 c7
    have c0 := cell_of hx6 0
    have c1 := cell_of hx6 1
    have c2 := cell_of hx6 2
    have c3 := cell_of hx6 3
    have c4 := cell_of hx6 4
    have c5 := cell_of hx6 5
    have c6 := cell_of hx6 6
    have c7 := cell_of hx6 7
    simp at c0 c1 c2 c3 c4 c5 c6 c7
    have HX6 := Lib.hid hx6
    clear hx6 HX5 HS5 HB5
    go_wp2_with fail
    refine (HBY.out _ _ HS6.out).mono ?_
    rintro e w7 ⟨vy, rfl, ⟨Fy, hy⟩, hB7⟩
    have HE7 := Lib.hid (HE6.out.below hB7)
    have HY7 := Lib.hid hy
    clear HE6 hy
    have hx7 := heap_bl hB7 HX6.out
    have HS7 := Lib.hid (HS6.out.below hB7)
    have HB7 := Lib.hid (below_tr HB6.out hB7)
    clear hB7 c0 c1 c2 c3 c4 c5 c6 c7
    have c0 := cell_of hx7 0
    have c1 := cell_of hx7 1
    have c2 := cell_of hx7 2
    have c3 := cell_of hx7 3
    have c4 := cell_of hx7 4
    have c5 := cell_of hx7 5
    have c6 := cell_of hx7 6
    have c7 := cell_of hx7 7
    simp at c0 c1 c2 c3 c4 c5 c6 c7
    have HX7 := Lib.hid hx7
    clear hx7 HX6 HS6 HB6
    go_wp2_with fail
    refine (same_any _ _ xs xs _ _ _ HE7.out HY7.out).mono ?_
    rintro e w8 ⟨rfl, hw8⟩
    rw [beq_self_eq_true]
    obtain ⟨n8, rfl⟩ := hw8
    go_wp2
    go_ret
    exact ⟨rfl, below_dn HB7.out n8⟩
  · have HEN := Lib.hid (fun vb w F h => encode_bad ⟨kind, number, name, size, off, sum, code, bytes⟩ vb w F h (by dsimp only; omega) hok)
    have hoke : okErr ⟨kind, number, name, size, off, sum, code, bytes⟩ = 210 := by unfold okErr; rw [if_neg hok]
    have hokd : decide (Msg.ok ⟨kind, number, name, size, off, sum, code, bytes⟩) = false := decide_eq_false hok
    rw [hokd] at HRT
    rw [hoke] at HCK
    unfold Msg.cells at HEN
    dsimp only at HEN
    clear hoke hokd hok
    go_wp2_with fail
    refine (HEN.out _ _ _ HO2.out).mono ?_
    rintro e w3 ⟨rfl, hBe⟩
    clear HO2
    have hx3 := heap_bl hBe HX2.out
    have HS3 := Lib.hid (HS2.out.below hBe)
    have HB3 := Lib.hid (below_tr HB2.out hBe)
    clear hBe c0 c1 c2 c3 c4 c5 c6 c7
    have c0 := cell_of hx3 0
    have c1 := cell_of hx3 1
    have c2 := cell_of hx3 2
    have c3 := cell_of hx3 3
    have c4 := cell_of hx3 4
    have c5 := cell_of hx3 5
    have c6 := cell_of hx3 6
    have c7 := cell_of hx3 7
    simp at c0 c1 c2 c3 c4 c5 c6 c7
    have HX3 := Lib.hid hx3
    clear hx3 HX2 HS2 HB2
    go_wp2_with fail
    refine (HRT.out _ _ HS3.out).mono ?_
    rintro e w4 ⟨rfl, hB4⟩
    have hx4 := heap_bl hB4 HX3.out
    have HS4 := Lib.hid (HS3.out.below hB4)
    have HB4 := Lib.hid (below_tr HB3.out hB4)
    clear hB4 c0 c1 c2 c3 c4 c5 c6 c7
    have c0 := cell_of hx4 0
    have c1 := cell_of hx4 1
    have c2 := cell_of hx4 2
    have c3 := cell_of hx4 3
    have c4 := cell_of hx4 4
    have c5 := cell_of hx4 5
    have c6 := cell_of hx4 6
    have c7 := cell_of hx4 7
    simp at c0 c1 c2 c3 c4 c5 c6 c7
    have HX4 := Lib.hid hx4
    clear hx4 HX3 HS3 HB3
    go_wp2_with fail
    refine (HCP.out _ _ HS4.out (by omega)).mono ?_
    rintro e w5 ⟨vc5, rfl, hoc5, hBc⟩
    have HO5 := Lib.hid hoc5.bs
    clear hoc5
    have hx5 := heap_bl hBc HX4.out
    have HS5 := Lib.hid (HS4.out.below hBc)
    have HB5 := Lib.hid (below_tr HB4.out hBc)
    clear hBc c0 c1 c2 c3 c4 c5 c6 c7
    have c0 := cell_of hx5 0
    have c1 := cell_of hx5 1
    have c2 := cell_of hx5 2
    have c3 := cell_of hx5 3
    have c4 := cell_of hx5 4
    have c5 := cell_of hx5 5
    have c6 := cell_of hx5 6
    have c7 := cell_of hx5 7
    simp at c0 c1 c2 c3 c4 c5 c6 c7
    have HX5 := Lib.hid hx5
    clear hx5 HX4 HS4 HB4
    go_wp2_with fail
    refine (HCK.out _ _ _ HO5.out).mono ?_
    rintro e w6 ⟨rfl, hB6⟩
    have hx6 := heap_bl hB6 HX5.out
    have HS6 := Lib.hid (HS5.out.below hB6)
    have HB6 := Lib.hid (below_tr HB5.out hB6)
    clear hB6 c0 c1 c2 c3 c4 c5 c6 c7
    have c0 := cell_of hx6 0
    have c1 := cell_of hx6 1
    have c2 := cell_of hx6 2
    have c3 := cell_of hx6 3
    have c4 := cell_of hx6 4
    have c5 := cell_of hx6 5
    have c6 := cell_of hx6 6
    have c7 := cell_of hx6 7
    simp at c0 c1 c2 c3 c4 c5 c6 c7
    have HX6 := Lib.hid hx6
    clear hx6 HX5 HS5 HB5
    go_wp2
    go_ret
    exact ⟨rfl, HB6.out⟩

end Go.Proofs.Ytmcldnfemlaeiaa
