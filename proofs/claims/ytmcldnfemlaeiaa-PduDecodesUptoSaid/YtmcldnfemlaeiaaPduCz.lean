/- Layer 11's walk of Check at kind 1. No condition beyond sizes. -/
import Derived.Test.YtmcldnfemlaeiaaPdu1
namespace Go.Proofs.Ytmcldnfemlaeiaa
open Go.RowKit K L
set_option linter.unusedVariables false
set_option linter.unusedSimpArgs false

set_option maxRecDepth 100000 in
set_option maxHeartbeats 4000000 in
theorem check_1 (m : Msg) (vb : Value) (w : World) (F : Nat → Prop) (h : Bs w F vb m.bytes) (hk : m.kind = 1) (hl : m.name.length ≤ 1000000000) :
    Calls Try.prog 12 #[.agg (m.cells vb).toArray] w fun e w' => e = .returned (.int .i64 (okErr m)) ∧ Below w.heap.size w w' := by
  obtain ⟨A, c, rfl, l1, l2, -, -⟩ := h.open_
  unfold maxLen at l2
  clear h
  obtain ⟨kind, number, name, size, off, sum, code, bytes⟩ := m
  dsimp only at hk hl l1 ⊢
  subst hk
  unfold Msg.cells
  dsimp only
  go_enter Try.func12, Try.ntmps12
  go_wp2_with (go_at_call 20; refine (fields_is _ 3 rfl _).mono ?_; rintro e w1 ⟨rfl, rfl⟩)
  obtain ⟨hm, hf, hb, hB⟩ := three w (.cells #[.int .i64 1, .int .u32 (number : Nat), .string ⟨name.toArray⟩, .int .i64 size, .int .i64 off, .int .u32 (sum : Nat), .int .i64 code, .slice A bytes.length c] 25) (.cells #[.int .i64 3] 40) (.cells #[.bool (decide (0 < number))] 4)
  generalize (((w.alloc (.cells #[.int .i64 1, .int .u32 (number : Nat), .string ⟨name.toArray⟩, .int .i64 size, .int .i64 off, .int .u32 (sum : Nat), .int .i64 code, .slice A bytes.length c] 25)).alloc (.cells #[.int .i64 3] 40)).alloc (.cells #[.bool (decide (0 < number))] 4)) = w0 at *
  generalize hb0 : decide (0 < number) = b0 at *
  have B0 := Lib.hid hb0
  clear hb0
  refine (plain_heap 3 1 _ b0 (by decide) (by decide) _ _ (by omega) _ _ _ hb hf).mono ?_
  rintro e w1 ⟨rfl, hb', hg⟩
  replace hm := gr_heap hg hm (by omega)
  replace hf := gr_heap hg hf (by omega)
  replace hB := below_gr hB hg (by omega)
  replace hb := hb'
  clear hb' hg
  rw [show fhas 3 1 = true from by decide] at hb
  generalize hbi : (b0 && _) = b1 at hb
  have B1 := Lib.hid hbi
  clear hbi
  have m0 := cell_of hm 0
  have m1 := cell_of hm 1
  have m2 := cell_of hm 2
  have m3 := cell_of hm 3
  have m4 := cell_of hm 4
  have m5 := cell_of hm 5
  have m6 := cell_of hm 6
  have m7 := cell_of hm 7
  have cf := cell_of hf 0
  have cb := cell_of hb 0
  have fb := frozen_of hb 0
  simp at m0 m1 m2 m3 m4 m5 m6 m7 cf cb
  go_wp2_with fail
  clear m0 m1 m2 m3 m4 m5 m6 m7 cf cb fb
  refine (plain_heap 3 2 _ b1 (by decide) (by decide) _ _ (by omega) _ _ _ hb hf).mono ?_
  rintro e w2 ⟨rfl, hb', hg⟩
  replace hm := gr_heap hg hm (by omega)
  replace hf := gr_heap hg hf (by omega)
  replace hB := below_gr hB hg (by omega)
  replace hb := hb'
  clear hb' hg
  rw [show fhas 3 2 = true from by decide] at hb
  generalize hbi : (b1 && _) = b2 at hb
  have B2 := Lib.hid hbi
  clear hbi
  have m0 := cell_of hm 0
  have m1 := cell_of hm 1
  have m2 := cell_of hm 2
  have m3 := cell_of hm 3
  have m4 := cell_of hm 4
  have m5 := cell_of hm 5
  have m6 := cell_of hm 6
  have m7 := cell_of hm 7
  have cf := cell_of hf 0
  have cb := cell_of hb 0
  have fb := frozen_of hb 0
  simp at m0 m1 m2 m3 m4 m5 m6 m7 cf cb
  go_wp2_with fail
  clear m0 m1 m2 m3 m4 m5 m6 m7 cf cb fb
  refine (plain_heap 3 4 _ b2 (by decide) (by decide) _ _ (by omega) _ _ _ hb hf).mono ?_
  rintro e w3 ⟨rfl, hb', hg⟩
  replace hm := gr_heap hg hm (by omega)
  replace hf := gr_heap hg hf (by omega)
  replace hB := below_gr hB hg (by omega)
  replace hb := hb'
  clear hb' hg
  rw [show fhas 3 4 = false from by decide] at hb
  generalize hbi : (b2 && _) = b3 at hb
  have B3 := Lib.hid hbi
  clear hbi
  have m0 := cell_of hm 0
  have m1 := cell_of hm 1
  have m2 := cell_of hm 2
  have m3 := cell_of hm 3
  have m4 := cell_of hm 4
  have m5 := cell_of hm 5
  have m6 := cell_of hm 6
  have m7 := cell_of hm 7
  have cf := cell_of hf 0
  have cb := cell_of hb 0
  have fb := frozen_of hb 0
  simp at m0 m1 m2 m3 m4 m5 m6 m7 cf cb
  go_wp2_with fail
  clear m0 m1 m2 m3 m4 m5 m6 m7 cf cb fb
  refine (plain_heap 3 8 _ b3 (by decide) (by decide) _ _ (by omega) _ _ _ hb hf).mono ?_
  rintro e w4 ⟨rfl, hb', hg⟩
  replace hm := gr_heap hg hm (by omega)
  replace hf := gr_heap hg hf (by omega)
  replace hB := below_gr hB hg (by omega)
  replace hb := hb'
  clear hb' hg
  rw [show fhas 3 8 = false from by decide] at hb
  generalize hbi : (b3 && _) = b4 at hb
  have B4 := Lib.hid hbi
  clear hbi
  have m0 := cell_of hm 0
  have m1 := cell_of hm 1
  have m2 := cell_of hm 2
  have m3 := cell_of hm 3
  have m4 := cell_of hm 4
  have m5 := cell_of hm 5
  have m6 := cell_of hm 6
  have m7 := cell_of hm 7
  have cf := cell_of hf 0
  have cb := cell_of hb 0
  have fb := frozen_of hb 0
  simp at m0 m1 m2 m3 m4 m5 m6 m7 cf cb
  go_wp2_with fail
  clear m0 m1 m2 m3 m4 m5 m6 m7 cf cb fb
  refine (plain_heap 3 16 _ b4 (by decide) (by decide) _ _ (by omega) _ _ _ hb hf).mono ?_
  rintro e w5 ⟨rfl, hb', hg⟩
  replace hm := gr_heap hg hm (by omega)
  replace hf := gr_heap hg hf (by omega)
  replace hB := below_gr hB hg (by omega)
  replace hb := hb'
  clear hb' hg
  rw [show fhas 3 16 = false from by decide] at hb
  generalize hbi : (b4 && _) = b5 at hb
  have B5 := Lib.hid hbi
  clear hbi
  have m0 := cell_of hm 0
  have m1 := cell_of hm 1
  have m2 := cell_of hm 2
  have m3 := cell_of hm 3
  have m4 := cell_of hm 4
  have m5 := cell_of hm 5
  have m6 := cell_of hm 6
  have m7 := cell_of hm 7
  have cf := cell_of hf 0
  have cb := cell_of hb 0
  have fb := frozen_of hb 0
  simp at m0 m1 m2 m3 m4 m5 m6 m7 cf cb
  go_wp2_with fail
  clear m0 m1 m2 m3 m4 m5 m6 m7 cf cb fb
  refine (plain_heap 3 32 _ b5 (by decide) (by decide) _ _ (by omega) _ _ _ hb hf).mono ?_
  rintro e w6 ⟨rfl, hb', hg⟩
  replace hm := gr_heap hg hm (by omega)
  replace hf := gr_heap hg hf (by omega)
  replace hB := below_gr hB hg (by omega)
  replace hb := hb'
  clear hb' hg
  rw [show fhas 3 32 = false from by decide] at hb
  generalize hbi : (b5 && _) = b6 at hb
  have B6 := Lib.hid hbi
  clear hbi
  have m0 := cell_of hm 0
  have m1 := cell_of hm 1
  have m2 := cell_of hm 2
  have m3 := cell_of hm 3
  have m4 := cell_of hm 4
  have m5 := cell_of hm 5
  have m6 := cell_of hm 6
  have m7 := cell_of hm 7
  have cf := cell_of hf 0
  have cb := cell_of hb 0
  have fb := frozen_of hb 0
  simp at m0 m1 m2 m3 m4 m5 m6 m7 cf cb
  have s1 := fun u => sc1 cb u
  have s2 := fun u1 u2 => sc1 (s1 u1) u2
  have s3 := fun u1 u2 u3 => sc1 (s2 u1 u2) u3
  have hP : b6 = true ↔ (0 < number ∧ off = 0 ∧ sum = 0 ∧ code = 0 ∧ bytes.length = 0) := by
    have e0 := B0.out; have e1 := B1.out; have e2 := B2.out; have e3 := B3.out; have e4 := B4.out; have e5 := B5.out; have e6 := B6.out
    subst e0; subst e1; subst e2; subst e3; subst e4; subst e5; subst e6
    simp only [Bool.and_eq_true, Bool.true_or, Bool.false_or, Bool.and_true, decide_eq_true_eq, beq_iff_eq, isEmpty_len]
    omega
  have hok : Msg.ok ⟨1, number, name, size, off, sum, code, bytes⟩ ↔ (0 < number ∧ (1 ≤ name.length ∧ name.length ≤ 24) ∧ (0 ≤ size ∧ size ≤ 4096) ∧ off = 0 ∧ sum = 0 ∧ (0 ≤ code ∧ code ≤ 255) ∧ code = 0 ∧ bytes.length ≤ 256 ∧ bytes.length = 0) := by
    unfold Msg.ok
    simp only [show fldN 1 = true from rfl, show fldS 1 = true from rfl, show fldO 1 = false from rfl, show fldU 1 = false from rfl, show fldC 1 = false from rfl, show fldB 1 = false from rfl, eq_self, forall_const, true_implies, reduceCtorEq, false_implies, true_and, and_true]

    omega
  have HOK := Lib.hid hok
  clear B0 B1 B2 B3 B4 B5 B6 hok
  cases b6 with
  | false =>
    have hn : ¬ (0 < number ∧ off = 0 ∧ sum = 0 ∧ code = 0 ∧ bytes.length = 0) := fun h => by have := hP.2 h; cases this
    have HN := Lib.hid hn
    clear hP hn
    go_wp2
    go_ret
    exact ⟨ret_int (by rw [okErr, if_neg (fun h => HN.out (by have := HOK.out.1 h; omega))]), (by repeat' (first | exact Below.refl _ _ | assumption | with_reducible refine below_dn ?_ _ | with_reducible refine below_al ?_ _ | with_reducible refine Below.drew ?_ | (with_reducible refine below_sc ?_ ?_ _) | (simp; done) | (simp; omega)))⟩
  | true =>
    have hy := hP.1 rfl
    have HY := Lib.hid hy
    clear hP hy
    go_wp2_with (go_at_call 22; refine (has_any 3 1 (by decide) (by decide) _).mono ?_; rw [show fhas 3 1 = true from by decide]; rintro e w8 ⟨rfl, rfl⟩)
    all_goals
      go_ret
      refine ⟨ret_int ?_, (by repeat' (first | exact Below.refl _ _ | assumption | with_reducible refine below_dn ?_ _ | with_reducible refine below_al ?_ _ | with_reducible refine Below.drew ?_ | (with_reducible refine below_sc ?_ ?_ _) | (simp; done) | (simp; omega)))⟩
      have hy := HY.out
      have hok := HOK.out
      by_cases ho : 0 < number ∧ (1 ≤ name.length ∧ name.length ≤ 24) ∧ (0 ≤ size ∧ size ≤ 4096) ∧ off = 0 ∧ sum = 0 ∧ (0 ≤ code ∧ code ≤ 255) ∧ code = 0 ∧ bytes.length ≤ 256 ∧ bytes.length = 0
      · have e : okErr ⟨1, number, name, size, off, sum, code, bytes⟩ = 0 := by rw [okErr, if_pos (hok.2 ho)]
        first | exact e.symm | (exfalso; omega)
      · have e : okErr ⟨1, number, name, size, off, sum, code, bytes⟩ = 210 := by rw [okErr, if_neg (fun h => ho (hok.1 h))]
        first | exact e.symm | (exfalso; omega)

end Go.Proofs.Ytmcldnfemlaeiaa
namespace Go.Proofs.Ytmcldnfemlaeiaa
open Go.RowKit K L
set_option linter.unusedVariables false
set_option linter.unusedSimpArgs false

set_option maxRecDepth 100000 in
set_option maxHeartbeats 4000000 in
theorem check_2 (m : Msg) (vb : Value) (w : World) (F : Nat → Prop) (h : Bs w F vb m.bytes) (hk : m.kind = 2) (hl : m.name.length ≤ 1000000000) :
    Calls Try.prog 12 #[.agg (m.cells vb).toArray] w fun e w' => e = .returned (.int .i64 (okErr m)) ∧ Below w.heap.size w w' := by
  obtain ⟨A, c, rfl, l1, l2, -, -⟩ := h.open_
  unfold maxLen at l2
  clear h
  obtain ⟨kind, number, name, size, off, sum, code, bytes⟩ := m
  dsimp only at hk hl l1 ⊢
  subst hk
  unfold Msg.cells
  dsimp only
  go_enter Try.func12, Try.ntmps12
  go_wp2_with (go_at_call 20; refine (fields_is _ 36 rfl _).mono ?_; rintro e w1 ⟨rfl, rfl⟩)
  obtain ⟨hm, hf, hb, hB⟩ := three w (.cells #[.int .i64 2, .int .u32 (number : Nat), .string ⟨name.toArray⟩, .int .i64 size, .int .i64 off, .int .u32 (sum : Nat), .int .i64 code, .slice A bytes.length c] 25) (.cells #[.int .i64 36] 40) (.cells #[.bool (decide (0 < number))] 4)
  generalize (((w.alloc (.cells #[.int .i64 2, .int .u32 (number : Nat), .string ⟨name.toArray⟩, .int .i64 size, .int .i64 off, .int .u32 (sum : Nat), .int .i64 code, .slice A bytes.length c] 25)).alloc (.cells #[.int .i64 36] 40)).alloc (.cells #[.bool (decide (0 < number))] 4)) = w0 at *
  generalize hb0 : decide (0 < number) = b0 at *
  have B0 := Lib.hid hb0
  clear hb0
  refine (plain_heap 36 1 _ b0 (by decide) (by decide) _ _ (by omega) _ _ _ hb hf).mono ?_
  rintro e w1 ⟨rfl, hb', hg⟩
  replace hm := gr_heap hg hm (by omega)
  replace hf := gr_heap hg hf (by omega)
  replace hB := below_gr hB hg (by omega)
  replace hb := hb'
  clear hb' hg
  rw [show fhas 36 1 = false from by decide] at hb
  generalize hbi : (b0 && _) = b1 at hb
  have B1 := Lib.hid hbi
  clear hbi
  have m0 := cell_of hm 0
  have m1 := cell_of hm 1
  have m2 := cell_of hm 2
  have m3 := cell_of hm 3
  have m4 := cell_of hm 4
  have m5 := cell_of hm 5
  have m6 := cell_of hm 6
  have m7 := cell_of hm 7
  have cf := cell_of hf 0
  have cb := cell_of hb 0
  have fb := frozen_of hb 0
  simp at m0 m1 m2 m3 m4 m5 m6 m7 cf cb
  go_wp2_with fail
  clear m0 m1 m2 m3 m4 m5 m6 m7 cf cb fb
  refine (plain_heap 36 2 _ b1 (by decide) (by decide) _ _ (by omega) _ _ _ hb hf).mono ?_
  rintro e w2 ⟨rfl, hb', hg⟩
  replace hm := gr_heap hg hm (by omega)
  replace hf := gr_heap hg hf (by omega)
  replace hB := below_gr hB hg (by omega)
  replace hb := hb'
  clear hb' hg
  rw [show fhas 36 2 = false from by decide] at hb
  generalize hbi : (b1 && _) = b2 at hb
  have B2 := Lib.hid hbi
  clear hbi
  have m0 := cell_of hm 0
  have m1 := cell_of hm 1
  have m2 := cell_of hm 2
  have m3 := cell_of hm 3
  have m4 := cell_of hm 4
  have m5 := cell_of hm 5
  have m6 := cell_of hm 6
  have m7 := cell_of hm 7
  have cf := cell_of hf 0
  have cb := cell_of hb 0
  have fb := frozen_of hb 0
  simp at m0 m1 m2 m3 m4 m5 m6 m7 cf cb
  go_wp2_with fail
  clear m0 m1 m2 m3 m4 m5 m6 m7 cf cb fb
  refine (plain_heap 36 4 _ b2 (by decide) (by decide) _ _ (by omega) _ _ _ hb hf).mono ?_
  rintro e w3 ⟨rfl, hb', hg⟩
  replace hm := gr_heap hg hm (by omega)
  replace hf := gr_heap hg hf (by omega)
  replace hB := below_gr hB hg (by omega)
  replace hb := hb'
  clear hb' hg
  rw [show fhas 36 4 = true from by decide] at hb
  generalize hbi : (b2 && _) = b3 at hb
  have B3 := Lib.hid hbi
  clear hbi
  have m0 := cell_of hm 0
  have m1 := cell_of hm 1
  have m2 := cell_of hm 2
  have m3 := cell_of hm 3
  have m4 := cell_of hm 4
  have m5 := cell_of hm 5
  have m6 := cell_of hm 6
  have m7 := cell_of hm 7
  have cf := cell_of hf 0
  have cb := cell_of hb 0
  have fb := frozen_of hb 0
  simp at m0 m1 m2 m3 m4 m5 m6 m7 cf cb
  go_wp2_with fail
  clear m0 m1 m2 m3 m4 m5 m6 m7 cf cb fb
  refine (plain_heap 36 8 _ b3 (by decide) (by decide) _ _ (by omega) _ _ _ hb hf).mono ?_
  rintro e w4 ⟨rfl, hb', hg⟩
  replace hm := gr_heap hg hm (by omega)
  replace hf := gr_heap hg hf (by omega)
  replace hB := below_gr hB hg (by omega)
  replace hb := hb'
  clear hb' hg
  rw [show fhas 36 8 = false from by decide] at hb
  generalize hbi : (b3 && _) = b4 at hb
  have B4 := Lib.hid hbi
  clear hbi
  have m0 := cell_of hm 0
  have m1 := cell_of hm 1
  have m2 := cell_of hm 2
  have m3 := cell_of hm 3
  have m4 := cell_of hm 4
  have m5 := cell_of hm 5
  have m6 := cell_of hm 6
  have m7 := cell_of hm 7
  have cf := cell_of hf 0
  have cb := cell_of hb 0
  have fb := frozen_of hb 0
  simp at m0 m1 m2 m3 m4 m5 m6 m7 cf cb
  go_wp2_with fail
  clear m0 m1 m2 m3 m4 m5 m6 m7 cf cb fb
  refine (plain_heap 36 16 _ b4 (by decide) (by decide) _ _ (by omega) _ _ _ hb hf).mono ?_
  rintro e w5 ⟨rfl, hb', hg⟩
  replace hm := gr_heap hg hm (by omega)
  replace hf := gr_heap hg hf (by omega)
  replace hB := below_gr hB hg (by omega)
  replace hb := hb'
  clear hb' hg
  rw [show fhas 36 16 = false from by decide] at hb
  generalize hbi : (b4 && _) = b5 at hb
  have B5 := Lib.hid hbi
  clear hbi
  have m0 := cell_of hm 0
  have m1 := cell_of hm 1
  have m2 := cell_of hm 2
  have m3 := cell_of hm 3
  have m4 := cell_of hm 4
  have m5 := cell_of hm 5
  have m6 := cell_of hm 6
  have m7 := cell_of hm 7
  have cf := cell_of hf 0
  have cb := cell_of hb 0
  have fb := frozen_of hb 0
  simp at m0 m1 m2 m3 m4 m5 m6 m7 cf cb
  go_wp2_with fail
  clear m0 m1 m2 m3 m4 m5 m6 m7 cf cb fb
  refine (plain_heap 36 32 _ b5 (by decide) (by decide) _ _ (by omega) _ _ _ hb hf).mono ?_
  rintro e w6 ⟨rfl, hb', hg⟩
  replace hm := gr_heap hg hm (by omega)
  replace hf := gr_heap hg hf (by omega)
  replace hB := below_gr hB hg (by omega)
  replace hb := hb'
  clear hb' hg
  rw [show fhas 36 32 = true from by decide] at hb
  generalize hbi : (b5 && _) = b6 at hb
  have B6 := Lib.hid hbi
  clear hbi
  have m0 := cell_of hm 0
  have m1 := cell_of hm 1
  have m2 := cell_of hm 2
  have m3 := cell_of hm 3
  have m4 := cell_of hm 4
  have m5 := cell_of hm 5
  have m6 := cell_of hm 6
  have m7 := cell_of hm 7
  have cf := cell_of hf 0
  have cb := cell_of hb 0
  have fb := frozen_of hb 0
  simp at m0 m1 m2 m3 m4 m5 m6 m7 cf cb
  have s1 := fun u => sc1 cb u
  have s2 := fun u1 u2 => sc1 (s1 u1) u2
  have s3 := fun u1 u2 u3 => sc1 (s2 u1 u2) u3
  have hP : b6 = true ↔ (0 < number ∧ name.length = 0 ∧ size = 0 ∧ sum = 0 ∧ code = 0) := by
    have e0 := B0.out; have e1 := B1.out; have e2 := B2.out; have e3 := B3.out; have e4 := B4.out; have e5 := B5.out; have e6 := B6.out
    subst e0; subst e1; subst e2; subst e3; subst e4; subst e5; subst e6
    simp only [Bool.and_eq_true, Bool.true_or, Bool.false_or, Bool.and_true, decide_eq_true_eq, beq_iff_eq, isEmpty_len]
    omega
  have hok : Msg.ok ⟨2, number, name, size, off, sum, code, bytes⟩ ↔ (0 < number ∧ name.length = 0 ∧ (0 ≤ size ∧ size ≤ 4096) ∧ size = 0 ∧ sum = 0 ∧ (0 ≤ code ∧ code ≤ 255) ∧ code = 0 ∧ bytes.length ≤ 256 ∧ (1 ≤ bytes.length ∧ 0 ≤ off ∧ off ≤ 4096 - (bytes.length : Int))) := by
    unfold Msg.ok
    simp only [show fldN 2 = false from rfl, show fldS 2 = false from rfl, show fldO 2 = true from rfl, show fldU 2 = false from rfl, show fldC 2 = false from rfl, show fldB 2 = true from rfl, eq_self, forall_const, true_implies, reduceCtorEq, false_implies, true_and, and_true]

    omega
  have HOK := Lib.hid hok
  clear B0 B1 B2 B3 B4 B5 B6 hok
  cases b6 with
  | false =>
    have hn : ¬ (0 < number ∧ name.length = 0 ∧ size = 0 ∧ sum = 0 ∧ code = 0) := fun h => by have := hP.2 h; cases this
    have HN := Lib.hid hn
    clear hP hn
    go_wp2
    go_ret
    exact ⟨ret_int (by rw [okErr, if_neg (fun h => HN.out (by have := HOK.out.1 h; omega))]), (by repeat' (first | exact Below.refl _ _ | assumption | with_reducible refine below_dn ?_ _ | with_reducible refine below_al ?_ _ | with_reducible refine Below.drew ?_ | (with_reducible refine below_sc ?_ ?_ _) | (simp; done) | (simp; omega)))⟩
  | true =>
    have hy := hP.1 rfl
    have HY := Lib.hid hy
    clear hP hy
    go_wp2_with (go_at_call 22; refine (has_any 36 1 (by decide) (by decide) _).mono ?_; rw [show fhas 36 1 = false from by decide]; rintro e w8 ⟨rfl, rfl⟩)
    all_goals
      go_ret
      refine ⟨ret_int ?_, (by repeat' (first | exact Below.refl _ _ | assumption | with_reducible refine below_dn ?_ _ | with_reducible refine below_al ?_ _ | with_reducible refine Below.drew ?_ | (with_reducible refine below_sc ?_ ?_ _) | (simp; done) | (simp; omega)))⟩
      try (rename_i hx; simp only [Bool.not_eq_true', Bool.not_eq_false', decide_eq_true_eq, decide_eq_false_iff_not] at hx)
      have hy := HY.out
      have hok := HOK.out
      by_cases ho : 0 < number ∧ name.length = 0 ∧ (0 ≤ size ∧ size ≤ 4096) ∧ size = 0 ∧ sum = 0 ∧ (0 ≤ code ∧ code ≤ 255) ∧ code = 0 ∧ bytes.length ≤ 256 ∧ (1 ≤ bytes.length ∧ 0 ≤ off ∧ off ≤ 4096 - (bytes.length : Int))
      · have e : okErr ⟨2, number, name, size, off, sum, code, bytes⟩ = 0 := by rw [okErr, if_pos (hok.2 ho)]
        first | exact e.symm | (exfalso; omega)
      · have e : okErr ⟨2, number, name, size, off, sum, code, bytes⟩ = 210 := by rw [okErr, if_neg (fun h => ho (hok.1 h))]
        first | exact e.symm | (exfalso; omega)

end Go.Proofs.Ytmcldnfemlaeiaa
namespace Go.Proofs.Ytmcldnfemlaeiaa
open Go.RowKit K L
set_option linter.unusedVariables false
set_option linter.unusedSimpArgs false

set_option maxRecDepth 100000 in
set_option maxHeartbeats 4000000 in
theorem check_3 (m : Msg) (vb : Value) (w : World) (F : Nat → Prop) (h : Bs w F vb m.bytes) (hk : m.kind = 3) (hl : m.name.length ≤ 1000000000) :
    Calls Try.prog 12 #[.agg (m.cells vb).toArray] w fun e w' => e = .returned (.int .i64 (okErr m)) ∧ Below w.heap.size w w' := by
  obtain ⟨A, c, rfl, l1, l2, -, -⟩ := h.open_
  unfold maxLen at l2
  clear h
  obtain ⟨kind, number, name, size, off, sum, code, bytes⟩ := m
  dsimp only at hk hl l1 ⊢
  subst hk
  unfold Msg.cells
  dsimp only
  go_enter Try.func12, Try.ntmps12
  go_wp2_with (go_at_call 20; refine (fields_is _ 10 rfl _).mono ?_; rintro e w1 ⟨rfl, rfl⟩)
  obtain ⟨hm, hf, hb, hB⟩ := three w (.cells #[.int .i64 3, .int .u32 (number : Nat), .string ⟨name.toArray⟩, .int .i64 size, .int .i64 off, .int .u32 (sum : Nat), .int .i64 code, .slice A bytes.length c] 25) (.cells #[.int .i64 10] 40) (.cells #[.bool (decide (0 < number))] 4)
  generalize (((w.alloc (.cells #[.int .i64 3, .int .u32 (number : Nat), .string ⟨name.toArray⟩, .int .i64 size, .int .i64 off, .int .u32 (sum : Nat), .int .i64 code, .slice A bytes.length c] 25)).alloc (.cells #[.int .i64 10] 40)).alloc (.cells #[.bool (decide (0 < number))] 4)) = w0 at *
  generalize hb0 : decide (0 < number) = b0 at *
  have B0 := Lib.hid hb0
  clear hb0
  refine (plain_heap 10 1 _ b0 (by decide) (by decide) _ _ (by omega) _ _ _ hb hf).mono ?_
  rintro e w1 ⟨rfl, hb', hg⟩
  replace hm := gr_heap hg hm (by omega)
  replace hf := gr_heap hg hf (by omega)
  replace hB := below_gr hB hg (by omega)
  replace hb := hb'
  clear hb' hg
  rw [show fhas 10 1 = false from by decide] at hb
  generalize hbi : (b0 && _) = b1 at hb
  have B1 := Lib.hid hbi
  clear hbi
  have m0 := cell_of hm 0
  have m1 := cell_of hm 1
  have m2 := cell_of hm 2
  have m3 := cell_of hm 3
  have m4 := cell_of hm 4
  have m5 := cell_of hm 5
  have m6 := cell_of hm 6
  have m7 := cell_of hm 7
  have cf := cell_of hf 0
  have cb := cell_of hb 0
  have fb := frozen_of hb 0
  simp at m0 m1 m2 m3 m4 m5 m6 m7 cf cb
  go_wp2_with fail
  clear m0 m1 m2 m3 m4 m5 m6 m7 cf cb fb
  refine (plain_heap 10 2 _ b1 (by decide) (by decide) _ _ (by omega) _ _ _ hb hf).mono ?_
  rintro e w2 ⟨rfl, hb', hg⟩
  replace hm := gr_heap hg hm (by omega)
  replace hf := gr_heap hg hf (by omega)
  replace hB := below_gr hB hg (by omega)
  replace hb := hb'
  clear hb' hg
  rw [show fhas 10 2 = true from by decide] at hb
  generalize hbi : (b1 && _) = b2 at hb
  have B2 := Lib.hid hbi
  clear hbi
  have m0 := cell_of hm 0
  have m1 := cell_of hm 1
  have m2 := cell_of hm 2
  have m3 := cell_of hm 3
  have m4 := cell_of hm 4
  have m5 := cell_of hm 5
  have m6 := cell_of hm 6
  have m7 := cell_of hm 7
  have cf := cell_of hf 0
  have cb := cell_of hb 0
  have fb := frozen_of hb 0
  simp at m0 m1 m2 m3 m4 m5 m6 m7 cf cb
  go_wp2_with fail
  clear m0 m1 m2 m3 m4 m5 m6 m7 cf cb fb
  refine (plain_heap 10 4 _ b2 (by decide) (by decide) _ _ (by omega) _ _ _ hb hf).mono ?_
  rintro e w3 ⟨rfl, hb', hg⟩
  replace hm := gr_heap hg hm (by omega)
  replace hf := gr_heap hg hf (by omega)
  replace hB := below_gr hB hg (by omega)
  replace hb := hb'
  clear hb' hg
  rw [show fhas 10 4 = false from by decide] at hb
  generalize hbi : (b2 && _) = b3 at hb
  have B3 := Lib.hid hbi
  clear hbi
  have m0 := cell_of hm 0
  have m1 := cell_of hm 1
  have m2 := cell_of hm 2
  have m3 := cell_of hm 3
  have m4 := cell_of hm 4
  have m5 := cell_of hm 5
  have m6 := cell_of hm 6
  have m7 := cell_of hm 7
  have cf := cell_of hf 0
  have cb := cell_of hb 0
  have fb := frozen_of hb 0
  simp at m0 m1 m2 m3 m4 m5 m6 m7 cf cb
  go_wp2_with fail
  clear m0 m1 m2 m3 m4 m5 m6 m7 cf cb fb
  refine (plain_heap 10 8 _ b3 (by decide) (by decide) _ _ (by omega) _ _ _ hb hf).mono ?_
  rintro e w4 ⟨rfl, hb', hg⟩
  replace hm := gr_heap hg hm (by omega)
  replace hf := gr_heap hg hf (by omega)
  replace hB := below_gr hB hg (by omega)
  replace hb := hb'
  clear hb' hg
  rw [show fhas 10 8 = true from by decide] at hb
  generalize hbi : (b3 && _) = b4 at hb
  have B4 := Lib.hid hbi
  clear hbi
  have m0 := cell_of hm 0
  have m1 := cell_of hm 1
  have m2 := cell_of hm 2
  have m3 := cell_of hm 3
  have m4 := cell_of hm 4
  have m5 := cell_of hm 5
  have m6 := cell_of hm 6
  have m7 := cell_of hm 7
  have cf := cell_of hf 0
  have cb := cell_of hb 0
  have fb := frozen_of hb 0
  simp at m0 m1 m2 m3 m4 m5 m6 m7 cf cb
  go_wp2_with fail
  clear m0 m1 m2 m3 m4 m5 m6 m7 cf cb fb
  refine (plain_heap 10 16 _ b4 (by decide) (by decide) _ _ (by omega) _ _ _ hb hf).mono ?_
  rintro e w5 ⟨rfl, hb', hg⟩
  replace hm := gr_heap hg hm (by omega)
  replace hf := gr_heap hg hf (by omega)
  replace hB := below_gr hB hg (by omega)
  replace hb := hb'
  clear hb' hg
  rw [show fhas 10 16 = false from by decide] at hb
  generalize hbi : (b4 && _) = b5 at hb
  have B5 := Lib.hid hbi
  clear hbi
  have m0 := cell_of hm 0
  have m1 := cell_of hm 1
  have m2 := cell_of hm 2
  have m3 := cell_of hm 3
  have m4 := cell_of hm 4
  have m5 := cell_of hm 5
  have m6 := cell_of hm 6
  have m7 := cell_of hm 7
  have cf := cell_of hf 0
  have cb := cell_of hb 0
  have fb := frozen_of hb 0
  simp at m0 m1 m2 m3 m4 m5 m6 m7 cf cb
  go_wp2_with fail
  clear m0 m1 m2 m3 m4 m5 m6 m7 cf cb fb
  refine (plain_heap 10 32 _ b5 (by decide) (by decide) _ _ (by omega) _ _ _ hb hf).mono ?_
  rintro e w6 ⟨rfl, hb', hg⟩
  replace hm := gr_heap hg hm (by omega)
  replace hf := gr_heap hg hf (by omega)
  replace hB := below_gr hB hg (by omega)
  replace hb := hb'
  clear hb' hg
  rw [show fhas 10 32 = false from by decide] at hb
  generalize hbi : (b5 && _) = b6 at hb
  have B6 := Lib.hid hbi
  clear hbi
  have m0 := cell_of hm 0
  have m1 := cell_of hm 1
  have m2 := cell_of hm 2
  have m3 := cell_of hm 3
  have m4 := cell_of hm 4
  have m5 := cell_of hm 5
  have m6 := cell_of hm 6
  have m7 := cell_of hm 7
  have cf := cell_of hf 0
  have cb := cell_of hb 0
  have fb := frozen_of hb 0
  simp at m0 m1 m2 m3 m4 m5 m6 m7 cf cb
  have s1 := fun u => sc1 cb u
  have s2 := fun u1 u2 => sc1 (s1 u1) u2
  have s3 := fun u1 u2 u3 => sc1 (s2 u1 u2) u3
  have hP : b6 = true ↔ (0 < number ∧ name.length = 0 ∧ off = 0 ∧ code = 0 ∧ bytes.length = 0) := by
    have e0 := B0.out; have e1 := B1.out; have e2 := B2.out; have e3 := B3.out; have e4 := B4.out; have e5 := B5.out; have e6 := B6.out
    subst e0; subst e1; subst e2; subst e3; subst e4; subst e5; subst e6
    simp only [Bool.and_eq_true, Bool.true_or, Bool.false_or, Bool.and_true, decide_eq_true_eq, beq_iff_eq, isEmpty_len]
    omega
  have hok : Msg.ok ⟨3, number, name, size, off, sum, code, bytes⟩ ↔ (0 < number ∧ name.length = 0 ∧ (0 ≤ size ∧ size ≤ 4096) ∧ off = 0 ∧ (0 ≤ code ∧ code ≤ 255) ∧ code = 0 ∧ bytes.length ≤ 256 ∧ bytes.length = 0) := by
    unfold Msg.ok
    simp only [show fldN 3 = false from rfl, show fldS 3 = true from rfl, show fldO 3 = false from rfl, show fldU 3 = true from rfl, show fldC 3 = false from rfl, show fldB 3 = false from rfl, eq_self, forall_const, true_implies, reduceCtorEq, false_implies, true_and, and_true]

    omega
  have HOK := Lib.hid hok
  clear B0 B1 B2 B3 B4 B5 B6 hok
  cases b6 with
  | false =>
    have hn : ¬ (0 < number ∧ name.length = 0 ∧ off = 0 ∧ code = 0 ∧ bytes.length = 0) := fun h => by have := hP.2 h; cases this
    have HN := Lib.hid hn
    clear hP hn
    go_wp2
    go_ret
    exact ⟨ret_int (by rw [okErr, if_neg (fun h => HN.out (by have := HOK.out.1 h; omega))]), (by repeat' (first | exact Below.refl _ _ | assumption | with_reducible refine below_dn ?_ _ | with_reducible refine below_al ?_ _ | with_reducible refine Below.drew ?_ | (with_reducible refine below_sc ?_ ?_ _) | (simp; done) | (simp; omega)))⟩
  | true =>
    have hy := hP.1 rfl
    have HY := Lib.hid hy
    clear hP hy
    go_wp2_with (go_at_call 22; refine (has_any 10 1 (by decide) (by decide) _).mono ?_; rw [show fhas 10 1 = false from by decide]; rintro e w8 ⟨rfl, rfl⟩)
    all_goals
      go_ret
      refine ⟨ret_int ?_, (by repeat' (first | exact Below.refl _ _ | assumption | with_reducible refine below_dn ?_ _ | with_reducible refine below_al ?_ _ | with_reducible refine Below.drew ?_ | (with_reducible refine below_sc ?_ ?_ _) | (simp; done) | (simp; omega)))⟩
      have hy := HY.out
      have hok := HOK.out
      by_cases ho : 0 < number ∧ name.length = 0 ∧ (0 ≤ size ∧ size ≤ 4096) ∧ off = 0 ∧ (0 ≤ code ∧ code ≤ 255) ∧ code = 0 ∧ bytes.length ≤ 256 ∧ bytes.length = 0
      · have e : okErr ⟨3, number, name, size, off, sum, code, bytes⟩ = 0 := by rw [okErr, if_pos (hok.2 ho)]
        first | exact e.symm | (exfalso; omega)
      · have e : okErr ⟨3, number, name, size, off, sum, code, bytes⟩ = 210 := by rw [okErr, if_neg (fun h => ho (hok.1 h))]
        first | exact e.symm | (exfalso; omega)

end Go.Proofs.Ytmcldnfemlaeiaa
namespace Go.Proofs.Ytmcldnfemlaeiaa
open Go.RowKit K L
set_option linter.unusedVariables false
set_option linter.unusedSimpArgs false

set_option maxRecDepth 100000 in
set_option maxHeartbeats 4000000 in
theorem check_4 (m : Msg) (vb : Value) (w : World) (F : Nat → Prop) (h : Bs w F vb m.bytes) (hk : m.kind = 4) (hl : m.name.length ≤ 1000000000) :
    Calls Try.prog 12 #[.agg (m.cells vb).toArray] w fun e w' => e = .returned (.int .i64 (okErr m)) ∧ Below w.heap.size w w' := by
  obtain ⟨A, c, rfl, l1, l2, -, -⟩ := h.open_
  unfold maxLen at l2
  clear h
  obtain ⟨kind, number, name, size, off, sum, code, bytes⟩ := m
  dsimp only at hk hl l1 ⊢
  subst hk
  unfold Msg.cells
  dsimp only
  go_enter Try.func12, Try.ntmps12
  go_wp2_with (go_at_call 20; refine (fields_is _ 16 rfl _).mono ?_; rintro e w1 ⟨rfl, rfl⟩)
  obtain ⟨hm, hf, hb, hB⟩ := three w (.cells #[.int .i64 4, .int .u32 (number : Nat), .string ⟨name.toArray⟩, .int .i64 size, .int .i64 off, .int .u32 (sum : Nat), .int .i64 code, .slice A bytes.length c] 25) (.cells #[.int .i64 16] 40) (.cells #[.bool (decide (0 < number))] 4)
  generalize (((w.alloc (.cells #[.int .i64 4, .int .u32 (number : Nat), .string ⟨name.toArray⟩, .int .i64 size, .int .i64 off, .int .u32 (sum : Nat), .int .i64 code, .slice A bytes.length c] 25)).alloc (.cells #[.int .i64 16] 40)).alloc (.cells #[.bool (decide (0 < number))] 4)) = w0 at *
  generalize hb0 : decide (0 < number) = b0 at *
  have B0 := Lib.hid hb0
  clear hb0
  refine (plain_heap 16 1 _ b0 (by decide) (by decide) _ _ (by omega) _ _ _ hb hf).mono ?_
  rintro e w1 ⟨rfl, hb', hg⟩
  replace hm := gr_heap hg hm (by omega)
  replace hf := gr_heap hg hf (by omega)
  replace hB := below_gr hB hg (by omega)
  replace hb := hb'
  clear hb' hg
  rw [show fhas 16 1 = false from by decide] at hb
  generalize hbi : (b0 && _) = b1 at hb
  have B1 := Lib.hid hbi
  clear hbi
  have m0 := cell_of hm 0
  have m1 := cell_of hm 1
  have m2 := cell_of hm 2
  have m3 := cell_of hm 3
  have m4 := cell_of hm 4
  have m5 := cell_of hm 5
  have m6 := cell_of hm 6
  have m7 := cell_of hm 7
  have cf := cell_of hf 0
  have cb := cell_of hb 0
  have fb := frozen_of hb 0
  simp at m0 m1 m2 m3 m4 m5 m6 m7 cf cb
  go_wp2_with fail
  clear m0 m1 m2 m3 m4 m5 m6 m7 cf cb fb
  refine (plain_heap 16 2 _ b1 (by decide) (by decide) _ _ (by omega) _ _ _ hb hf).mono ?_
  rintro e w2 ⟨rfl, hb', hg⟩
  replace hm := gr_heap hg hm (by omega)
  replace hf := gr_heap hg hf (by omega)
  replace hB := below_gr hB hg (by omega)
  replace hb := hb'
  clear hb' hg
  rw [show fhas 16 2 = false from by decide] at hb
  generalize hbi : (b1 && _) = b2 at hb
  have B2 := Lib.hid hbi
  clear hbi
  have m0 := cell_of hm 0
  have m1 := cell_of hm 1
  have m2 := cell_of hm 2
  have m3 := cell_of hm 3
  have m4 := cell_of hm 4
  have m5 := cell_of hm 5
  have m6 := cell_of hm 6
  have m7 := cell_of hm 7
  have cf := cell_of hf 0
  have cb := cell_of hb 0
  have fb := frozen_of hb 0
  simp at m0 m1 m2 m3 m4 m5 m6 m7 cf cb
  go_wp2_with fail
  clear m0 m1 m2 m3 m4 m5 m6 m7 cf cb fb
  refine (plain_heap 16 4 _ b2 (by decide) (by decide) _ _ (by omega) _ _ _ hb hf).mono ?_
  rintro e w3 ⟨rfl, hb', hg⟩
  replace hm := gr_heap hg hm (by omega)
  replace hf := gr_heap hg hf (by omega)
  replace hB := below_gr hB hg (by omega)
  replace hb := hb'
  clear hb' hg
  rw [show fhas 16 4 = false from by decide] at hb
  generalize hbi : (b2 && _) = b3 at hb
  have B3 := Lib.hid hbi
  clear hbi
  have m0 := cell_of hm 0
  have m1 := cell_of hm 1
  have m2 := cell_of hm 2
  have m3 := cell_of hm 3
  have m4 := cell_of hm 4
  have m5 := cell_of hm 5
  have m6 := cell_of hm 6
  have m7 := cell_of hm 7
  have cf := cell_of hf 0
  have cb := cell_of hb 0
  have fb := frozen_of hb 0
  simp at m0 m1 m2 m3 m4 m5 m6 m7 cf cb
  go_wp2_with fail
  clear m0 m1 m2 m3 m4 m5 m6 m7 cf cb fb
  refine (plain_heap 16 8 _ b3 (by decide) (by decide) _ _ (by omega) _ _ _ hb hf).mono ?_
  rintro e w4 ⟨rfl, hb', hg⟩
  replace hm := gr_heap hg hm (by omega)
  replace hf := gr_heap hg hf (by omega)
  replace hB := below_gr hB hg (by omega)
  replace hb := hb'
  clear hb' hg
  rw [show fhas 16 8 = false from by decide] at hb
  generalize hbi : (b3 && _) = b4 at hb
  have B4 := Lib.hid hbi
  clear hbi
  have m0 := cell_of hm 0
  have m1 := cell_of hm 1
  have m2 := cell_of hm 2
  have m3 := cell_of hm 3
  have m4 := cell_of hm 4
  have m5 := cell_of hm 5
  have m6 := cell_of hm 6
  have m7 := cell_of hm 7
  have cf := cell_of hf 0
  have cb := cell_of hb 0
  have fb := frozen_of hb 0
  simp at m0 m1 m2 m3 m4 m5 m6 m7 cf cb
  go_wp2_with fail
  clear m0 m1 m2 m3 m4 m5 m6 m7 cf cb fb
  refine (plain_heap 16 16 _ b4 (by decide) (by decide) _ _ (by omega) _ _ _ hb hf).mono ?_
  rintro e w5 ⟨rfl, hb', hg⟩
  replace hm := gr_heap hg hm (by omega)
  replace hf := gr_heap hg hf (by omega)
  replace hB := below_gr hB hg (by omega)
  replace hb := hb'
  clear hb' hg
  rw [show fhas 16 16 = true from by decide] at hb
  generalize hbi : (b4 && _) = b5 at hb
  have B5 := Lib.hid hbi
  clear hbi
  have m0 := cell_of hm 0
  have m1 := cell_of hm 1
  have m2 := cell_of hm 2
  have m3 := cell_of hm 3
  have m4 := cell_of hm 4
  have m5 := cell_of hm 5
  have m6 := cell_of hm 6
  have m7 := cell_of hm 7
  have cf := cell_of hf 0
  have cb := cell_of hb 0
  have fb := frozen_of hb 0
  simp at m0 m1 m2 m3 m4 m5 m6 m7 cf cb
  go_wp2_with fail
  clear m0 m1 m2 m3 m4 m5 m6 m7 cf cb fb
  refine (plain_heap 16 32 _ b5 (by decide) (by decide) _ _ (by omega) _ _ _ hb hf).mono ?_
  rintro e w6 ⟨rfl, hb', hg⟩
  replace hm := gr_heap hg hm (by omega)
  replace hf := gr_heap hg hf (by omega)
  replace hB := below_gr hB hg (by omega)
  replace hb := hb'
  clear hb' hg
  rw [show fhas 16 32 = false from by decide] at hb
  generalize hbi : (b5 && _) = b6 at hb
  have B6 := Lib.hid hbi
  clear hbi
  have m0 := cell_of hm 0
  have m1 := cell_of hm 1
  have m2 := cell_of hm 2
  have m3 := cell_of hm 3
  have m4 := cell_of hm 4
  have m5 := cell_of hm 5
  have m6 := cell_of hm 6
  have m7 := cell_of hm 7
  have cf := cell_of hf 0
  have cb := cell_of hb 0
  have fb := frozen_of hb 0
  simp at m0 m1 m2 m3 m4 m5 m6 m7 cf cb
  have s1 := fun u => sc1 cb u
  have s2 := fun u1 u2 => sc1 (s1 u1) u2
  have s3 := fun u1 u2 u3 => sc1 (s2 u1 u2) u3
  have hP : b6 = true ↔ (0 < number ∧ name.length = 0 ∧ size = 0 ∧ off = 0 ∧ sum = 0 ∧ bytes.length = 0) := by
    have e0 := B0.out; have e1 := B1.out; have e2 := B2.out; have e3 := B3.out; have e4 := B4.out; have e5 := B5.out; have e6 := B6.out
    subst e0; subst e1; subst e2; subst e3; subst e4; subst e5; subst e6
    simp only [Bool.and_eq_true, Bool.true_or, Bool.false_or, Bool.and_true, decide_eq_true_eq, beq_iff_eq, isEmpty_len]
    omega
  have hok : Msg.ok ⟨4, number, name, size, off, sum, code, bytes⟩ ↔ (0 < number ∧ name.length = 0 ∧ (0 ≤ size ∧ size ≤ 4096) ∧ size = 0 ∧ off = 0 ∧ sum = 0 ∧ (0 ≤ code ∧ code ≤ 255) ∧ bytes.length ≤ 256 ∧ bytes.length = 0) := by
    unfold Msg.ok
    simp only [show fldN 4 = false from rfl, show fldS 4 = false from rfl, show fldO 4 = false from rfl, show fldU 4 = false from rfl, show fldC 4 = true from rfl, show fldB 4 = false from rfl, eq_self, forall_const, true_implies, reduceCtorEq, false_implies, true_and, and_true]

    omega
  have HOK := Lib.hid hok
  clear B0 B1 B2 B3 B4 B5 B6 hok
  cases b6 with
  | false =>
    have hn : ¬ (0 < number ∧ name.length = 0 ∧ size = 0 ∧ off = 0 ∧ sum = 0 ∧ bytes.length = 0) := fun h => by have := hP.2 h; cases this
    have HN := Lib.hid hn
    clear hP hn
    go_wp2
    go_ret
    exact ⟨ret_int (by rw [okErr, if_neg (fun h => HN.out (by have := HOK.out.1 h; omega))]), (by repeat' (first | exact Below.refl _ _ | assumption | with_reducible refine below_dn ?_ _ | with_reducible refine below_al ?_ _ | with_reducible refine Below.drew ?_ | (with_reducible refine below_sc ?_ ?_ _) | (simp; done) | (simp; omega)))⟩
  | true =>
    have hy := hP.1 rfl
    have HY := Lib.hid hy
    clear hP hy
    go_wp2_with (go_at_call 22; refine (has_any 16 1 (by decide) (by decide) _).mono ?_; rw [show fhas 16 1 = false from by decide]; rintro e w8 ⟨rfl, rfl⟩)
    all_goals
      go_ret
      refine ⟨ret_int ?_, (by repeat' (first | exact Below.refl _ _ | assumption | with_reducible refine below_dn ?_ _ | with_reducible refine below_al ?_ _ | with_reducible refine Below.drew ?_ | (with_reducible refine below_sc ?_ ?_ _) | (simp; done) | (simp; omega)))⟩
      have hy := HY.out
      have hok := HOK.out
      by_cases ho : 0 < number ∧ name.length = 0 ∧ (0 ≤ size ∧ size ≤ 4096) ∧ size = 0 ∧ off = 0 ∧ sum = 0 ∧ (0 ≤ code ∧ code ≤ 255) ∧ bytes.length ≤ 256 ∧ bytes.length = 0
      · have e : okErr ⟨4, number, name, size, off, sum, code, bytes⟩ = 0 := by rw [okErr, if_pos (hok.2 ho)]
        first | exact e.symm | (exfalso; omega)
      · have e : okErr ⟨4, number, name, size, off, sum, code, bytes⟩ = 210 := by rw [okErr, if_neg (fun h => ho (hok.1 h))]
        first | exact e.symm | (exfalso; omega)

end Go.Proofs.Ytmcldnfemlaeiaa
namespace Go.Proofs.Ytmcldnfemlaeiaa
open Go.RowKit K L
set_option linter.unusedVariables false
set_option linter.unusedSimpArgs false

set_option maxRecDepth 100000 in
set_option maxHeartbeats 4000000 in
theorem check_5 (m : Msg) (vb : Value) (w : World) (F : Nat → Prop) (h : Bs w F vb m.bytes) (hk : m.kind = 5) (hl : m.name.length ≤ 1000000000) :
    Calls Try.prog 12 #[.agg (m.cells vb).toArray] w fun e w' => e = .returned (.int .i64 (okErr m)) ∧ Below w.heap.size w w' := by
  obtain ⟨A, c, rfl, l1, l2, -, -⟩ := h.open_
  unfold maxLen at l2
  clear h
  obtain ⟨kind, number, name, size, off, sum, code, bytes⟩ := m
  dsimp only at hk hl l1 ⊢
  subst hk
  unfold Msg.cells
  dsimp only
  go_enter Try.func12, Try.ntmps12
  go_wp2_with (go_at_call 20; refine (fields_is _ 33 rfl _).mono ?_; rintro e w1 ⟨rfl, rfl⟩)
  obtain ⟨hm, hf, hb, hB⟩ := three w (.cells #[.int .i64 5, .int .u32 (number : Nat), .string ⟨name.toArray⟩, .int .i64 size, .int .i64 off, .int .u32 (sum : Nat), .int .i64 code, .slice A bytes.length c] 25) (.cells #[.int .i64 33] 40) (.cells #[.bool (decide (0 < number))] 4)
  generalize (((w.alloc (.cells #[.int .i64 5, .int .u32 (number : Nat), .string ⟨name.toArray⟩, .int .i64 size, .int .i64 off, .int .u32 (sum : Nat), .int .i64 code, .slice A bytes.length c] 25)).alloc (.cells #[.int .i64 33] 40)).alloc (.cells #[.bool (decide (0 < number))] 4)) = w0 at *
  generalize hb0 : decide (0 < number) = b0 at *
  have B0 := Lib.hid hb0
  clear hb0
  refine (plain_heap 33 1 _ b0 (by decide) (by decide) _ _ (by omega) _ _ _ hb hf).mono ?_
  rintro e w1 ⟨rfl, hb', hg⟩
  replace hm := gr_heap hg hm (by omega)
  replace hf := gr_heap hg hf (by omega)
  replace hB := below_gr hB hg (by omega)
  replace hb := hb'
  clear hb' hg
  rw [show fhas 33 1 = true from by decide] at hb
  generalize hbi : (b0 && _) = b1 at hb
  have B1 := Lib.hid hbi
  clear hbi
  have m0 := cell_of hm 0
  have m1 := cell_of hm 1
  have m2 := cell_of hm 2
  have m3 := cell_of hm 3
  have m4 := cell_of hm 4
  have m5 := cell_of hm 5
  have m6 := cell_of hm 6
  have m7 := cell_of hm 7
  have cf := cell_of hf 0
  have cb := cell_of hb 0
  have fb := frozen_of hb 0
  simp at m0 m1 m2 m3 m4 m5 m6 m7 cf cb
  go_wp2_with fail
  clear m0 m1 m2 m3 m4 m5 m6 m7 cf cb fb
  refine (plain_heap 33 2 _ b1 (by decide) (by decide) _ _ (by omega) _ _ _ hb hf).mono ?_
  rintro e w2 ⟨rfl, hb', hg⟩
  replace hm := gr_heap hg hm (by omega)
  replace hf := gr_heap hg hf (by omega)
  replace hB := below_gr hB hg (by omega)
  replace hb := hb'
  clear hb' hg
  rw [show fhas 33 2 = false from by decide] at hb
  generalize hbi : (b1 && _) = b2 at hb
  have B2 := Lib.hid hbi
  clear hbi
  have m0 := cell_of hm 0
  have m1 := cell_of hm 1
  have m2 := cell_of hm 2
  have m3 := cell_of hm 3
  have m4 := cell_of hm 4
  have m5 := cell_of hm 5
  have m6 := cell_of hm 6
  have m7 := cell_of hm 7
  have cf := cell_of hf 0
  have cb := cell_of hb 0
  have fb := frozen_of hb 0
  simp at m0 m1 m2 m3 m4 m5 m6 m7 cf cb
  go_wp2_with fail
  clear m0 m1 m2 m3 m4 m5 m6 m7 cf cb fb
  refine (plain_heap 33 4 _ b2 (by decide) (by decide) _ _ (by omega) _ _ _ hb hf).mono ?_
  rintro e w3 ⟨rfl, hb', hg⟩
  replace hm := gr_heap hg hm (by omega)
  replace hf := gr_heap hg hf (by omega)
  replace hB := below_gr hB hg (by omega)
  replace hb := hb'
  clear hb' hg
  rw [show fhas 33 4 = false from by decide] at hb
  generalize hbi : (b2 && _) = b3 at hb
  have B3 := Lib.hid hbi
  clear hbi
  have m0 := cell_of hm 0
  have m1 := cell_of hm 1
  have m2 := cell_of hm 2
  have m3 := cell_of hm 3
  have m4 := cell_of hm 4
  have m5 := cell_of hm 5
  have m6 := cell_of hm 6
  have m7 := cell_of hm 7
  have cf := cell_of hf 0
  have cb := cell_of hb 0
  have fb := frozen_of hb 0
  simp at m0 m1 m2 m3 m4 m5 m6 m7 cf cb
  go_wp2_with fail
  clear m0 m1 m2 m3 m4 m5 m6 m7 cf cb fb
  refine (plain_heap 33 8 _ b3 (by decide) (by decide) _ _ (by omega) _ _ _ hb hf).mono ?_
  rintro e w4 ⟨rfl, hb', hg⟩
  replace hm := gr_heap hg hm (by omega)
  replace hf := gr_heap hg hf (by omega)
  replace hB := below_gr hB hg (by omega)
  replace hb := hb'
  clear hb' hg
  rw [show fhas 33 8 = false from by decide] at hb
  generalize hbi : (b3 && _) = b4 at hb
  have B4 := Lib.hid hbi
  clear hbi
  have m0 := cell_of hm 0
  have m1 := cell_of hm 1
  have m2 := cell_of hm 2
  have m3 := cell_of hm 3
  have m4 := cell_of hm 4
  have m5 := cell_of hm 5
  have m6 := cell_of hm 6
  have m7 := cell_of hm 7
  have cf := cell_of hf 0
  have cb := cell_of hb 0
  have fb := frozen_of hb 0
  simp at m0 m1 m2 m3 m4 m5 m6 m7 cf cb
  go_wp2_with fail
  clear m0 m1 m2 m3 m4 m5 m6 m7 cf cb fb
  refine (plain_heap 33 16 _ b4 (by decide) (by decide) _ _ (by omega) _ _ _ hb hf).mono ?_
  rintro e w5 ⟨rfl, hb', hg⟩
  replace hm := gr_heap hg hm (by omega)
  replace hf := gr_heap hg hf (by omega)
  replace hB := below_gr hB hg (by omega)
  replace hb := hb'
  clear hb' hg
  rw [show fhas 33 16 = false from by decide] at hb
  generalize hbi : (b4 && _) = b5 at hb
  have B5 := Lib.hid hbi
  clear hbi
  have m0 := cell_of hm 0
  have m1 := cell_of hm 1
  have m2 := cell_of hm 2
  have m3 := cell_of hm 3
  have m4 := cell_of hm 4
  have m5 := cell_of hm 5
  have m6 := cell_of hm 6
  have m7 := cell_of hm 7
  have cf := cell_of hf 0
  have cb := cell_of hb 0
  have fb := frozen_of hb 0
  simp at m0 m1 m2 m3 m4 m5 m6 m7 cf cb
  go_wp2_with fail
  clear m0 m1 m2 m3 m4 m5 m6 m7 cf cb fb
  refine (plain_heap 33 32 _ b5 (by decide) (by decide) _ _ (by omega) _ _ _ hb hf).mono ?_
  rintro e w6 ⟨rfl, hb', hg⟩
  replace hm := gr_heap hg hm (by omega)
  replace hf := gr_heap hg hf (by omega)
  replace hB := below_gr hB hg (by omega)
  replace hb := hb'
  clear hb' hg
  rw [show fhas 33 32 = true from by decide] at hb
  generalize hbi : (b5 && _) = b6 at hb
  have B6 := Lib.hid hbi
  clear hbi
  have m0 := cell_of hm 0
  have m1 := cell_of hm 1
  have m2 := cell_of hm 2
  have m3 := cell_of hm 3
  have m4 := cell_of hm 4
  have m5 := cell_of hm 5
  have m6 := cell_of hm 6
  have m7 := cell_of hm 7
  have cf := cell_of hf 0
  have cb := cell_of hb 0
  have fb := frozen_of hb 0
  simp at m0 m1 m2 m3 m4 m5 m6 m7 cf cb
  have s1 := fun u => sc1 cb u
  have s2 := fun u1 u2 => sc1 (s1 u1) u2
  have s3 := fun u1 u2 u3 => sc1 (s2 u1 u2) u3
  have hP : b6 = true ↔ (0 < number ∧ size = 0 ∧ off = 0 ∧ sum = 0 ∧ code = 0) := by
    have e0 := B0.out; have e1 := B1.out; have e2 := B2.out; have e3 := B3.out; have e4 := B4.out; have e5 := B5.out; have e6 := B6.out
    subst e0; subst e1; subst e2; subst e3; subst e4; subst e5; subst e6
    simp only [Bool.and_eq_true, Bool.true_or, Bool.false_or, Bool.and_true, decide_eq_true_eq, beq_iff_eq, isEmpty_len]
    omega
  have hok : Msg.ok ⟨5, number, name, size, off, sum, code, bytes⟩ ↔ (0 < number ∧ (1 ≤ name.length ∧ name.length ≤ 24) ∧ (0 ≤ size ∧ size ≤ 4096) ∧ size = 0 ∧ off = 0 ∧ sum = 0 ∧ (0 ≤ code ∧ code ≤ 255) ∧ code = 0 ∧ bytes.length ≤ 256) := by
    unfold Msg.ok
    simp only [show fldN 5 = true from rfl, show fldS 5 = false from rfl, show fldO 5 = false from rfl, show fldU 5 = false from rfl, show fldC 5 = false from rfl, show fldB 5 = true from rfl, eq_self, forall_const, true_implies, reduceCtorEq, false_implies, true_and, and_true]

    omega
  have HOK := Lib.hid hok
  clear B0 B1 B2 B3 B4 B5 B6 hok
  cases b6 with
  | false =>
    have hn : ¬ (0 < number ∧ size = 0 ∧ off = 0 ∧ sum = 0 ∧ code = 0) := fun h => by have := hP.2 h; cases this
    have HN := Lib.hid hn
    clear hP hn
    go_wp2
    go_ret
    exact ⟨ret_int (by rw [okErr, if_neg (fun h => HN.out (by have := HOK.out.1 h; omega))]), (by repeat' (first | exact Below.refl _ _ | assumption | with_reducible refine below_dn ?_ _ | with_reducible refine below_al ?_ _ | with_reducible refine Below.drew ?_ | (with_reducible refine below_sc ?_ ?_ _) | (simp; done) | (simp; omega)))⟩
  | true =>
    have hy := hP.1 rfl
    have HY := Lib.hid hy
    clear hP hy
    go_wp2_with (go_at_call 22; refine (has_any 33 1 (by decide) (by decide) _).mono ?_; rw [show fhas 33 1 = true from by decide]; rintro e w8 ⟨rfl, rfl⟩)
    all_goals
      go_ret
      refine ⟨ret_int ?_, (by repeat' (first | exact Below.refl _ _ | assumption | with_reducible refine below_dn ?_ _ | with_reducible refine below_al ?_ _ | with_reducible refine Below.drew ?_ | (with_reducible refine below_sc ?_ ?_ _) | (simp; done) | (simp; omega)))⟩
      have hy := HY.out
      have hok := HOK.out
      by_cases ho : 0 < number ∧ (1 ≤ name.length ∧ name.length ≤ 24) ∧ (0 ≤ size ∧ size ≤ 4096) ∧ size = 0 ∧ off = 0 ∧ sum = 0 ∧ (0 ≤ code ∧ code ≤ 255) ∧ code = 0 ∧ bytes.length ≤ 256
      · have e : okErr ⟨5, number, name, size, off, sum, code, bytes⟩ = 0 := by rw [okErr, if_pos (hok.2 ho)]
        first | exact e.symm | (exfalso; omega)
      · have e : okErr ⟨5, number, name, size, off, sum, code, bytes⟩ = 210 := by rw [okErr, if_neg (fun h => ho (hok.1 h))]
        first | exact e.symm | (exfalso; omega)

end Go.Proofs.Ytmcldnfemlaeiaa
namespace Go.Proofs.Ytmcldnfemlaeiaa
open Go.RowKit K L
set_option linter.unusedVariables false
set_option linter.unusedSimpArgs false

set_option maxRecDepth 100000 in
set_option maxHeartbeats 4000000 in
theorem check_6 (m : Msg) (vb : Value) (w : World) (F : Nat → Prop) (h : Bs w F vb m.bytes) (hk : m.kind = 6) (hl : m.name.length ≤ 1000000000) :
    Calls Try.prog 12 #[.agg (m.cells vb).toArray] w fun e w' => e = .returned (.int .i64 (okErr m)) ∧ Below w.heap.size w w' := by
  obtain ⟨A, c, rfl, l1, l2, -, -⟩ := h.open_
  unfold maxLen at l2
  clear h
  obtain ⟨kind, number, name, size, off, sum, code, bytes⟩ := m
  dsimp only at hk hl l1 ⊢
  subst hk
  unfold Msg.cells
  dsimp only
  go_enter Try.func12, Try.ntmps12
  go_wp2_with (go_at_call 20; refine (fields_is _ 1 rfl _).mono ?_; rintro e w1 ⟨rfl, rfl⟩)
  obtain ⟨hm, hf, hb, hB⟩ := three w (.cells #[.int .i64 6, .int .u32 (number : Nat), .string ⟨name.toArray⟩, .int .i64 size, .int .i64 off, .int .u32 (sum : Nat), .int .i64 code, .slice A bytes.length c] 25) (.cells #[.int .i64 1] 40) (.cells #[.bool (decide (0 < number))] 4)
  generalize (((w.alloc (.cells #[.int .i64 6, .int .u32 (number : Nat), .string ⟨name.toArray⟩, .int .i64 size, .int .i64 off, .int .u32 (sum : Nat), .int .i64 code, .slice A bytes.length c] 25)).alloc (.cells #[.int .i64 1] 40)).alloc (.cells #[.bool (decide (0 < number))] 4)) = w0 at *
  generalize hb0 : decide (0 < number) = b0 at *
  have B0 := Lib.hid hb0
  clear hb0
  refine (plain_heap 1 1 _ b0 (by decide) (by decide) _ _ (by omega) _ _ _ hb hf).mono ?_
  rintro e w1 ⟨rfl, hb', hg⟩
  replace hm := gr_heap hg hm (by omega)
  replace hf := gr_heap hg hf (by omega)
  replace hB := below_gr hB hg (by omega)
  replace hb := hb'
  clear hb' hg
  rw [show fhas 1 1 = true from by decide] at hb
  generalize hbi : (b0 && _) = b1 at hb
  have B1 := Lib.hid hbi
  clear hbi
  have m0 := cell_of hm 0
  have m1 := cell_of hm 1
  have m2 := cell_of hm 2
  have m3 := cell_of hm 3
  have m4 := cell_of hm 4
  have m5 := cell_of hm 5
  have m6 := cell_of hm 6
  have m7 := cell_of hm 7
  have cf := cell_of hf 0
  have cb := cell_of hb 0
  have fb := frozen_of hb 0
  simp at m0 m1 m2 m3 m4 m5 m6 m7 cf cb
  go_wp2_with fail
  clear m0 m1 m2 m3 m4 m5 m6 m7 cf cb fb
  refine (plain_heap 1 2 _ b1 (by decide) (by decide) _ _ (by omega) _ _ _ hb hf).mono ?_
  rintro e w2 ⟨rfl, hb', hg⟩
  replace hm := gr_heap hg hm (by omega)
  replace hf := gr_heap hg hf (by omega)
  replace hB := below_gr hB hg (by omega)
  replace hb := hb'
  clear hb' hg
  rw [show fhas 1 2 = false from by decide] at hb
  generalize hbi : (b1 && _) = b2 at hb
  have B2 := Lib.hid hbi
  clear hbi
  have m0 := cell_of hm 0
  have m1 := cell_of hm 1
  have m2 := cell_of hm 2
  have m3 := cell_of hm 3
  have m4 := cell_of hm 4
  have m5 := cell_of hm 5
  have m6 := cell_of hm 6
  have m7 := cell_of hm 7
  have cf := cell_of hf 0
  have cb := cell_of hb 0
  have fb := frozen_of hb 0
  simp at m0 m1 m2 m3 m4 m5 m6 m7 cf cb
  go_wp2_with fail
  clear m0 m1 m2 m3 m4 m5 m6 m7 cf cb fb
  refine (plain_heap 1 4 _ b2 (by decide) (by decide) _ _ (by omega) _ _ _ hb hf).mono ?_
  rintro e w3 ⟨rfl, hb', hg⟩
  replace hm := gr_heap hg hm (by omega)
  replace hf := gr_heap hg hf (by omega)
  replace hB := below_gr hB hg (by omega)
  replace hb := hb'
  clear hb' hg
  rw [show fhas 1 4 = false from by decide] at hb
  generalize hbi : (b2 && _) = b3 at hb
  have B3 := Lib.hid hbi
  clear hbi
  have m0 := cell_of hm 0
  have m1 := cell_of hm 1
  have m2 := cell_of hm 2
  have m3 := cell_of hm 3
  have m4 := cell_of hm 4
  have m5 := cell_of hm 5
  have m6 := cell_of hm 6
  have m7 := cell_of hm 7
  have cf := cell_of hf 0
  have cb := cell_of hb 0
  have fb := frozen_of hb 0
  simp at m0 m1 m2 m3 m4 m5 m6 m7 cf cb
  go_wp2_with fail
  clear m0 m1 m2 m3 m4 m5 m6 m7 cf cb fb
  refine (plain_heap 1 8 _ b3 (by decide) (by decide) _ _ (by omega) _ _ _ hb hf).mono ?_
  rintro e w4 ⟨rfl, hb', hg⟩
  replace hm := gr_heap hg hm (by omega)
  replace hf := gr_heap hg hf (by omega)
  replace hB := below_gr hB hg (by omega)
  replace hb := hb'
  clear hb' hg
  rw [show fhas 1 8 = false from by decide] at hb
  generalize hbi : (b3 && _) = b4 at hb
  have B4 := Lib.hid hbi
  clear hbi
  have m0 := cell_of hm 0
  have m1 := cell_of hm 1
  have m2 := cell_of hm 2
  have m3 := cell_of hm 3
  have m4 := cell_of hm 4
  have m5 := cell_of hm 5
  have m6 := cell_of hm 6
  have m7 := cell_of hm 7
  have cf := cell_of hf 0
  have cb := cell_of hb 0
  have fb := frozen_of hb 0
  simp at m0 m1 m2 m3 m4 m5 m6 m7 cf cb
  go_wp2_with fail
  clear m0 m1 m2 m3 m4 m5 m6 m7 cf cb fb
  refine (plain_heap 1 16 _ b4 (by decide) (by decide) _ _ (by omega) _ _ _ hb hf).mono ?_
  rintro e w5 ⟨rfl, hb', hg⟩
  replace hm := gr_heap hg hm (by omega)
  replace hf := gr_heap hg hf (by omega)
  replace hB := below_gr hB hg (by omega)
  replace hb := hb'
  clear hb' hg
  rw [show fhas 1 16 = false from by decide] at hb
  generalize hbi : (b4 && _) = b5 at hb
  have B5 := Lib.hid hbi
  clear hbi
  have m0 := cell_of hm 0
  have m1 := cell_of hm 1
  have m2 := cell_of hm 2
  have m3 := cell_of hm 3
  have m4 := cell_of hm 4
  have m5 := cell_of hm 5
  have m6 := cell_of hm 6
  have m7 := cell_of hm 7
  have cf := cell_of hf 0
  have cb := cell_of hb 0
  have fb := frozen_of hb 0
  simp at m0 m1 m2 m3 m4 m5 m6 m7 cf cb
  go_wp2_with fail
  clear m0 m1 m2 m3 m4 m5 m6 m7 cf cb fb
  refine (plain_heap 1 32 _ b5 (by decide) (by decide) _ _ (by omega) _ _ _ hb hf).mono ?_
  rintro e w6 ⟨rfl, hb', hg⟩
  replace hm := gr_heap hg hm (by omega)
  replace hf := gr_heap hg hf (by omega)
  replace hB := below_gr hB hg (by omega)
  replace hb := hb'
  clear hb' hg
  rw [show fhas 1 32 = false from by decide] at hb
  generalize hbi : (b5 && _) = b6 at hb
  have B6 := Lib.hid hbi
  clear hbi
  have m0 := cell_of hm 0
  have m1 := cell_of hm 1
  have m2 := cell_of hm 2
  have m3 := cell_of hm 3
  have m4 := cell_of hm 4
  have m5 := cell_of hm 5
  have m6 := cell_of hm 6
  have m7 := cell_of hm 7
  have cf := cell_of hf 0
  have cb := cell_of hb 0
  have fb := frozen_of hb 0
  simp at m0 m1 m2 m3 m4 m5 m6 m7 cf cb
  have s1 := fun u => sc1 cb u
  have s2 := fun u1 u2 => sc1 (s1 u1) u2
  have s3 := fun u1 u2 u3 => sc1 (s2 u1 u2) u3
  have hP : b6 = true ↔ (0 < number ∧ size = 0 ∧ off = 0 ∧ sum = 0 ∧ code = 0 ∧ bytes.length = 0) := by
    have e0 := B0.out; have e1 := B1.out; have e2 := B2.out; have e3 := B3.out; have e4 := B4.out; have e5 := B5.out; have e6 := B6.out
    subst e0; subst e1; subst e2; subst e3; subst e4; subst e5; subst e6
    simp only [Bool.and_eq_true, Bool.true_or, Bool.false_or, Bool.and_true, decide_eq_true_eq, beq_iff_eq, isEmpty_len]
    omega
  have hok : Msg.ok ⟨6, number, name, size, off, sum, code, bytes⟩ ↔ (0 < number ∧ (1 ≤ name.length ∧ name.length ≤ 24) ∧ (0 ≤ size ∧ size ≤ 4096) ∧ size = 0 ∧ off = 0 ∧ sum = 0 ∧ (0 ≤ code ∧ code ≤ 255) ∧ code = 0 ∧ bytes.length ≤ 256 ∧ bytes.length = 0) := by
    unfold Msg.ok
    simp only [show fldN 6 = true from rfl, show fldS 6 = false from rfl, show fldO 6 = false from rfl, show fldU 6 = false from rfl, show fldC 6 = false from rfl, show fldB 6 = false from rfl, eq_self, forall_const, true_implies, reduceCtorEq, false_implies, true_and, and_true]

    omega
  have HOK := Lib.hid hok
  clear B0 B1 B2 B3 B4 B5 B6 hok
  cases b6 with
  | false =>
    have hn : ¬ (0 < number ∧ size = 0 ∧ off = 0 ∧ sum = 0 ∧ code = 0 ∧ bytes.length = 0) := fun h => by have := hP.2 h; cases this
    have HN := Lib.hid hn
    clear hP hn
    go_wp2
    go_ret
    exact ⟨ret_int (by rw [okErr, if_neg (fun h => HN.out (by have := HOK.out.1 h; omega))]), (by repeat' (first | exact Below.refl _ _ | assumption | with_reducible refine below_dn ?_ _ | with_reducible refine below_al ?_ _ | with_reducible refine Below.drew ?_ | (with_reducible refine below_sc ?_ ?_ _) | (simp; done) | (simp; omega)))⟩
  | true =>
    have hy := hP.1 rfl
    have HY := Lib.hid hy
    clear hP hy
    go_wp2_with (go_at_call 22; refine (has_any 1 1 (by decide) (by decide) _).mono ?_; rw [show fhas 1 1 = true from by decide]; rintro e w8 ⟨rfl, rfl⟩)
    all_goals
      go_ret
      refine ⟨ret_int ?_, (by repeat' (first | exact Below.refl _ _ | assumption | with_reducible refine below_dn ?_ _ | with_reducible refine below_al ?_ _ | with_reducible refine Below.drew ?_ | (with_reducible refine below_sc ?_ ?_ _) | (simp; done) | (simp; omega)))⟩
      have hy := HY.out
      have hok := HOK.out
      by_cases ho : 0 < number ∧ (1 ≤ name.length ∧ name.length ≤ 24) ∧ (0 ≤ size ∧ size ≤ 4096) ∧ size = 0 ∧ off = 0 ∧ sum = 0 ∧ (0 ≤ code ∧ code ≤ 255) ∧ code = 0 ∧ bytes.length ≤ 256 ∧ bytes.length = 0
      · have e : okErr ⟨6, number, name, size, off, sum, code, bytes⟩ = 0 := by rw [okErr, if_pos (hok.2 ho)]
        first | exact e.symm | (exfalso; omega)
      · have e : okErr ⟨6, number, name, size, off, sum, code, bytes⟩ = 210 := by rw [okErr, if_neg (fun h => ho (hok.1 h))]
        first | exact e.symm | (exfalso; omega)

end Go.Proofs.Ytmcldnfemlaeiaa
namespace Go.Proofs.Ytmcldnfemlaeiaa
open Go.RowKit K L
set_option linter.unusedVariables false
set_option linter.unusedSimpArgs false

set_option maxRecDepth 100000 in
set_option maxHeartbeats 4000000 in
theorem check_7 (m : Msg) (vb : Value) (w : World) (F : Nat → Prop) (h : Bs w F vb m.bytes) (hk : m.kind = 7) (hl : m.name.length ≤ 1000000000) :
    Calls Try.prog 12 #[.agg (m.cells vb).toArray] w fun e w' => e = .returned (.int .i64 (okErr m)) ∧ Below w.heap.size w w' := by
  obtain ⟨A, c, rfl, l1, l2, -, -⟩ := h.open_
  unfold maxLen at l2
  clear h
  obtain ⟨kind, number, name, size, off, sum, code, bytes⟩ := m
  dsimp only at hk hl l1 ⊢
  subst hk
  unfold Msg.cells
  dsimp only
  go_enter Try.func12, Try.ntmps12
  go_wp2_with (go_at_call 20; refine (fields_is _ 32 rfl _).mono ?_; rintro e w1 ⟨rfl, rfl⟩)
  obtain ⟨hm, hf, hb, hB⟩ := three w (.cells #[.int .i64 7, .int .u32 (number : Nat), .string ⟨name.toArray⟩, .int .i64 size, .int .i64 off, .int .u32 (sum : Nat), .int .i64 code, .slice A bytes.length c] 25) (.cells #[.int .i64 32] 40) (.cells #[.bool (decide (0 < number))] 4)
  generalize (((w.alloc (.cells #[.int .i64 7, .int .u32 (number : Nat), .string ⟨name.toArray⟩, .int .i64 size, .int .i64 off, .int .u32 (sum : Nat), .int .i64 code, .slice A bytes.length c] 25)).alloc (.cells #[.int .i64 32] 40)).alloc (.cells #[.bool (decide (0 < number))] 4)) = w0 at *
  generalize hb0 : decide (0 < number) = b0 at *
  have B0 := Lib.hid hb0
  clear hb0
  refine (plain_heap 32 1 _ b0 (by decide) (by decide) _ _ (by omega) _ _ _ hb hf).mono ?_
  rintro e w1 ⟨rfl, hb', hg⟩
  replace hm := gr_heap hg hm (by omega)
  replace hf := gr_heap hg hf (by omega)
  replace hB := below_gr hB hg (by omega)
  replace hb := hb'
  clear hb' hg
  rw [show fhas 32 1 = false from by decide] at hb
  generalize hbi : (b0 && _) = b1 at hb
  have B1 := Lib.hid hbi
  clear hbi
  have m0 := cell_of hm 0
  have m1 := cell_of hm 1
  have m2 := cell_of hm 2
  have m3 := cell_of hm 3
  have m4 := cell_of hm 4
  have m5 := cell_of hm 5
  have m6 := cell_of hm 6
  have m7 := cell_of hm 7
  have cf := cell_of hf 0
  have cb := cell_of hb 0
  have fb := frozen_of hb 0
  simp at m0 m1 m2 m3 m4 m5 m6 m7 cf cb
  go_wp2_with fail
  clear m0 m1 m2 m3 m4 m5 m6 m7 cf cb fb
  refine (plain_heap 32 2 _ b1 (by decide) (by decide) _ _ (by omega) _ _ _ hb hf).mono ?_
  rintro e w2 ⟨rfl, hb', hg⟩
  replace hm := gr_heap hg hm (by omega)
  replace hf := gr_heap hg hf (by omega)
  replace hB := below_gr hB hg (by omega)
  replace hb := hb'
  clear hb' hg
  rw [show fhas 32 2 = false from by decide] at hb
  generalize hbi : (b1 && _) = b2 at hb
  have B2 := Lib.hid hbi
  clear hbi
  have m0 := cell_of hm 0
  have m1 := cell_of hm 1
  have m2 := cell_of hm 2
  have m3 := cell_of hm 3
  have m4 := cell_of hm 4
  have m5 := cell_of hm 5
  have m6 := cell_of hm 6
  have m7 := cell_of hm 7
  have cf := cell_of hf 0
  have cb := cell_of hb 0
  have fb := frozen_of hb 0
  simp at m0 m1 m2 m3 m4 m5 m6 m7 cf cb
  go_wp2_with fail
  clear m0 m1 m2 m3 m4 m5 m6 m7 cf cb fb
  refine (plain_heap 32 4 _ b2 (by decide) (by decide) _ _ (by omega) _ _ _ hb hf).mono ?_
  rintro e w3 ⟨rfl, hb', hg⟩
  replace hm := gr_heap hg hm (by omega)
  replace hf := gr_heap hg hf (by omega)
  replace hB := below_gr hB hg (by omega)
  replace hb := hb'
  clear hb' hg
  rw [show fhas 32 4 = false from by decide] at hb
  generalize hbi : (b2 && _) = b3 at hb
  have B3 := Lib.hid hbi
  clear hbi
  have m0 := cell_of hm 0
  have m1 := cell_of hm 1
  have m2 := cell_of hm 2
  have m3 := cell_of hm 3
  have m4 := cell_of hm 4
  have m5 := cell_of hm 5
  have m6 := cell_of hm 6
  have m7 := cell_of hm 7
  have cf := cell_of hf 0
  have cb := cell_of hb 0
  have fb := frozen_of hb 0
  simp at m0 m1 m2 m3 m4 m5 m6 m7 cf cb
  go_wp2_with fail
  clear m0 m1 m2 m3 m4 m5 m6 m7 cf cb fb
  refine (plain_heap 32 8 _ b3 (by decide) (by decide) _ _ (by omega) _ _ _ hb hf).mono ?_
  rintro e w4 ⟨rfl, hb', hg⟩
  replace hm := gr_heap hg hm (by omega)
  replace hf := gr_heap hg hf (by omega)
  replace hB := below_gr hB hg (by omega)
  replace hb := hb'
  clear hb' hg
  rw [show fhas 32 8 = false from by decide] at hb
  generalize hbi : (b3 && _) = b4 at hb
  have B4 := Lib.hid hbi
  clear hbi
  have m0 := cell_of hm 0
  have m1 := cell_of hm 1
  have m2 := cell_of hm 2
  have m3 := cell_of hm 3
  have m4 := cell_of hm 4
  have m5 := cell_of hm 5
  have m6 := cell_of hm 6
  have m7 := cell_of hm 7
  have cf := cell_of hf 0
  have cb := cell_of hb 0
  have fb := frozen_of hb 0
  simp at m0 m1 m2 m3 m4 m5 m6 m7 cf cb
  go_wp2_with fail
  clear m0 m1 m2 m3 m4 m5 m6 m7 cf cb fb
  refine (plain_heap 32 16 _ b4 (by decide) (by decide) _ _ (by omega) _ _ _ hb hf).mono ?_
  rintro e w5 ⟨rfl, hb', hg⟩
  replace hm := gr_heap hg hm (by omega)
  replace hf := gr_heap hg hf (by omega)
  replace hB := below_gr hB hg (by omega)
  replace hb := hb'
  clear hb' hg
  rw [show fhas 32 16 = false from by decide] at hb
  generalize hbi : (b4 && _) = b5 at hb
  have B5 := Lib.hid hbi
  clear hbi
  have m0 := cell_of hm 0
  have m1 := cell_of hm 1
  have m2 := cell_of hm 2
  have m3 := cell_of hm 3
  have m4 := cell_of hm 4
  have m5 := cell_of hm 5
  have m6 := cell_of hm 6
  have m7 := cell_of hm 7
  have cf := cell_of hf 0
  have cb := cell_of hb 0
  have fb := frozen_of hb 0
  simp at m0 m1 m2 m3 m4 m5 m6 m7 cf cb
  go_wp2_with fail
  clear m0 m1 m2 m3 m4 m5 m6 m7 cf cb fb
  refine (plain_heap 32 32 _ b5 (by decide) (by decide) _ _ (by omega) _ _ _ hb hf).mono ?_
  rintro e w6 ⟨rfl, hb', hg⟩
  replace hm := gr_heap hg hm (by omega)
  replace hf := gr_heap hg hf (by omega)
  replace hB := below_gr hB hg (by omega)
  replace hb := hb'
  clear hb' hg
  rw [show fhas 32 32 = true from by decide] at hb
  generalize hbi : (b5 && _) = b6 at hb
  have B6 := Lib.hid hbi
  clear hbi
  have m0 := cell_of hm 0
  have m1 := cell_of hm 1
  have m2 := cell_of hm 2
  have m3 := cell_of hm 3
  have m4 := cell_of hm 4
  have m5 := cell_of hm 5
  have m6 := cell_of hm 6
  have m7 := cell_of hm 7
  have cf := cell_of hf 0
  have cb := cell_of hb 0
  have fb := frozen_of hb 0
  simp at m0 m1 m2 m3 m4 m5 m6 m7 cf cb
  have s1 := fun u => sc1 cb u
  have s2 := fun u1 u2 => sc1 (s1 u1) u2
  have s3 := fun u1 u2 u3 => sc1 (s2 u1 u2) u3
  have hP : b6 = true ↔ (0 < number ∧ name.length = 0 ∧ size = 0 ∧ off = 0 ∧ sum = 0 ∧ code = 0) := by
    have e0 := B0.out; have e1 := B1.out; have e2 := B2.out; have e3 := B3.out; have e4 := B4.out; have e5 := B5.out; have e6 := B6.out
    subst e0; subst e1; subst e2; subst e3; subst e4; subst e5; subst e6
    simp only [Bool.and_eq_true, Bool.true_or, Bool.false_or, Bool.and_true, decide_eq_true_eq, beq_iff_eq, isEmpty_len]
    omega
  have hok : Msg.ok ⟨7, number, name, size, off, sum, code, bytes⟩ ↔ (0 < number ∧ name.length = 0 ∧ (0 ≤ size ∧ size ≤ 4096) ∧ size = 0 ∧ off = 0 ∧ sum = 0 ∧ (0 ≤ code ∧ code ≤ 255) ∧ code = 0 ∧ bytes.length ≤ 256) := by
    unfold Msg.ok
    simp only [show fldN 7 = false from rfl, show fldS 7 = false from rfl, show fldO 7 = false from rfl, show fldU 7 = false from rfl, show fldC 7 = false from rfl, show fldB 7 = true from rfl, eq_self, forall_const, true_implies, reduceCtorEq, false_implies, true_and, and_true]

    omega
  have HOK := Lib.hid hok
  clear B0 B1 B2 B3 B4 B5 B6 hok
  cases b6 with
  | false =>
    have hn : ¬ (0 < number ∧ name.length = 0 ∧ size = 0 ∧ off = 0 ∧ sum = 0 ∧ code = 0) := fun h => by have := hP.2 h; cases this
    have HN := Lib.hid hn
    clear hP hn
    go_wp2
    go_ret
    exact ⟨ret_int (by rw [okErr, if_neg (fun h => HN.out (by have := HOK.out.1 h; omega))]), (by repeat' (first | exact Below.refl _ _ | assumption | with_reducible refine below_dn ?_ _ | with_reducible refine below_al ?_ _ | with_reducible refine Below.drew ?_ | (with_reducible refine below_sc ?_ ?_ _) | (simp; done) | (simp; omega)))⟩
  | true =>
    have hy := hP.1 rfl
    have HY := Lib.hid hy
    clear hP hy
    go_wp2_with (go_at_call 22; refine (has_any 32 1 (by decide) (by decide) _).mono ?_; rw [show fhas 32 1 = false from by decide]; rintro e w8 ⟨rfl, rfl⟩)
    all_goals
      go_ret
      refine ⟨ret_int ?_, (by repeat' (first | exact Below.refl _ _ | assumption | with_reducible refine below_dn ?_ _ | with_reducible refine below_al ?_ _ | with_reducible refine Below.drew ?_ | (with_reducible refine below_sc ?_ ?_ _) | (simp; done) | (simp; omega)))⟩
      have hy := HY.out
      have hok := HOK.out
      by_cases ho : 0 < number ∧ name.length = 0 ∧ (0 ≤ size ∧ size ≤ 4096) ∧ size = 0 ∧ off = 0 ∧ sum = 0 ∧ (0 ≤ code ∧ code ≤ 255) ∧ code = 0 ∧ bytes.length ≤ 256
      · have e : okErr ⟨7, number, name, size, off, sum, code, bytes⟩ = 0 := by rw [okErr, if_pos (hok.2 ho)]
        first | exact e.symm | (exfalso; omega)
      · have e : okErr ⟨7, number, name, size, off, sum, code, bytes⟩ = 210 := by rw [okErr, if_neg (fun h => ho (hok.1 h))]
        first | exact e.symm | (exfalso; omega)

end Go.Proofs.Ytmcldnfemlaeiaa
namespace Go.Proofs.Ytmcldnfemlaeiaa
open Go.RowKit K L
set_option linter.unusedVariables false
set_option linter.unusedSimpArgs false

set_option maxRecDepth 100000 in
set_option maxHeartbeats 4000000 in
theorem check_8 (m : Msg) (vb : Value) (w : World) (F : Nat → Prop) (h : Bs w F vb m.bytes) (hk : m.kind = 8) (hl : m.name.length ≤ 1000000000) :
    Calls Try.prog 12 #[.agg (m.cells vb).toArray] w fun e w' => e = .returned (.int .i64 (okErr m)) ∧ Below w.heap.size w w' := by
  obtain ⟨A, c, rfl, l1, l2, -, -⟩ := h.open_
  unfold maxLen at l2
  clear h
  obtain ⟨kind, number, name, size, off, sum, code, bytes⟩ := m
  dsimp only at hk hl l1 ⊢
  subst hk
  unfold Msg.cells
  dsimp only
  go_enter Try.func12, Try.ntmps12
  go_wp2_with (go_at_call 20; refine (fields_is _ 48 rfl _).mono ?_; rintro e w1 ⟨rfl, rfl⟩)
  obtain ⟨hm, hf, hb, hB⟩ := three w (.cells #[.int .i64 8, .int .u32 (number : Nat), .string ⟨name.toArray⟩, .int .i64 size, .int .i64 off, .int .u32 (sum : Nat), .int .i64 code, .slice A bytes.length c] 25) (.cells #[.int .i64 48] 40) (.cells #[.bool (decide (0 < number))] 4)
  generalize (((w.alloc (.cells #[.int .i64 8, .int .u32 (number : Nat), .string ⟨name.toArray⟩, .int .i64 size, .int .i64 off, .int .u32 (sum : Nat), .int .i64 code, .slice A bytes.length c] 25)).alloc (.cells #[.int .i64 48] 40)).alloc (.cells #[.bool (decide (0 < number))] 4)) = w0 at *
  generalize hb0 : decide (0 < number) = b0 at *
  have B0 := Lib.hid hb0
  clear hb0
  refine (plain_heap 48 1 _ b0 (by decide) (by decide) _ _ (by omega) _ _ _ hb hf).mono ?_
  rintro e w1 ⟨rfl, hb', hg⟩
  replace hm := gr_heap hg hm (by omega)
  replace hf := gr_heap hg hf (by omega)
  replace hB := below_gr hB hg (by omega)
  replace hb := hb'
  clear hb' hg
  rw [show fhas 48 1 = false from by decide] at hb
  generalize hbi : (b0 && _) = b1 at hb
  have B1 := Lib.hid hbi
  clear hbi
  have m0 := cell_of hm 0
  have m1 := cell_of hm 1
  have m2 := cell_of hm 2
  have m3 := cell_of hm 3
  have m4 := cell_of hm 4
  have m5 := cell_of hm 5
  have m6 := cell_of hm 6
  have m7 := cell_of hm 7
  have cf := cell_of hf 0
  have cb := cell_of hb 0
  have fb := frozen_of hb 0
  simp at m0 m1 m2 m3 m4 m5 m6 m7 cf cb
  go_wp2_with fail
  clear m0 m1 m2 m3 m4 m5 m6 m7 cf cb fb
  refine (plain_heap 48 2 _ b1 (by decide) (by decide) _ _ (by omega) _ _ _ hb hf).mono ?_
  rintro e w2 ⟨rfl, hb', hg⟩
  replace hm := gr_heap hg hm (by omega)
  replace hf := gr_heap hg hf (by omega)
  replace hB := below_gr hB hg (by omega)
  replace hb := hb'
  clear hb' hg
  rw [show fhas 48 2 = false from by decide] at hb
  generalize hbi : (b1 && _) = b2 at hb
  have B2 := Lib.hid hbi
  clear hbi
  have m0 := cell_of hm 0
  have m1 := cell_of hm 1
  have m2 := cell_of hm 2
  have m3 := cell_of hm 3
  have m4 := cell_of hm 4
  have m5 := cell_of hm 5
  have m6 := cell_of hm 6
  have m7 := cell_of hm 7
  have cf := cell_of hf 0
  have cb := cell_of hb 0
  have fb := frozen_of hb 0
  simp at m0 m1 m2 m3 m4 m5 m6 m7 cf cb
  go_wp2_with fail
  clear m0 m1 m2 m3 m4 m5 m6 m7 cf cb fb
  refine (plain_heap 48 4 _ b2 (by decide) (by decide) _ _ (by omega) _ _ _ hb hf).mono ?_
  rintro e w3 ⟨rfl, hb', hg⟩
  replace hm := gr_heap hg hm (by omega)
  replace hf := gr_heap hg hf (by omega)
  replace hB := below_gr hB hg (by omega)
  replace hb := hb'
  clear hb' hg
  rw [show fhas 48 4 = false from by decide] at hb
  generalize hbi : (b2 && _) = b3 at hb
  have B3 := Lib.hid hbi
  clear hbi
  have m0 := cell_of hm 0
  have m1 := cell_of hm 1
  have m2 := cell_of hm 2
  have m3 := cell_of hm 3
  have m4 := cell_of hm 4
  have m5 := cell_of hm 5
  have m6 := cell_of hm 6
  have m7 := cell_of hm 7
  have cf := cell_of hf 0
  have cb := cell_of hb 0
  have fb := frozen_of hb 0
  simp at m0 m1 m2 m3 m4 m5 m6 m7 cf cb
  go_wp2_with fail
  clear m0 m1 m2 m3 m4 m5 m6 m7 cf cb fb
  refine (plain_heap 48 8 _ b3 (by decide) (by decide) _ _ (by omega) _ _ _ hb hf).mono ?_
  rintro e w4 ⟨rfl, hb', hg⟩
  replace hm := gr_heap hg hm (by omega)
  replace hf := gr_heap hg hf (by omega)
  replace hB := below_gr hB hg (by omega)
  replace hb := hb'
  clear hb' hg
  rw [show fhas 48 8 = false from by decide] at hb
  generalize hbi : (b3 && _) = b4 at hb
  have B4 := Lib.hid hbi
  clear hbi
  have m0 := cell_of hm 0
  have m1 := cell_of hm 1
  have m2 := cell_of hm 2
  have m3 := cell_of hm 3
  have m4 := cell_of hm 4
  have m5 := cell_of hm 5
  have m6 := cell_of hm 6
  have m7 := cell_of hm 7
  have cf := cell_of hf 0
  have cb := cell_of hb 0
  have fb := frozen_of hb 0
  simp at m0 m1 m2 m3 m4 m5 m6 m7 cf cb
  go_wp2_with fail
  clear m0 m1 m2 m3 m4 m5 m6 m7 cf cb fb
  refine (plain_heap 48 16 _ b4 (by decide) (by decide) _ _ (by omega) _ _ _ hb hf).mono ?_
  rintro e w5 ⟨rfl, hb', hg⟩
  replace hm := gr_heap hg hm (by omega)
  replace hf := gr_heap hg hf (by omega)
  replace hB := below_gr hB hg (by omega)
  replace hb := hb'
  clear hb' hg
  rw [show fhas 48 16 = true from by decide] at hb
  generalize hbi : (b4 && _) = b5 at hb
  have B5 := Lib.hid hbi
  clear hbi
  have m0 := cell_of hm 0
  have m1 := cell_of hm 1
  have m2 := cell_of hm 2
  have m3 := cell_of hm 3
  have m4 := cell_of hm 4
  have m5 := cell_of hm 5
  have m6 := cell_of hm 6
  have m7 := cell_of hm 7
  have cf := cell_of hf 0
  have cb := cell_of hb 0
  have fb := frozen_of hb 0
  simp at m0 m1 m2 m3 m4 m5 m6 m7 cf cb
  go_wp2_with fail
  clear m0 m1 m2 m3 m4 m5 m6 m7 cf cb fb
  refine (plain_heap 48 32 _ b5 (by decide) (by decide) _ _ (by omega) _ _ _ hb hf).mono ?_
  rintro e w6 ⟨rfl, hb', hg⟩
  replace hm := gr_heap hg hm (by omega)
  replace hf := gr_heap hg hf (by omega)
  replace hB := below_gr hB hg (by omega)
  replace hb := hb'
  clear hb' hg
  rw [show fhas 48 32 = true from by decide] at hb
  generalize hbi : (b5 && _) = b6 at hb
  have B6 := Lib.hid hbi
  clear hbi
  have m0 := cell_of hm 0
  have m1 := cell_of hm 1
  have m2 := cell_of hm 2
  have m3 := cell_of hm 3
  have m4 := cell_of hm 4
  have m5 := cell_of hm 5
  have m6 := cell_of hm 6
  have m7 := cell_of hm 7
  have cf := cell_of hf 0
  have cb := cell_of hb 0
  have fb := frozen_of hb 0
  simp at m0 m1 m2 m3 m4 m5 m6 m7 cf cb
  have s1 := fun u => sc1 cb u
  have s2 := fun u1 u2 => sc1 (s1 u1) u2
  have s3 := fun u1 u2 u3 => sc1 (s2 u1 u2) u3
  have hP : b6 = true ↔ (0 < number ∧ name.length = 0 ∧ size = 0 ∧ off = 0 ∧ sum = 0) := by
    have e0 := B0.out; have e1 := B1.out; have e2 := B2.out; have e3 := B3.out; have e4 := B4.out; have e5 := B5.out; have e6 := B6.out
    subst e0; subst e1; subst e2; subst e3; subst e4; subst e5; subst e6
    simp only [Bool.and_eq_true, Bool.true_or, Bool.false_or, Bool.and_true, decide_eq_true_eq, beq_iff_eq, isEmpty_len]
    omega
  have hok : Msg.ok ⟨8, number, name, size, off, sum, code, bytes⟩ ↔ (0 < number ∧ name.length = 0 ∧ (0 ≤ size ∧ size ≤ 4096) ∧ size = 0 ∧ off = 0 ∧ sum = 0 ∧ (0 ≤ code ∧ code ≤ 255) ∧ bytes.length ≤ 256) := by
    unfold Msg.ok
    simp only [show fldN 8 = false from rfl, show fldS 8 = false from rfl, show fldO 8 = false from rfl, show fldU 8 = false from rfl, show fldC 8 = true from rfl, show fldB 8 = true from rfl, eq_self, forall_const, true_implies, reduceCtorEq, false_implies, true_and, and_true]

    omega
  have HOK := Lib.hid hok
  clear B0 B1 B2 B3 B4 B5 B6 hok
  cases b6 with
  | false =>
    have hn : ¬ (0 < number ∧ name.length = 0 ∧ size = 0 ∧ off = 0 ∧ sum = 0) := fun h => by have := hP.2 h; cases this
    have HN := Lib.hid hn
    clear hP hn
    go_wp2
    go_ret
    exact ⟨ret_int (by rw [okErr, if_neg (fun h => HN.out (by have := HOK.out.1 h; omega))]), (by repeat' (first | exact Below.refl _ _ | assumption | with_reducible refine below_dn ?_ _ | with_reducible refine below_al ?_ _ | with_reducible refine Below.drew ?_ | (with_reducible refine below_sc ?_ ?_ _) | (simp; done) | (simp; omega)))⟩
  | true =>
    have hy := hP.1 rfl
    have HY := Lib.hid hy
    clear hP hy
    go_wp2_with (go_at_call 22; refine (has_any 48 1 (by decide) (by decide) _).mono ?_; rw [show fhas 48 1 = false from by decide]; rintro e w8 ⟨rfl, rfl⟩)
    all_goals
      go_ret
      refine ⟨ret_int ?_, (by repeat' (first | exact Below.refl _ _ | assumption | with_reducible refine below_dn ?_ _ | with_reducible refine below_al ?_ _ | with_reducible refine Below.drew ?_ | (with_reducible refine below_sc ?_ ?_ _) | (simp; done) | (simp; omega)))⟩
      have hy := HY.out
      have hok := HOK.out
      by_cases ho : 0 < number ∧ name.length = 0 ∧ (0 ≤ size ∧ size ≤ 4096) ∧ size = 0 ∧ off = 0 ∧ sum = 0 ∧ (0 ≤ code ∧ code ≤ 255) ∧ bytes.length ≤ 256
      · have e : okErr ⟨8, number, name, size, off, sum, code, bytes⟩ = 0 := by rw [okErr, if_pos (hok.2 ho)]
        first | exact e.symm | (exfalso; omega)
      · have e : okErr ⟨8, number, name, size, off, sum, code, bytes⟩ = 210 := by rw [okErr, if_neg (fun h => ho (hok.1 h))]
        first | exact e.symm | (exfalso; omega)

end Go.Proofs.Ytmcldnfemlaeiaa
