/- Layer 11's reference: Right at kind 5. No condition beyond sizes. -/
import Derived.Test.YtmcldnfemlaeiaaPduF
namespace Go.Proofs.Ytmcldnfemlaeiaa
open Go.RowKit K L
set_option linter.unusedVariables false
set_option linter.unusedSimpArgs false

set_option maxRecDepth 100000 in
set_option maxHeartbeats 8000000 in
theorem right_5 (m : Msg) (vb : Value) (w : World) (F : Nat → Prop) (h : Bs w F vb m.bytes) (hk : m.kind = 5) (hl : m.name.length ≤ 1000000000) :
    Calls Try.prog 11 #[.agg (m.cells vb).toArray] w fun e w' => e = .returned (.bool (decide m.ok)) ∧ Below w.heap.size w w' := by
  obtain ⟨A, c, rfl, l1, l2, -, -⟩ := h.open_
  unfold maxLen at l2
  clear h
  obtain ⟨kind, number, name, size, off, sum, code, bytes⟩ := m
  dsimp only at hk hl l1 ⊢
  subst hk
  unfold Msg.cells
  dsimp only
  have hok : Msg.ok ⟨5, number, name, size, off, sum, code, bytes⟩ ↔ (0 < number ∧ (1 ≤ name.length ∧ name.length ≤ 24) ∧ (0 ≤ size ∧ size ≤ 4096) ∧ size = 0 ∧ off = 0 ∧ sum = 0 ∧ (0 ≤ code ∧ code ≤ 255) ∧ code = 0 ∧ bytes.length ≤ 256) := by
    unfold Msg.ok
    simp only [show fldN 5 = true from rfl, show fldS 5 = false from rfl, show fldO 5 = false from rfl, show fldU 5 = false from rfl, show fldC 5 = false from rfl, show fldB 5 = true from rfl, eq_self, forall_const, true_implies, reduceCtorEq, false_implies, true_and, and_true]
    omega
  have hno : ¬ (0 < number ∧ (1 ≤ name.length ∧ name.length ≤ 24) ∧ (0 ≤ size ∧ size ≤ 4096) ∧ size = 0 ∧ off = 0 ∧ sum = 0 ∧ (0 ≤ code ∧ code ≤ 255) ∧ code = 0 ∧ bytes.length ≤ 256) → decide (Msg.ok ⟨5, number, name, size, off, sum, code, bytes⟩) = false := fun h => by rw [decide_eq_false_iff_not, hok]; exact h
  have hyes : (0 < number ∧ (1 ≤ name.length ∧ name.length ≤ 24) ∧ (0 ≤ size ∧ size ≤ 4096) ∧ size = 0 ∧ off = 0 ∧ sum = 0 ∧ (0 ≤ code ∧ code ≤ 255) ∧ code = 0 ∧ bytes.length ≤ 256) → decide (Msg.ok ⟨5, number, name, size, off, sum, code, bytes⟩) = true := fun h => by rw [decide_eq_true_eq, hok]; exact h
  generalize decide (Msg.ok ⟨5, number, name, size, off, sum, code, bytes⟩) = dok at *
  clear hok
  have HNO := Lib.hid hno
  have HYES := Lib.hid hyes
  clear hno hyes
  by_cases hne : number = 0
  · rw [HNO.out (by omega)]
    have hf : ((number : Int) == 0) = true := by rw [beq_iff_eq]; omega
    go_enter Try.func11, Try.ntmps11
    go_wp2_with fail
    refine (rfields_5 _).mono ?_
    rintro e w1 ⟨rfl, hB1⟩
    have hm := heap_bl hB1 (heap_alloc_new _ _)
    have hB := below_tr (below_al (Below.refl _ _) _) hB1
    have c0 := cell_of hm 0
    have c1 := cell_of hm 1
    have c2 := cell_of hm 2
    have c3 := cell_of hm 3
    have c4 := cell_of hm 4
    have c5 := cell_of hm 5
    have c6 := cell_of hm 6
    have c7 := cell_of hm 7
    simp at c0 c1 c2 c3 c4 c5 c6 c7
    clear hB1
    go_wp2_with (go_at_call 25; (refine (rhas_5 _ (by decide) (by decide) _).mono ?_; rintro e wh ⟨rfl, rfl⟩))
    go_ret
    exact ⟨rfl, hB⟩
  have hf0 : ((number : Int) == 0) = false := by rw [beq_eq_false_iff_ne]; omega
  have hn0 := hne
  clear hne
  by_cases hne : name.length < 1
  · rw [HNO.out (by omega)]
    go_enter Try.func11, Try.ntmps11
    go_wp2_with fail
    refine (rfields_5 _).mono ?_
    rintro e w1 ⟨rfl, hB1⟩
    have hm := heap_bl hB1 (heap_alloc_new _ _)
    have hB := below_tr (below_al (Below.refl _ _) _) hB1
    have c0 := cell_of hm 0
    have c1 := cell_of hm 1
    have c2 := cell_of hm 2
    have c3 := cell_of hm 3
    have c4 := cell_of hm 4
    have c5 := cell_of hm 5
    have c6 := cell_of hm 6
    have c7 := cell_of hm 7
    simp at c0 c1 c2 c3 c4 c5 c6 c7
    clear hB1
    go_wp2_with (go_at_call 25; (refine (rhas_5 _ (by decide) (by decide) _).mono ?_; rintro e wh ⟨rfl, rfl⟩))
    go_ret
    exact ⟨rfl, hB⟩
  have hd1 : decide ((name.length : Int) < 1) = false := by rw [decide_eq_false_iff_not]; omega
  have hn1 := hne
  clear hne
  by_cases hne : 24 < name.length
  · rw [HNO.out (by omega)]
    go_enter Try.func11, Try.ntmps11
    go_wp2_with fail
    refine (rfields_5 _).mono ?_
    rintro e w1 ⟨rfl, hB1⟩
    have hm := heap_bl hB1 (heap_alloc_new _ _)
    have hB := below_tr (below_al (Below.refl _ _) _) hB1
    have c0 := cell_of hm 0
    have c1 := cell_of hm 1
    have c2 := cell_of hm 2
    have c3 := cell_of hm 3
    have c4 := cell_of hm 4
    have c5 := cell_of hm 5
    have c6 := cell_of hm 6
    have c7 := cell_of hm 7
    simp at c0 c1 c2 c3 c4 c5 c6 c7
    clear hB1
    go_wp2_with (go_at_call 25; (refine (rhas_5 _ (by decide) (by decide) _).mono ?_; rintro e wh ⟨rfl, rfl⟩))
    go_ret
    exact ⟨rfl, hB⟩
  have hd2 : decide (24 < (name.length : Int)) = false := by rw [decide_eq_false_iff_not]; omega
  have hn2 := hne
  clear hne
  by_cases hne : size < 0
  · rw [HNO.out (by omega)]
    go_enter Try.func11, Try.ntmps11
    go_wp2_with fail
    refine (rfields_5 _).mono ?_
    rintro e w1 ⟨rfl, hB1⟩
    have hm := heap_bl hB1 (heap_alloc_new _ _)
    have hB := below_tr (below_al (Below.refl _ _) _) hB1
    have c0 := cell_of hm 0
    have c1 := cell_of hm 1
    have c2 := cell_of hm 2
    have c3 := cell_of hm 3
    have c4 := cell_of hm 4
    have c5 := cell_of hm 5
    have c6 := cell_of hm 6
    have c7 := cell_of hm 7
    simp at c0 c1 c2 c3 c4 c5 c6 c7
    clear hB1
    go_wp2_with (go_at_call 25; (refine (rhas_5 _ (by decide) (by decide) _).mono ?_; rintro e wh ⟨rfl, rfl⟩))
    go_ret
    exact ⟨rfl, hB⟩
  have hd3 : decide (size < 0) = false := by rw [decide_eq_false_iff_not]; omega
  have hn3 := hne
  clear hne
  by_cases hne : 4096 < size
  · rw [HNO.out (by omega)]
    go_enter Try.func11, Try.ntmps11
    go_wp2_with fail
    refine (rfields_5 _).mono ?_
    rintro e w1 ⟨rfl, hB1⟩
    have hm := heap_bl hB1 (heap_alloc_new _ _)
    have hB := below_tr (below_al (Below.refl _ _) _) hB1
    have c0 := cell_of hm 0
    have c1 := cell_of hm 1
    have c2 := cell_of hm 2
    have c3 := cell_of hm 3
    have c4 := cell_of hm 4
    have c5 := cell_of hm 5
    have c6 := cell_of hm 6
    have c7 := cell_of hm 7
    simp at c0 c1 c2 c3 c4 c5 c6 c7
    clear hB1
    go_wp2_with (go_at_call 25; (refine (rhas_5 _ (by decide) (by decide) _).mono ?_; rintro e wh ⟨rfl, rfl⟩))
    go_ret
    exact ⟨rfl, hB⟩
  have hd4 : decide (4096 < size) = false := by rw [decide_eq_false_iff_not]; omega
  have hn4 := hne
  clear hne
  by_cases hne : size ≠ 0
  · rw [HNO.out (by omega)]
    have hf : (size != 0) = true := by simpa using hne
    go_enter Try.func11, Try.ntmps11
    go_wp2_with fail
    refine (rfields_5 _).mono ?_
    rintro e w1 ⟨rfl, hB1⟩
    have hm := heap_bl hB1 (heap_alloc_new _ _)
    have hB := below_tr (below_al (Below.refl _ _) _) hB1
    have c0 := cell_of hm 0
    have c1 := cell_of hm 1
    have c2 := cell_of hm 2
    have c3 := cell_of hm 3
    have c4 := cell_of hm 4
    have c5 := cell_of hm 5
    have c6 := cell_of hm 6
    have c7 := cell_of hm 7
    simp at c0 c1 c2 c3 c4 c5 c6 c7
    clear hB1
    go_wp2_with (go_at_call 25; (refine (rhas_5 _ (by decide) (by decide) _).mono ?_; rintro e wh ⟨rfl, rfl⟩))
    go_ret
    exact ⟨rfl, hB⟩
  have hf5 : (size != 0) = false := by simpa using hne
  have hn5 := hne
  clear hne
  by_cases hne : sum ≠ 0
  · rw [HNO.out (by omega)]
    have hf : ((sum : Int) != 0) = true := by rw [bne_iff_ne]; omega
    go_enter Try.func11, Try.ntmps11
    go_wp2_with fail
    refine (rfields_5 _).mono ?_
    rintro e w1 ⟨rfl, hB1⟩
    have hm := heap_bl hB1 (heap_alloc_new _ _)
    have hB := below_tr (below_al (Below.refl _ _) _) hB1
    have c0 := cell_of hm 0
    have c1 := cell_of hm 1
    have c2 := cell_of hm 2
    have c3 := cell_of hm 3
    have c4 := cell_of hm 4
    have c5 := cell_of hm 5
    have c6 := cell_of hm 6
    have c7 := cell_of hm 7
    simp at c0 c1 c2 c3 c4 c5 c6 c7
    clear hB1
    go_wp2_with (go_at_call 25; (refine (rhas_5 _ (by decide) (by decide) _).mono ?_; rintro e wh ⟨rfl, rfl⟩))
    go_ret
    exact ⟨rfl, hB⟩
  have hf6 : ((sum : Int) != 0) = false := by rw [bne_eq_false_iff_eq]; omega
  have hn6 := hne
  clear hne
  by_cases hne : code < 0
  · rw [HNO.out (by omega)]
    go_enter Try.func11, Try.ntmps11
    go_wp2_with fail
    refine (rfields_5 _).mono ?_
    rintro e w1 ⟨rfl, hB1⟩
    have hm := heap_bl hB1 (heap_alloc_new _ _)
    have hB := below_tr (below_al (Below.refl _ _) _) hB1
    have c0 := cell_of hm 0
    have c1 := cell_of hm 1
    have c2 := cell_of hm 2
    have c3 := cell_of hm 3
    have c4 := cell_of hm 4
    have c5 := cell_of hm 5
    have c6 := cell_of hm 6
    have c7 := cell_of hm 7
    simp at c0 c1 c2 c3 c4 c5 c6 c7
    clear hB1
    go_wp2_with (go_at_call 25; (refine (rhas_5 _ (by decide) (by decide) _).mono ?_; rintro e wh ⟨rfl, rfl⟩))
    go_ret
    exact ⟨rfl, hB⟩
  have hd7 : decide (code < 0) = false := by rw [decide_eq_false_iff_not]; omega
  have hn7 := hne
  clear hne
  by_cases hne : 255 < code
  · rw [HNO.out (by omega)]
    go_enter Try.func11, Try.ntmps11
    go_wp2_with fail
    refine (rfields_5 _).mono ?_
    rintro e w1 ⟨rfl, hB1⟩
    have hm := heap_bl hB1 (heap_alloc_new _ _)
    have hB := below_tr (below_al (Below.refl _ _) _) hB1
    have c0 := cell_of hm 0
    have c1 := cell_of hm 1
    have c2 := cell_of hm 2
    have c3 := cell_of hm 3
    have c4 := cell_of hm 4
    have c5 := cell_of hm 5
    have c6 := cell_of hm 6
    have c7 := cell_of hm 7
    simp at c0 c1 c2 c3 c4 c5 c6 c7
    clear hB1
    go_wp2_with (go_at_call 25; (refine (rhas_5 _ (by decide) (by decide) _).mono ?_; rintro e wh ⟨rfl, rfl⟩))
    go_ret
    exact ⟨rfl, hB⟩
  have hd8 : decide (255 < code) = false := by rw [decide_eq_false_iff_not]; omega
  have hn8 := hne
  clear hne
  by_cases hne : code ≠ 0
  · rw [HNO.out (by omega)]
    have hf : (code != 0) = true := by simpa using hne
    go_enter Try.func11, Try.ntmps11
    go_wp2_with fail
    refine (rfields_5 _).mono ?_
    rintro e w1 ⟨rfl, hB1⟩
    have hm := heap_bl hB1 (heap_alloc_new _ _)
    have hB := below_tr (below_al (Below.refl _ _) _) hB1
    have c0 := cell_of hm 0
    have c1 := cell_of hm 1
    have c2 := cell_of hm 2
    have c3 := cell_of hm 3
    have c4 := cell_of hm 4
    have c5 := cell_of hm 5
    have c6 := cell_of hm 6
    have c7 := cell_of hm 7
    simp at c0 c1 c2 c3 c4 c5 c6 c7
    clear hB1
    go_wp2_with (go_at_call 25; (refine (rhas_5 _ (by decide) (by decide) _).mono ?_; rintro e wh ⟨rfl, rfl⟩))
    go_ret
    exact ⟨rfl, hB⟩
  have hf9 : (code != 0) = false := by simpa using hne
  have hn9 := hne
  clear hne
  by_cases hne : 256 < bytes.length
  · rw [HNO.out (by omega)]
    go_enter Try.func11, Try.ntmps11
    go_wp2_with fail
    refine (rfields_5 _).mono ?_
    rintro e w1 ⟨rfl, hB1⟩
    have hm := heap_bl hB1 (heap_alloc_new _ _)
    have hB := below_tr (below_al (Below.refl _ _) _) hB1
    have c0 := cell_of hm 0
    have c1 := cell_of hm 1
    have c2 := cell_of hm 2
    have c3 := cell_of hm 3
    have c4 := cell_of hm 4
    have c5 := cell_of hm 5
    have c6 := cell_of hm 6
    have c7 := cell_of hm 7
    simp at c0 c1 c2 c3 c4 c5 c6 c7
    clear hB1
    go_wp2_with (go_at_call 25; (refine (rhas_5 _ (by decide) (by decide) _).mono ?_; rintro e wh ⟨rfl, rfl⟩))
    go_ret
    exact ⟨rfl, hB⟩
  have hd10 : decide (256 < (bytes.length : Int)) = false := by rw [decide_eq_false_iff_not]; omega
  have hn10 := hne
  clear hne
  by_cases hne : off ≠ 0
  · rw [HNO.out (by omega)]
    have hf : (off != 0) = true := by simpa using hne
    go_enter Try.func11, Try.ntmps11
    go_wp2_with fail
    refine (rfields_5 _).mono ?_
    rintro e w1 ⟨rfl, hB1⟩
    have hm := heap_bl hB1 (heap_alloc_new _ _)
    have hB := below_tr (below_al (Below.refl _ _) _) hB1
    have c0 := cell_of hm 0
    have c1 := cell_of hm 1
    have c2 := cell_of hm 2
    have c3 := cell_of hm 3
    have c4 := cell_of hm 4
    have c5 := cell_of hm 5
    have c6 := cell_of hm 6
    have c7 := cell_of hm 7
    simp at c0 c1 c2 c3 c4 c5 c6 c7
    clear hB1
    go_wp2_with (go_at_call 25; (refine (rhas_5 _ (by decide) (by decide) _).mono ?_; rintro e wh ⟨rfl, rfl⟩))
    go_ret
    exact ⟨rfl, hB⟩
  have hf11 : (off != 0) = false := by simpa using hne
  have hn11 := hne
  clear hne
  rw [HYES.out (by first | omega | (simp only [List.length_nil, true_and] at *; omega))]
  go_enter Try.func11, Try.ntmps11
  go_wp2_with fail
  refine (rfields_5 _).mono ?_
  rintro e w1 ⟨rfl, hB1⟩
  have hm := heap_bl hB1 (heap_alloc_new _ _)
  have hB := below_tr (below_al (Below.refl _ _) _) hB1
  have c0 := cell_of hm 0
  have c1 := cell_of hm 1
  have c2 := cell_of hm 2
  have c3 := cell_of hm 3
  have c4 := cell_of hm 4
  have c5 := cell_of hm 5
  have c6 := cell_of hm 6
  have c7 := cell_of hm 7
  simp at c0 c1 c2 c3 c4 c5 c6 c7
  clear hB1
  go_wp2_with (go_at_call 25; (refine (rhas_5 _ (by decide) (by decide) _).mono ?_; rintro e wh ⟨rfl, rfl⟩))
  go_ret
  exact ⟨rfl, hB⟩

end Go.Proofs.Ytmcldnfemlaeiaa
