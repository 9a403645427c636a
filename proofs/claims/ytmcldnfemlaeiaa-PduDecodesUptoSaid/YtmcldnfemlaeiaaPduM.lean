/- Layer 11's walks: Same, the reference's Same. No condition beyond sizes. -/
import Derived.Test.YtmcldnfemlaeiaaPduD
namespace Go.Proofs.Ytmcldnfemlaeiaa
open Go.RowKit K L
set_option linter.unusedVariables false
set_option linter.unusedSimpArgs false

/-- The same messages? -/
def Msg.same (a b : Msg) : Bool := a.kind == b.kind && a.number == b.number && a.name == b.name && a.size == b.size && a.off == b.off && a.sum == b.sum && a.code == b.code && a.bytes == b.bytes

theorem str_ne {s1 s2 : List UInt8} (h : s1 ≠ s2) : ((⟨s1.toArray⟩ : ByteArray) == (⟨s2.toArray⟩ : ByteArray)) = false := by
  have : (s1.toArray == s2.toArray) = false := by simpa using h
  exact this

theorem two (w : World) (o1 o2 : Obj) : ((w.alloc o1).alloc o2).heap[w.heap.size]? = some o1 ∧ ((w.alloc o1).alloc o2).heap[w.heap.size + 1]? = some o2 ∧ Below w.heap.size w ((w.alloc o1).alloc o2) := by
  refine ⟨heap_al (heap_alloc_new _ _) _, ?_, below_al (below_al (Below.refl _ _) _) _⟩
  have := heap_alloc_new (w.alloc o1) o2; rwa [World.size_alloc] at this

set_option maxRecDepth 100000 in
set_option maxHeartbeats 4000000 in
theorem psame_any (a b : Msg) (va vb : Value) (w : World) (F G : Nat → Prop) (h : Bs w F va a.bytes) (g : Bs w G vb b.bytes) :
    Calls Try.prog 18 #[.agg (a.cells va).toArray, .agg (b.cells vb).toArray] w fun e w' => e = .returned (.bool (a.same b)) ∧ Below w.heap.size w w' := by
  have ha := h
  have hb := g
  obtain ⟨A, c, rfl, l1, l2, -, -⟩ := h.open_
  obtain ⟨A', c', rfl, m1, m2, -, -⟩ := g.open_
  clear h g
  unfold maxLen at l2 m2
  obtain ⟨k1, n1, s1, z1, o1, u1, c1, b1⟩ := a
  obtain ⟨k2, n2, s2, z2, o2, u2, c2, b2⟩ := b
  unfold Msg.cells Msg.same
  dsimp only at ha hb l1 m1 ⊢
  by_cases hne : k1 = k2
  rotate_left
  · have hf : (k1 == k2) = false := by simpa using hne
    go_enter Try.func18, Try.ntmps18
    go_wp2
    go_ret
    exact ⟨ret_bool (by simp [hne]), (by repeat' (first | exact Below.refl _ _ | assumption | with_reducible refine below_dn ?_ _ | with_reducible refine below_al ?_ _ | with_reducible refine Below.drew ?_ | (with_reducible refine below_sc ?_ ?_ _) | (simp; done) | (simp; omega)))⟩
  subst hne
  by_cases hne : n1 = n2
  rotate_left
  · have hf : ((n1 : Int) == (n2 : Int)) = false := by rw [beq_eq_false_iff_ne]; omega
    go_enter Try.func18, Try.ntmps18
    go_wp2
    go_ret
    exact ⟨ret_bool (by simp [hne]), (by repeat' (first | exact Below.refl _ _ | assumption | with_reducible refine below_dn ?_ _ | with_reducible refine below_al ?_ _ | with_reducible refine Below.drew ?_ | (with_reducible refine below_sc ?_ ?_ _) | (simp; done) | (simp; omega)))⟩
  subst hne
  by_cases hne : s1 = s2
  rotate_left
  · have hf := str_ne hne
    go_enter Try.func18, Try.ntmps18
    go_wp2
    go_ret
    exact ⟨ret_bool (by simp [hne]), (by repeat' (first | exact Below.refl _ _ | assumption | with_reducible refine below_dn ?_ _ | with_reducible refine below_al ?_ _ | with_reducible refine Below.drew ?_ | (with_reducible refine below_sc ?_ ?_ _) | (simp; done) | (simp; omega)))⟩
  subst hne
  by_cases hne : z1 = z2
  rotate_left
  · have hf : (z1 == z2) = false := by simpa using hne
    go_enter Try.func18, Try.ntmps18
    go_wp2
    go_ret
    exact ⟨ret_bool (by simp [hne]), (by repeat' (first | exact Below.refl _ _ | assumption | with_reducible refine below_dn ?_ _ | with_reducible refine below_al ?_ _ | with_reducible refine Below.drew ?_ | (with_reducible refine below_sc ?_ ?_ _) | (simp; done) | (simp; omega)))⟩
  subst hne
  by_cases hne : o1 = o2
  rotate_left
  · have hf : (o1 == o2) = false := by simpa using hne
    go_enter Try.func18, Try.ntmps18
    go_wp2
    go_ret
    exact ⟨ret_bool (by simp [hne]), (by repeat' (first | exact Below.refl _ _ | assumption | with_reducible refine below_dn ?_ _ | with_reducible refine below_al ?_ _ | with_reducible refine Below.drew ?_ | (with_reducible refine below_sc ?_ ?_ _) | (simp; done) | (simp; omega)))⟩
  subst hne
  by_cases hne : u1 = u2
  rotate_left
  · have hf : ((u1 : Int) == (u2 : Int)) = false := by rw [beq_eq_false_iff_ne]; omega
    go_enter Try.func18, Try.ntmps18
    go_wp2
    go_ret
    exact ⟨ret_bool (by simp [hne]), (by repeat' (first | exact Below.refl _ _ | assumption | with_reducible refine below_dn ?_ _ | with_reducible refine below_al ?_ _ | with_reducible refine Below.drew ?_ | (with_reducible refine below_sc ?_ ?_ _) | (simp; done) | (simp; omega)))⟩
  subst hne
  by_cases hne : c1 = c2
  rotate_left
  · have hf : (c1 == c2) = false := by simpa using hne
    go_enter Try.func18, Try.ntmps18
    go_wp2
    go_ret
    exact ⟨ret_bool (by simp [hne]), (by repeat' (first | exact Below.refl _ _ | assumption | with_reducible refine below_dn ?_ _ | with_reducible refine below_al ?_ _ | with_reducible refine Below.drew ?_ | (with_reducible refine below_sc ?_ ?_ _) | (simp; done) | (simp; omega)))⟩
  subst hne
  simp only [beq_self_eq_true, Bool.true_and]
  have heq := fun w hb' => eq_any (.slice A b1.length c) (.slice A' b2.length c') b1 b2 w F G (ha.below hb') (hb.below hb')
  generalize (b1 == b2) = q at *
  have HEQ := Lib.hid heq
  clear heq
  go_enter Try.func18, Try.ntmps18
  go_wp2_with fail
  refine (HEQ.out _ (by repeat' (first | exact Below.refl _ _ | assumption | with_reducible refine below_dn ?_ _ | with_reducible refine below_al ?_ _))).mono ?_
  rintro e w1 ⟨rfl, n, rfl⟩
  go_wp2
  go_ret
  exact ⟨rfl, (by repeat' (first | exact Below.refl _ _ | assumption | with_reducible refine below_dn ?_ _ | with_reducible refine below_al ?_ _ | with_reducible refine Below.drew ?_ | (with_reducible refine below_sc ?_ ?_ _) | (simp; done) | (simp; omega)))⟩

set_option maxRecDepth 100000 in
set_option maxHeartbeats 4000000 in
theorem rsame_any (a b : Msg) (va vb : Value) (w : World) (F G : Nat → Prop) (h : Bs w F va a.bytes) (g : Bs w G vb b.bytes) :
    Calls Try.prog 17 #[.agg (a.cells va).toArray, .agg (b.cells vb).toArray] w fun e w' => e = .returned (.bool (a.same b)) ∧ Below w.heap.size w w' := by
  have ha := h
  have hb := g
  obtain ⟨A, c, rfl, l1, l2, -, -⟩ := h.open_
  obtain ⟨A', c', rfl, m1, m2, -, -⟩ := g.open_
  clear h g
  unfold maxLen at l2 m2
  obtain ⟨k1, n1, s1, z1, o1, u1, c1, b1⟩ := a
  obtain ⟨k2, n2, s2, z2, o2, u2, c2, b2⟩ := b
  unfold Msg.cells Msg.same
  dsimp only at ha hb l1 m1 ⊢
  by_cases hne : k1 = k2
  rotate_left
  · have hf : (k1 == k2) = false := by simpa using hne
    go_enter Try.func17, Try.ntmps17
    go_wp2
    go_ret
    exact ⟨ret_bool (by simp [hne]), (by repeat' (first | exact Below.refl _ _ | assumption | with_reducible refine below_dn ?_ _ | with_reducible refine below_al ?_ _ | with_reducible refine Below.drew ?_ | (with_reducible refine below_sc ?_ ?_ _) | (simp; done) | (simp; omega)))⟩
  subst hne
  by_cases hne : n1 = n2
  rotate_left
  · have hf : ((n1 : Int) == (n2 : Int)) = false := by rw [beq_eq_false_iff_ne]; omega
    go_enter Try.func17, Try.ntmps17
    go_wp2
    go_ret
    exact ⟨ret_bool (by simp [hne]), (by repeat' (first | exact Below.refl _ _ | assumption | with_reducible refine below_dn ?_ _ | with_reducible refine below_al ?_ _ | with_reducible refine Below.drew ?_ | (with_reducible refine below_sc ?_ ?_ _) | (simp; done) | (simp; omega)))⟩
  subst hne
  by_cases hne : s1 = s2
  rotate_left
  · have hf := str_ne hne
    go_enter Try.func17, Try.ntmps17
    go_wp2
    go_ret
    exact ⟨ret_bool (by simp [hne]), (by repeat' (first | exact Below.refl _ _ | assumption | with_reducible refine below_dn ?_ _ | with_reducible refine below_al ?_ _ | with_reducible refine Below.drew ?_ | (with_reducible refine below_sc ?_ ?_ _) | (simp; done) | (simp; omega)))⟩
  subst hne
  by_cases hne : z1 = z2
  rotate_left
  · have hf : (z1 == z2) = false := by simpa using hne
    go_enter Try.func17, Try.ntmps17
    go_wp2
    go_ret
    exact ⟨ret_bool (by simp [hne]), (by repeat' (first | exact Below.refl _ _ | assumption | with_reducible refine below_dn ?_ _ | with_reducible refine below_al ?_ _ | with_reducible refine Below.drew ?_ | (with_reducible refine below_sc ?_ ?_ _) | (simp; done) | (simp; omega)))⟩
  subst hne
  by_cases hne : o1 = o2
  rotate_left
  · have hf : (o1 == o2) = false := by simpa using hne
    go_enter Try.func17, Try.ntmps17
    go_wp2
    go_ret
    exact ⟨ret_bool (by simp [hne]), (by repeat' (first | exact Below.refl _ _ | assumption | with_reducible refine below_dn ?_ _ | with_reducible refine below_al ?_ _ | with_reducible refine Below.drew ?_ | (with_reducible refine below_sc ?_ ?_ _) | (simp; done) | (simp; omega)))⟩
  subst hne
  by_cases hne : u1 = u2
  rotate_left
  · have hf : ((u1 : Int) == (u2 : Int)) = false := by rw [beq_eq_false_iff_ne]; omega
    go_enter Try.func17, Try.ntmps17
    go_wp2
    go_ret
    exact ⟨ret_bool (by simp [hne]), (by repeat' (first | exact Below.refl _ _ | assumption | with_reducible refine below_dn ?_ _ | with_reducible refine below_al ?_ _ | with_reducible refine Below.drew ?_ | (with_reducible refine below_sc ?_ ?_ _) | (simp; done) | (simp; omega)))⟩
  subst hne
  by_cases hne : c1 = c2
  rotate_left
  · have hf : (c1 == c2) = false := by simpa using hne
    go_enter Try.func17, Try.ntmps17
    go_wp2
    go_ret
    exact ⟨ret_bool (by simp [hne]), (by repeat' (first | exact Below.refl _ _ | assumption | with_reducible refine below_dn ?_ _ | with_reducible refine below_al ?_ _ | with_reducible refine Below.drew ?_ | (with_reducible refine below_sc ?_ ?_ _) | (simp; done) | (simp; omega)))⟩
  subst hne
  simp only [beq_self_eq_true, Bool.true_and]
  have heq := fun w hb' => same_any (.slice A b1.length c) (.slice A' b2.length c') b1 b2 w F G (ha.below hb') (hb.below hb')
  generalize (b1 == b2) = q at *
  have HEQ := Lib.hid heq
  clear heq
  go_enter Try.func17, Try.ntmps17
  go_wp2_with fail
  refine (HEQ.out _ (by repeat' (first | exact Below.refl _ _ | assumption | with_reducible refine below_dn ?_ _ | with_reducible refine below_al ?_ _))).mono ?_
  rintro e w1 ⟨rfl, n, rfl⟩
  go_wp2
  go_ret
  exact ⟨rfl, (by repeat' (first | exact Below.refl _ _ | assumption | with_reducible refine below_dn ?_ _ | with_reducible refine below_al ?_ _ | with_reducible refine Below.drew ?_ | (with_reducible refine below_sc ?_ ?_ _) | (simp; done) | (simp; omega)))⟩

end Go.Proofs.Ytmcldnfemlaeiaa
