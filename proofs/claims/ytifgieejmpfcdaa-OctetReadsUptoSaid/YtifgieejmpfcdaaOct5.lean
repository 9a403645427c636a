/- Layer 1's statements: the walks of wakes, OctetHolds, OctetNone. No condition beyond sizes. -/
import Derived.Test.YtifgieejmpfcdaaOct4
namespace Go.Proofs.Ytifgieejmpfcdaa
open Go.RowKit K L
set_option linter.unusedVariables false

/-- A row of bytes that the walk has just laid. -/
theorem lit_bs (w : World) (xs : List UInt8) (cs : Array Value) (hcs : cs.toList = bvs xs) (n : Nat) (hn : n = xs.length) (hm : xs.length ≤ 1000) :
    Bs (w.alloc (.cells cs 5)) (· < (w.alloc (.cells cs 5)).heap.size) (.slice (some ⟨w.heap.size, 0, none⟩) n n) xs := by
  subst hn
  have h := Sl.lit w (bvs xs) 5 1 xs.length (by simp [bvs]) (by simp [maxLen]; omega)
  rw [show (bvs xs).toArray = cs from by rw [← hcs]] at h
  exact Sl.imp_lt h (by decide)

theorem lit_bs2 (w : World) (xs ys : List UInt8) (cs ds : Array Value) (hcs : cs.toList = bvs xs) (hds : ds.toList = bvs ys) (n m : Nat) (hn : n = xs.length) (hm : m = ys.length) (hx : xs.length ≤ 1000) (hy : ys.length ≤ 1000) (g : Nat) (hg : g = w.heap.size) :
    Bs ((w.alloc (.cells cs 5)).alloc (.cells ds 5)) (fun _ => True) (.slice (some ⟨g, 0, none⟩) n n) xs ∧
    Bs ((w.alloc (.cells cs 5)).alloc (.cells ds 5)) (fun _ => True) (.slice (some ⟨g + 1, 0, none⟩) m m) ys := by
  subst hg
  refine ⟨((lit_bs w xs cs hcs n hn hx).below ((Below.refl _ _).alloc (Nat.le_refl _) _)).imp fun _ _ _ => trivial, ?_⟩
  have h := lit_bs (w.alloc (.cells cs 5)) ys ds hds m hm hy
  rw [World.size_alloc w] at h
  exact h.imp fun _ _ _ => trivial

set_option maxHeartbeats 1000000 in
theorem wakes_any (w : World) : Calls Try.prog 9 #[] w fun e w' => e = .returned (.bool true) ∧ Below w.heap.size w w' := by
  go_enter Try.func9, Try.ntmps9
  go_wp2_with fail
  refine (read_any _ [1, 2, 5] _ _ (lit_bs w [1, 2, 5] _ rfl _ rfl (by decide)) (by decide)).mono ?_
  rintro e w1 ⟨b, rfl, hb, hR, hB⟩
  go_wp2_with fail
  refine (u16_any b _ _ hR).mono ?_
  rintro e w2 ⟨rfl, hR2, hg2⟩
  go_wp2_with fail
  refine (left_any b _ _ hR2).mono ?_
  rintro e w3 ⟨rfl, n, rfl⟩
  go_wp2_with fail
  obtain ⟨l1, l2⟩ := lit_bs2 (w2.drewN n) [7] [7] #[.int .u8 7] #[.int .u8 7] rfl rfl 1 1 rfl rfl (by decide) (by decide) w2.heap.size rfl
  refine (eq_any _ _ [7] [7] _ _ _ l1 l2).mono ?_
  rintro e w3 ⟨rfl, n3, rfl⟩
  go_wp2_with fail
  obtain ⟨l3, l4⟩ := lit_bs2 ((((w2.drewN n).alloc (.cells #[.int .u8 7] 5)).alloc (.cells #[.int .u8 7] 5)).drewN n3) [7] [8] #[.int .u8 7] #[.int .u8 8] rfl rfl 1 1 rfl rfl (by decide) (by decide) (w2.heap.size + 1 + 1) (by simp)
  refine (eq_any _ _ [7] [8] _ _ _ l3 l4).mono ?_
  rintro e w4 ⟨rfl, n4, rfl⟩
  go_wp2
  go_ret
  have h2 : Below w.heap.size w w2 := below_gr (below_tr (below_al (Below.refl _ _) _) hB) hg2 (by simp at hb; omega)
  exact ⟨rfl, below_dn (below_al (below_al (below_dn (below_al (below_al (below_dn h2 _) _) _) _) _) _) _⟩

set_option maxHeartbeats 1000000 in
theorem holds_walk (v1 v2 : Value) (xs ys : List UInt8) (w : World) (h : Bs w (· < w.heap.size) v1 xs) (g : Bs w (· < w.heap.size) v2 ys) (hb : xs.length ≤ 1048576) :
    Calls Try.prog 3 #[v1, v2] w fun e w' => e = .returned (.bool true) ∧ Below w.heap.size w w' := by
  obtain ⟨A, c, rfl, l1, l2, -, -⟩ := h.open_
  unfold maxLen at l2
  go_enter Try.func3, Try.ntmps3
  go_wp2_with fail
  refine (wakes_any w).mono ?_
  rintro e w1 ⟨rfl, hB1⟩
  have h1 := h.below hB1
  have g1 := g.below hB1
  go_wp2
  go_loop [5, 12] (fun z i => ∃ k : Nat, k ≤ xs.length ∧ i = .int .i64 k ∧ z = .bool ((xs.take k).all (· == 0))) (fun _ i => xs.length - (intOf i).toNat)
  case atStart => exact ⟨0, Nat.zero_le _, rfl, rfl⟩
  case round =>
    obtain ⟨k, hk, rfl, rfl⟩ := hrel
    by_cases hlt : k < xs.length
    · obtain ⟨ad, rfl, -, -, hx⟩ := h1.cell k hlt
      have hz : (xs.take (k + 1)).all (· == 0) = ((xs.take k).all (· == 0) && ((xs[k].toNat : Int) == 0)) := by
        rw [take_snoc _ _ hlt, List.all_append]
        simp only [List.all_cons, List.all_nil, Bool.and_true]
        congr 1
        rw [Bool.eq_iff_iff]
        simp only [beq_iff_eq]
        exact ⟨fun e => by rw [e]; rfl, fun e => UInt8.toNat_inj.1 (by simpa using e)⟩
      have HZ := Lib.hid hz
      clear hz
      generalize (xs.take k).all (· == 0) = z at *
      cases z
      all_goals
        go_wp2
        exact ⟨⟨k + 1, by omega, by go_num, by rw [HZ.out]; rfl⟩, by simp only [intOf]; omega⟩
    · obtain rfl : k = xs.length := by omega
      rw [List.take_length]
      have hz := zero_any (.slice A xs.length c) xs
      go_wp2_with fail
      refine (eq_any _ _ xs ys _ _ _ h1 g1).mono ?_
      rintro e w2 ⟨rfl, n2, rfl⟩
      go_wp2_with fail
      refine (same_any _ _ xs ys _ _ _ (h1.below (below_dn (Below.refl _ _) _)) (g1.below (below_dn (Below.refl _ _) _))).mono ?_
      rintro e w3 ⟨rfl, n3, rfl⟩
      go_wp2_with (at_builtin; go_must (refine app Try.el8 rfl _ _ rfl w.heap.size (World.ownsRow_lit _ _ 0 (by simp; exact hB1.size) (by simp [maxLen]) rfl) (Sl.below h1 (by omega) (by repeat' (first | exact Below.refl _ _ | assumption | with_reducible refine below_dn ?_ _ | with_reducible refine below_al ?_ _))) rfl rfl (one_bvs xs) (by omega) (by omega) (by simp; have := hB1.size; omega) ?_); intro v4 w4 ho hg)
      rw [Nat.zero_add, List.nil_append] at ho
      have hB4 : Below w1.heap.size w1 w4 := Below.grown (below_al (below_dn (Below.refl w1.heap.size w1) (n2 + n3)) (.cells #[] 5)) hg (by simp) (fun k e => by cases e; simp)
      refine (eq_any _ _ xs xs _ _ _ (h1.below hB4) (Sl.of_own ho)).mono ?_
      rintro e w5 ⟨rfl, n5, rfl⟩
      go_wp2_with fail
      refine (zero_any _ xs _ _ (h1.below (below_dn hB4 _))).mono ?_
      rintro e w6 ⟨rfl, rfl⟩
      go_wp2
      go_ret
      exact ⟨rfl, below_dn (below_tr hB1 hB4) _⟩

end Go.Proofs.Ytifgieejmpfcdaa
