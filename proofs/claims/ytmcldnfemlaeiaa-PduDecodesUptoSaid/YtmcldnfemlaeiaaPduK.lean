/- Layer 11's walks: Check at every message. No condition beyond sizes. -/
import Derived.Test.YtmcldnfemlaeiaaPduCz
namespace Go.Proofs.Ytmcldnfemlaeiaa
open Go.RowKit K L
set_option linter.unusedVariables false
set_option linter.unusedSimpArgs false

set_option maxRecDepth 100000 in
set_option maxHeartbeats 4000000 in
theorem check_0 (m : Msg) (vb : Value) (w : World) (F : Nat → Prop) (h : Bs w F vb m.bytes) (hk : fbits m.kind = 0) :
    Calls Try.prog 12 #[.agg (m.cells vb).toArray] w fun e w' => e = .returned (.int .i64 210) ∧ Below w.heap.size w w' := by
  obtain ⟨A, c, rfl, l1, l2, -, -⟩ := h.open_
  unfold maxLen at l2
  clear h
  obtain ⟨kind, number, name, size, off, sum, code, bytes⟩ := m
  dsimp only at hk l1 ⊢
  unfold Msg.cells
  dsimp only
  go_enter Try.func12, Try.ntmps12
  go_wp2_with (go_at_call 20; refine (fields_is _ 0 hk _).mono ?_; rintro e w1 ⟨rfl, rfl⟩)
  obtain ⟨hm, hf, hb, hB⟩ := three w (.cells #[.int .i64 kind, .int .u32 (number : Nat), .string ⟨name.toArray⟩, .int .i64 size, .int .i64 off, .int .u32 (sum : Nat), .int .i64 code, .slice A bytes.length c] 25) (.cells #[.int .i64 0] 40) (.cells #[.bool false] 4)
  generalize (((w.alloc (.cells #[.int .i64 kind, .int .u32 (number : Nat), .string ⟨name.toArray⟩, .int .i64 size, .int .i64 off, .int .u32 (sum : Nat), .int .i64 code, .slice A bytes.length c] 25)).alloc (.cells #[.int .i64 0] 40)).alloc (.cells #[.bool false] 4)) = w0 at *
  refine (plain_heap 0 1 _ false (by decide) (by decide) _ _ (by omega) _ _ _ hb hf).mono ?_
  rintro e w1 ⟨rfl, hb', hg⟩
  replace hm := gr_heap hg hm (by omega)
  replace hf := gr_heap hg hf (by omega)
  replace hB := below_gr hB hg (by omega)
  rw [Bool.false_and] at hb'
  replace hb := hb'
  clear hb' hg
  have m0 := cell_of hm 0
  have m1 := cell_of hm 1
  have m2 := cell_of hm 2
  have m3 := cell_of hm 3
  have m4 := cell_of hm 4
  have m5 := cell_of hm 5
  have m6 := cell_of hm 6
  have m7 := cell_of hm 7
  have cf := cell_of hf 0
  have cb := cell_of hb 0
  have fb := frozen_of hb 0
  simp at m0 m1 m2 m3 m4 m5 m6 m7 cf cb
  go_wp2_with fail
  clear m0 m1 m2 m3 m4 m5 m6 m7 cf cb fb
  refine (plain_heap 0 2 _ false (by decide) (by decide) _ _ (by omega) _ _ _ hb hf).mono ?_
  rintro e w2 ⟨rfl, hb', hg⟩
  replace hm := gr_heap hg hm (by omega)
  replace hf := gr_heap hg hf (by omega)
  replace hB := below_gr hB hg (by omega)
  rw [Bool.false_and] at hb'
  replace hb := hb'
  clear hb' hg
  have m0 := cell_of hm 0
  have m1 := cell_of hm 1
  have m2 := cell_of hm 2
  have m3 := cell_of hm 3
  have m4 := cell_of hm 4
  have m5 := cell_of hm 5
  have m6 := cell_of hm 6
  have m7 := cell_of hm 7
  have cf := cell_of hf 0
  have cb := cell_of hb 0
  have fb := frozen_of hb 0
  simp at m0 m1 m2 m3 m4 m5 m6 m7 cf cb
  go_wp2_with fail
  clear m0 m1 m2 m3 m4 m5 m6 m7 cf cb fb
  refine (plain_heap 0 4 _ false (by decide) (by decide) _ _ (by omega) _ _ _ hb hf).mono ?_
  rintro e w3 ⟨rfl, hb', hg⟩
  replace hm := gr_heap hg hm (by omega)
  replace hf := gr_heap hg hf (by omega)
  replace hB := below_gr hB hg (by omega)
  rw [Bool.false_and] at hb'
  replace hb := hb'
  clear hb' hg
  have m0 := cell_of hm 0
  have m1 := cell_of hm 1
  have m2 := cell_of hm 2
  have m3 := cell_of hm 3
  have m4 := cell_of hm 4
  have m5 := cell_of hm 5
  have m6 := cell_of hm 6
  have m7 := cell_of hm 7
  have cf := cell_of hf 0
  have cb := cell_of hb 0
  have fb := frozen_of hb 0
  simp at m0 m1 m2 m3 m4 m5 m6 m7 cf cb
  go_wp2_with fail
  clear m0 m1 m2 m3 m4 m5 m6 m7 cf cb fb
  refine (plain_heap 0 8 _ false (by decide) (by decide) _ _ (by omega) _ _ _ hb hf).mono ?_
  rintro e w4 ⟨rfl, hb', hg⟩
  replace hm := gr_heap hg hm (by omega)
  replace hf := gr_heap hg hf (by omega)
  replace hB := below_gr hB hg (by omega)
  rw [Bool.false_and] at hb'
  replace hb := hb'
  clear hb' hg
  have m0 := cell_of hm 0
  have m1 := cell_of hm 1
  have m2 := cell_of hm 2
  have m3 := cell_of hm 3
  have m4 := cell_of hm 4
  have m5 := cell_of hm 5
  have m6 := cell_of hm 6
  have m7 := cell_of hm 7
  have cf := cell_of hf 0
  have cb := cell_of hb 0
  have fb := frozen_of hb 0
  simp at m0 m1 m2 m3 m4 m5 m6 m7 cf cb
  go_wp2_with fail
  clear m0 m1 m2 m3 m4 m5 m6 m7 cf cb fb
  refine (plain_heap 0 16 _ false (by decide) (by decide) _ _ (by omega) _ _ _ hb hf).mono ?_
  rintro e w5 ⟨rfl, hb', hg⟩
  replace hm := gr_heap hg hm (by omega)
  replace hf := gr_heap hg hf (by omega)
  replace hB := below_gr hB hg (by omega)
  rw [Bool.false_and] at hb'
  replace hb := hb'
  clear hb' hg
  have m0 := cell_of hm 0
  have m1 := cell_of hm 1
  have m2 := cell_of hm 2
  have m3 := cell_of hm 3
  have m4 := cell_of hm 4
  have m5 := cell_of hm 5
  have m6 := cell_of hm 6
  have m7 := cell_of hm 7
  have cf := cell_of hf 0
  have cb := cell_of hb 0
  have fb := frozen_of hb 0
  simp at m0 m1 m2 m3 m4 m5 m6 m7 cf cb
  go_wp2_with fail
  clear m0 m1 m2 m3 m4 m5 m6 m7 cf cb fb
  refine (plain_heap 0 32 _ false (by decide) (by decide) _ _ (by omega) _ _ _ hb hf).mono ?_
  rintro e w6 ⟨rfl, hb', hg⟩
  replace hm := gr_heap hg hm (by omega)
  replace hf := gr_heap hg hf (by omega)
  replace hB := below_gr hB hg (by omega)
  rw [Bool.false_and] at hb'
  replace hb := hb'
  clear hb' hg
  have m0 := cell_of hm 0
  have m1 := cell_of hm 1
  have m2 := cell_of hm 2
  have m3 := cell_of hm 3
  have m4 := cell_of hm 4
  have m5 := cell_of hm 5
  have m6 := cell_of hm 6
  have m7 := cell_of hm 7
  have cf := cell_of hf 0
  have cb := cell_of hb 0
  have fb := frozen_of hb 0
  simp at m0 m1 m2 m3 m4 m5 m6 m7 cf cb
  have s1 := fun u => sc1 cb u
  have s2 := fun u1 u2 => sc1 (s1 u1) u2
  have s3 := fun u1 u2 u3 => sc1 (s2 u1 u2) u3
  go_wp2
  go_ret
  exact ⟨rfl, (by repeat' (first | exact Below.refl _ _ | assumption | with_reducible refine below_dn ?_ _ | with_reducible refine below_al ?_ _ | with_reducible refine Below.drew ?_ | (with_reducible refine below_sc ?_ ?_ _) | (simp; done) | (simp; omega)))⟩

theorem fbits_0 (k : Int) (h1 : k ≠ 1) (h2 : k ≠ 2) (h3 : k ≠ 3) (h4 : k ≠ 4) (h5 : k ≠ 5) (h6 : k ≠ 6) (h7 : k ≠ 7) (h8 : k ≠ 8) : fbits k = 0 := by simp [fbits, h1, h2, h3, h4, h5, h6, h7, h8]

theorem box_one (w : World) (o : Obj) (F : Nat → Prop) (v : Value) (xs : List UInt8) (h : Bs w F v xs) :
    (w.alloc o).heap[w.heap.size]? = some o ∧ Below w.heap.size w (w.alloc o) ∧ Bs (w.alloc o) F v xs ∧ (w.alloc o).heap.size = w.heap.size + 1 :=
  ⟨heap_alloc_new _ _, below_al (Below.refl _ _) _, h.below (below_al (Below.refl _ _) _), World.size_alloc _ _⟩

theorem check_any (m : Msg) (vb : Value) (w : World) (F : Nat → Prop) (h : Bs w F vb m.bytes) (hl : m.name.length ≤ 1000000000) :
    Calls Try.prog 12 #[.agg (m.cells vb).toArray] w fun e w' => e = .returned (.int .i64 (okErr m)) ∧ Below w.heap.size w w' := by
  by_cases h1 : m.kind = 1
  · exact check_1 m vb w F h h1 hl
  by_cases h2 : m.kind = 2
  · exact check_2 m vb w F h h2 hl
  by_cases h3 : m.kind = 3
  · exact check_3 m vb w F h h3 hl
  by_cases h4 : m.kind = 4
  · exact check_4 m vb w F h h4 hl
  by_cases h5 : m.kind = 5
  · exact check_5 m vb w F h h5 hl
  by_cases h6 : m.kind = 6
  · exact check_6 m vb w F h h6 hl
  by_cases h7 : m.kind = 7
  · exact check_7 m vb w F h h7 hl
  by_cases h8 : m.kind = 8
  · exact check_8 m vb w F h h8 hl
  have e : okErr m = 210 := by rw [okErr, if_neg]; intro ho; have := ho.1; omega
  rw [e]
  exact check_0 m vb w F h (fbits_0 _ h1 h2 h3 h4 h5 h6 h7 h8)

end Go.Proofs.Ytmcldnfemlaeiaa
