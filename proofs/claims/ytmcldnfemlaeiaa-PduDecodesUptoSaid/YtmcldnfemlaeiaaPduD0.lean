/- Layer 11's walk of Decode at kind 0. No condition beyond sizes. -/
import Derived.Test.YtmcldnfemlaeiaaPduD
namespace Go.Proofs.Ytmcldnfemlaeiaa
open Go.RowKit K L
set_option linter.unusedVariables false
set_option linter.unusedSimpArgs false

set_option maxRecDepth 100000 in
set_option maxHeartbeats 4000000 in
theorem decode_0 (v : Value) (xs : List UInt8) (w : World) (F : Nat → Prop) (h : Bs w F v xs) (hl : xs.length ≤ 100000000) (hx : xs = []) (hk : kindOf xs = 0) :
    Calls Try.prog 15 #[v] w fun e w' => ∃ vb, e = .returned (.tuple #[.agg ((decM xs).cells vb).toArray, .int .i64 (decE xs)]) ∧ Ob w' w.heap.size 5 vb (decM xs).bytes ∧ Below w.heap.size w w' := by
  subst hx
  have hb := h
  obtain ⟨A, c, rfl, l1, l2, -, -⟩ := h.open_
  unfold maxLen at l2
  clear h
  go_enter Try.func15, Try.ntmps15
  go_wp2_with fail
  obtain ⟨hz, hB0, hb1, hsz⟩ := box_one w (.cells #[.int .i64 0, .int .u32 0, .string ⟨#[]⟩, .int .i64 0, .int .i64 0, .int .u32 0, .int .i64 0, .slice none 0 0] 25) _ _ _ hb
  clear hb
  generalize w.alloc (.cells #[.int .i64 0, .int .u32 0, .string ⟨#[]⟩, .int .i64 0, .int .i64 0, .int .u32 0, .int .i64 0, .slice none 0 0] 25) = W at *
  refine (read_any _ [] W F hb1 (by omega)).mono ?_
  rintro e w1 ⟨b, rfl, hbl, hR, hB1⟩
  go_wp2_with fail
  refine (u8_any b _ w1 hR).mono ?_
  rintro e w2 ⟨rfl, hR, hg⟩
  have hk1 : ((num (Rs.take ⟨[], 0, 0⟩ 1).2 : Nat) : Int) = 0 := hk
  have hd : decR [] = chain 0 (Rs.take ⟨[], 0, 0⟩ 1).1 := by rw [decR, hk]
  rw [hk1]
  have hp0 : (Rs.take ⟨[], 0, 0⟩ 1).1.pos ≤ (Rs.take ⟨[], 0, 0⟩ 1).1.xs.length := Rs.take_pos _ _ (Nat.zero_le _)
  have he1 : (Rs.take ⟨[], 0, 0⟩ 1).1.err ≠ 0 := by decide
  generalize (Rs.take ⟨[], 0, 0⟩ 1).1 = r1 at *
  clear hk1
  have hB2 : Below W.heap.size W w2 := below_gr hB1 hg hbl
  replace hz : w2.heap[w.heap.size]? = some _ := heap_bl hB2 hz
  have hbp := hR.lt
  have hWp := hB2.size
  go_wp2_with fail
  replace hR : IsR (w2.alloc (.cells #[.int .i64 0, .int .u32 0, .string ⟨#[]⟩, .int .i64 0, .int .i64 0, .int .u32 0, .int .i64 0, .slice none 0 0] 25)) b r1 := hR.below (below_al (Below.refl _ _) _)
  have hB : Below W.heap.size W (w2.alloc (.cells #[.int .i64 0, .int .u32 0, .string ⟨#[]⟩, .int .i64 0, .int .i64 0, .int .u32 0, .int .i64 0, .slice none 0 0] 25)) := below_al hB2 _
  have hZ : (w2.alloc (.cells #[.int .i64 0, .int .u32 0, .string ⟨#[]⟩, .int .i64 0, .int .i64 0, .int .u32 0, .int .i64 0, .slice none 0 0] 25)).heap[w.heap.size]? = some _ := heap_al hz _
  have hm := heap_alloc_new w2 (.cells #[.int .i64 0, .int .u32 0, .string ⟨#[]⟩, .int .i64 0, .int .i64 0, .int .u32 0, .int .i64 0, .slice none 0 0] 25)
  have hps : w2.heap.size < (w2.alloc (.cells #[.int .i64 0, .int .u32 0, .string ⟨#[]⟩, .int .i64 0, .int .i64 0, .int .u32 0, .int .i64 0, .slice none 0 0] 25)).heap.size := by rw [World.size_alloc]; omega
  generalize w2.alloc (.cells #[.int .i64 0, .int .u32 0, .string ⟨#[]⟩, .int .i64 0, .int .i64 0, .int .u32 0, .int .i64 0, .slice none 0 0] 25) = w3 at *
  generalize w2.heap.size = p at *
  clear hB2 hz hg hB1
  have HB0 := Lib.hid hB0
  clear hB0
  refine (fields_is _ 0 rfl _).mono ?_
  rintro e w' ⟨rfl, rfl⟩
  go_wp2_with fail
  refine (u32_any b r1 _ hR).mono ?_
  rintro e w4 ⟨rfl, hR, hg⟩
  replace hm := gr_heap hg hm (by omega)
  replace hZ := gr_heap hg hZ (by omega)
  replace hB := below_gr hB hg hbl
  replace hps := Nat.lt_of_lt_of_le hps hg.size
  clear hg
  have n1 : num (Rs.take r1 4).2 < 4294967296 := Rs.take_num4 r1
  have hp := Rs.take_pos r1 4 hp0
  have he : (Rs.take r1 4).1.err ≠ 0 := by unfold Rs.take; rw [if_pos he1]; exact he1
  generalize hTa : (Rs.take r1 4).1 = r2 at *
  generalize hTb : (Rs.take r1 4).2 = t1 at *
  replace hp0 := hp
  have A1 := Lib.hid hTa
  have B1 := Lib.hid hTb
  clear hTa hTb hp
  have c0 := cell_of hm 0
  have c1 := cell_of hm 1
  have c2 := cell_of hm 2
  have c3 := cell_of hm 3
  have c4 := cell_of hm 4
  have c5 := cell_of hm 5
  have c6 := cell_of hm 6
  have c7 := cell_of hm 7
  simp at c0 c1 c2 c3 c4 c5 c6 c7
  have f0 := frozen_of hm 0
  have f1 := frozen_of hm 1
  have f2 := frozen_of hm 2
  have f3 := frozen_of hm 3
  have f4 := frozen_of hm 4
  have f5 := frozen_of hm 5
  have f6 := frozen_of hm 6
  have f7 := frozen_of hm 7
  have d0 := cell_of hZ 0
  have d1 := cell_of hZ 1
  have d2 := cell_of hZ 2
  have d3 := cell_of hZ 3
  have d4 := cell_of hZ 4
  have d5 := cell_of hZ 5
  have d6 := cell_of hZ 6
  have d7 := cell_of hZ 7
  simp at d0 d1 d2 d3 d4 d5 d6 d7
  have g0 := frozen_of hZ 0
  have g1 := frozen_of hZ 1
  have g2 := frozen_of hZ 2
  have g3 := frozen_of hZ 3
  have g4 := frozen_of hZ 4
  have g5 := frozen_of hZ 5
  have g6 := frozen_of hZ 6
  have g7 := frozen_of hZ 7
  go_wp2_with fail
  clear c0 c1 c2 c3 c4 c5 c6 c7 f0 f1 f2 f3 f4 f5 f6 f7 d0 d1 d2 d3 d4 d5 d6 d7 g0 g1 g2 g3 g4 g5 g6 g7
  obtain ⟨hm', hR', hB', hZ', hs'⟩ := put_cell hm 1 (.int .u32 (num t1 : Nat)) hR hbp hB hWp hZ (by omega)
  simp only [List.setIfInBounds_toArray, List.set_cons_succ, List.set_cons_zero] at hm'
  generalize World.setCell _ ⟨p, 1, none⟩ (.int .u32 (num t1 : Nat)) = w5 at *
  replace hps : p < w5.heap.size := by omega
  clear hm hR hB hZ hs'
  have hm := hm'
  have hR := hR'
  have hB := hB'
  have hZ := hZ'
  clear hm' hR' hB' hZ'
  refine (has_any 0 1 (by decide) (by decide) _).mono ?_
  rw [show fhas 0 1 = false from by decide]
  rintro e w' ⟨rfl, rfl⟩
  go_wp2_with fail
  refine (has_any 0 2 (by decide) (by decide) _).mono ?_
  rw [show fhas 0 2 = false from by decide]
  rintro e w' ⟨rfl, rfl⟩
  go_wp2_with fail
  refine (has_any 0 4 (by decide) (by decide) _).mono ?_
  rw [show fhas 0 4 = false from by decide]
  rintro e w' ⟨rfl, rfl⟩
  go_wp2_with fail
  refine (has_any 0 8 (by decide) (by decide) _).mono ?_
  rw [show fhas 0 8 = false from by decide]
  rintro e w' ⟨rfl, rfl⟩
  go_wp2_with fail
  refine (has_any 0 16 (by decide) (by decide) _).mono ?_
  rw [show fhas 0 16 = false from by decide]
  rintro e w' ⟨rfl, rfl⟩
  go_wp2_with fail
  refine (has_any 0 32 (by decide) (by decide) _).mono ?_
  rw [show fhas 0 32 = false from by decide]
  rintro e w' ⟨rfl, rfl⟩
  go_wp2_with fail
  have hch : decR [] = (⟨0, num t1, [], (0 : Nat), (0 : Nat), 0, (0 : Nat), []⟩, r2) := by
    rw [hd]
    simp [chain, show fldN 0 = false from rfl, show fldS 0 = false from rfl, show fldO 0 = false from rfl, show fldU 0 = false from rfl, show fldC 0 = false from rfl, show fldB 0 = false from rfl, A1.out, B1.out, show num [] = 0 from rfl]
  have HCH := Lib.hid hch
  clear hch hd
  refine (err_any b r2 _ hR).mono ?_
  rintro e w' ⟨rfl, rfl⟩
  have he' : (r2.err != 0) = true := by simpa using he
  have c0 := cell_of hm 0
  have c1 := cell_of hm 1
  have c2 := cell_of hm 2
  have c3 := cell_of hm 3
  have c4 := cell_of hm 4
  have c5 := cell_of hm 5
  have c6 := cell_of hm 6
  have c7 := cell_of hm 7
  simp at c0 c1 c2 c3 c4 c5 c6 c7
  have f0 := frozen_of hm 0
  have f1 := frozen_of hm 1
  have f2 := frozen_of hm 2
  have f3 := frozen_of hm 3
  have f4 := frozen_of hm 4
  have f5 := frozen_of hm 5
  have f6 := frozen_of hm 6
  have f7 := frozen_of hm 7
  have d0 := cell_of hZ 0
  have d1 := cell_of hZ 1
  have d2 := cell_of hZ 2
  have d3 := cell_of hZ 3
  have d4 := cell_of hZ 4
  have d5 := cell_of hZ 5
  have d6 := cell_of hZ 6
  have d7 := cell_of hZ 7
  simp at d0 d1 d2 d3 d4 d5 d6 d7
  have g0 := frozen_of hZ 0
  have g1 := frozen_of hZ 1
  have g2 := frozen_of hZ 2
  have g3 := frozen_of hZ 3
  have g4 := frozen_of hZ 4
  have g5 := frozen_of hZ 5
  have g6 := frozen_of hZ 6
  have g7 := frozen_of hZ 7
  go_wp2
  clear c0 c1 c2 c3 c4 c5 c6 c7 f0 f1 f2 f3 f4 f5 f6 f7 d0 d1 d2 d3 d4 d5 d6 d7 g0 g1 g2 g3 g4 g5 g6 g7
  obtain ⟨hf, hf2, hf3⟩ := eight hZ (.int .i64 0) (.int .u32 0) (.string ⟨#[]⟩) (.int .i64 0) (.int .i64 0) (.int .u32 0) (.int .i64 0) (.slice none 0 0)
  generalize (World.setCell _ ⟨w.heap.size, 7, none⟩ (.slice none 0 0)) = wf at *
  have d0 := cell_of hf 0
  have d1 := cell_of hf 1
  have d2 := cell_of hf 2
  have d3 := cell_of hf 3
  have d4 := cell_of hf 4
  have d5 := cell_of hf 5
  have d6 := cell_of hf 6
  have d7 := cell_of hf 7
  simp at d0 d1 d2 d3 d4 d5 d6 d7
  obtain ⟨hE, hM⟩ := dec_nil
  rw [hE, hM]
  exact bodyPost_ret (v := .tuple #[.agg #[(.int .i64 0), (.int .u32 0), (.string ⟨#[]⟩), (.int .i64 0), (.int .i64 0), (.int .u32 0), (.int .i64 0), (.slice none 0 0)], .int .i64 7]) (by simp [results, Try.results15, go_sem, d0, d1, d2, d3, d4, d5, d6, d7]) rfl ⟨(.slice none 0 0), rfl, Ob.nil _ _ _, hf2 (below_tr HB0.out (hB)) (Nat.le_refl _)⟩

end Go.Proofs.Ytmcldnfemlaeiaa
