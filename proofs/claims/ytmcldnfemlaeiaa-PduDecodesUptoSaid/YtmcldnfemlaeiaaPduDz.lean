/- Layer 11's walk of Decode at kind 1. No condition beyond sizes. -/
import Derived.Test.YtmcldnfemlaeiaaPduD
namespace Go.Proofs.Ytmcldnfemlaeiaa
open Go.RowKit K L
set_option linter.unusedVariables false
set_option linter.unusedSimpArgs false

set_option maxRecDepth 100000 in
set_option maxHeartbeats 4000000 in
theorem decode_1 (v : Value) (xs : List UInt8) (w : World) (F : Nat → Prop) (h : Bs w F v xs) (hl : xs.length ≤ 100000000) (hx : 0 < xs.length) (hk : kindOf xs = 1) :
    Calls Try.prog 15 #[v] w fun e w' => ∃ vb, e = .returned (.tuple #[.agg ((decM xs).cells vb).toArray, .int .i64 (decE xs)]) ∧ Ob w' w.heap.size 5 vb (decM xs).bytes ∧ Below w.heap.size w w' := by

  have hb := h
  obtain ⟨A, c, rfl, l1, l2, -, -⟩ := h.open_
  unfold maxLen at l2
  clear h
  go_enter Try.func15, Try.ntmps15
  go_wp2_with fail
  obtain ⟨hz, hB0, hb1, hsz⟩ := box_one w (.cells #[.int .i64 0, .int .u32 0, .string ⟨#[]⟩, .int .i64 0, .int .i64 0, .int .u32 0, .int .i64 0, .slice none 0 0] 25) _ _ _ hb
  clear hb
  generalize w.alloc (.cells #[.int .i64 0, .int .u32 0, .string ⟨#[]⟩, .int .i64 0, .int .i64 0, .int .u32 0, .int .i64 0, .slice none 0 0] 25) = W at *
  refine (read_any _ xs W F hb1 (by omega)).mono ?_
  rintro e w1 ⟨b, rfl, hbl, hR, hB1⟩
  go_wp2_with fail
  refine (u8_any b _ w1 hR).mono ?_
  rintro e w2 ⟨rfl, hR, hg⟩
  have hk1 : ((num (Rs.take ⟨xs, 0, 0⟩ 1).2 : Nat) : Int) = 1 := hk
  have hd : decR xs = chain 1 (Rs.take ⟨xs, 0, 0⟩ 1).1 := by rw [decR, hk]
  rw [hk1]
  have hp0 : (Rs.take ⟨xs, 0, 0⟩ 1).1.pos ≤ (Rs.take ⟨xs, 0, 0⟩ 1).1.xs.length := Rs.take_pos _ _ (Nat.zero_le _)

  generalize (Rs.take ⟨xs, 0, 0⟩ 1).1 = r1 at *
  clear hk1
  have hB2 : Below W.heap.size W w2 := below_gr hB1 hg hbl
  replace hz : w2.heap[w.heap.size]? = some _ := heap_bl hB2 hz
  have hbp := hR.lt
  have hWp := hB2.size
  go_wp2_with fail
  replace hR : IsR (w2.alloc (.cells #[.int .i64 1, .int .u32 0, .string ⟨#[]⟩, .int .i64 0, .int .i64 0, .int .u32 0, .int .i64 0, .slice none 0 0] 25)) b r1 := hR.below (below_al (Below.refl _ _) _)
  have hB : Below W.heap.size W (w2.alloc (.cells #[.int .i64 1, .int .u32 0, .string ⟨#[]⟩, .int .i64 0, .int .i64 0, .int .u32 0, .int .i64 0, .slice none 0 0] 25)) := below_al hB2 _
  have hZ : (w2.alloc (.cells #[.int .i64 1, .int .u32 0, .string ⟨#[]⟩, .int .i64 0, .int .i64 0, .int .u32 0, .int .i64 0, .slice none 0 0] 25)).heap[w.heap.size]? = some _ := heap_al hz _
  have hm := heap_alloc_new w2 (.cells #[.int .i64 1, .int .u32 0, .string ⟨#[]⟩, .int .i64 0, .int .i64 0, .int .u32 0, .int .i64 0, .slice none 0 0] 25)
  have hps : w2.heap.size < (w2.alloc (.cells #[.int .i64 1, .int .u32 0, .string ⟨#[]⟩, .int .i64 0, .int .i64 0, .int .u32 0, .int .i64 0, .slice none 0 0] 25)).heap.size := by rw [World.size_alloc]; omega
  generalize w2.alloc (.cells #[.int .i64 1, .int .u32 0, .string ⟨#[]⟩, .int .i64 0, .int .i64 0, .int .u32 0, .int .i64 0, .slice none 0 0] 25) = w3 at *
  generalize w2.heap.size = p at *
  clear hB2 hz hg hB1
  have HB0 := Lib.hid hB0
  clear hB0
  refine (fields_is _ 3 rfl _).mono ?_
  rintro e w' ⟨rfl, rfl⟩
  go_wp2_with fail
  refine (u32_any b r1 _ hR).mono ?_
  rintro e w4 ⟨rfl, hR, hg⟩
  replace hm := gr_heap hg hm (by omega)
  replace hZ := gr_heap hg hZ (by omega)
  replace hB := below_gr hB hg hbl
  replace hps := Nat.lt_of_lt_of_le hps hg.size
  clear hg
  have n1 : num (Rs.take r1 4).2 < 4294967296 := Rs.take_num4 r1
  have hp := Rs.take_pos r1 4 hp0

  generalize hTa : (Rs.take r1 4).1 = r2 at *
  generalize hTb : (Rs.take r1 4).2 = t1 at *
  replace hp0 := hp
  have A1 := Lib.hid hTa
  have B1 := Lib.hid hTb
  clear hTa hTb hp
  have c0 := cell_of hm 0
  have c1 := cell_of hm 1
  have c2 := cell_of hm 2
  have c3 := cell_of hm 3
  have c4 := cell_of hm 4
  have c5 := cell_of hm 5
  have c6 := cell_of hm 6
  have c7 := cell_of hm 7
  simp at c0 c1 c2 c3 c4 c5 c6 c7
  have f0 := frozen_of hm 0
  have f1 := frozen_of hm 1
  have f2 := frozen_of hm 2
  have f3 := frozen_of hm 3
  have f4 := frozen_of hm 4
  have f5 := frozen_of hm 5
  have f6 := frozen_of hm 6
  have f7 := frozen_of hm 7
  have d0 := cell_of hZ 0
  have d1 := cell_of hZ 1
  have d2 := cell_of hZ 2
  have d3 := cell_of hZ 3
  have d4 := cell_of hZ 4
  have d5 := cell_of hZ 5
  have d6 := cell_of hZ 6
  have d7 := cell_of hZ 7
  simp at d0 d1 d2 d3 d4 d5 d6 d7
  have g0 := frozen_of hZ 0
  have g1 := frozen_of hZ 1
  have g2 := frozen_of hZ 2
  have g3 := frozen_of hZ 3
  have g4 := frozen_of hZ 4
  have g5 := frozen_of hZ 5
  have g6 := frozen_of hZ 6
  have g7 := frozen_of hZ 7
  go_wp2_with fail
  clear c0 c1 c2 c3 c4 c5 c6 c7 f0 f1 f2 f3 f4 f5 f6 f7 d0 d1 d2 d3 d4 d5 d6 d7 g0 g1 g2 g3 g4 g5 g6 g7
  obtain ⟨hm', hR', hB', hZ', hs'⟩ := put_cell hm 1 (.int .u32 (num t1 : Nat)) hR hbp hB hWp hZ (by omega)
  simp only [List.setIfInBounds_toArray, List.set_cons_succ, List.set_cons_zero] at hm'
  generalize World.setCell _ ⟨p, 1, none⟩ (.int .u32 (num t1 : Nat)) = w5 at *
  replace hps : p < w5.heap.size := by omega
  clear hm hR hB hZ hs'
  have hm := hm'
  have hR := hR'
  have hB := hB'
  have hZ := hZ'
  clear hm' hR' hB' hZ'
  refine (has_any 3 1 (by decide) (by decide) _).mono ?_
  rw [show fhas 3 1 = true from by decide]
  rintro e w' ⟨rfl, rfl⟩
  go_wp2_with fail
  refine (u8_any b r2 _ hR).mono ?_
  rintro e w4 ⟨rfl, hR, hg⟩
  replace hm := gr_heap hg hm (by omega)
  replace hZ := gr_heap hg hZ (by omega)
  replace hB := below_gr hB hg hbl
  replace hps := Nat.lt_of_lt_of_le hps hg.size
  clear hg
  have n2 : num (Rs.take r2 1).2 < 256 := Rs.take_num1 r2
  have hp := Rs.take_pos r2 1 hp0

  generalize hTa : (Rs.take r2 1).1 = r3 at *
  generalize hTb : (Rs.take r2 1).2 = t2 at *
  replace hp0 := hp
  have A2 := Lib.hid hTa
  have B2 := Lib.hid hTb
  clear hTa hTb hp
  go_wp2_with fail
  have hraw : Bs W (· < W.heap.size) (.slice none 0 0) [] := Sl.nil _ _ _
  refine (raw_any b r3 (num t2 : Nat) _ hR (by omega)).mono ?_
  clear hraw
  have hpw := hps
  rintro e w4 ⟨vb, rfl, ho, hR, hg⟩
  replace hm := gr_heap hg hm (by omega)
  replace hZ := gr_heap hg hZ (by omega)
  replace hB := below_gr hB hg hbl
  replace hps := Nat.lt_of_lt_of_le hps hg.size
  clear hg
  have hp := Rs.take_pos r3 (num t2 : Nat) hp0
  generalize hTa : (Rs.take r3 (num t2 : Nat)).1 = r4 at *
  generalize hTb : (Rs.take r3 (num t2 : Nat)).2 = t3 at *
  replace hp0 := hp
  have A3 := Lib.hid hTa
  have B3 := Lib.hid hTb
  clear hTa hTb hp
  have hname : t3.length ≤ 256 := by have := Rs.take_at r3 (num t2); rw [B3.out] at this; omega
  have c0 := cell_of hm 0
  have c1 := cell_of hm 1
  have c2 := cell_of hm 2
  have c3 := cell_of hm 3
  have c4 := cell_of hm 4
  have c5 := cell_of hm 5
  have c6 := cell_of hm 6
  have c7 := cell_of hm 7
  simp at c0 c1 c2 c3 c4 c5 c6 c7
  have f0 := frozen_of hm 0
  have f1 := frozen_of hm 1
  have f2 := frozen_of hm 2
  have f3 := frozen_of hm 3
  have f4 := frozen_of hm 4
  have f5 := frozen_of hm 5
  have f6 := frozen_of hm 6
  have f7 := frozen_of hm 7
  have d0 := cell_of hZ 0
  have d1 := cell_of hZ 1
  have d2 := cell_of hZ 2
  have d3 := cell_of hZ 3
  have d4 := cell_of hZ 4
  have d5 := cell_of hZ 5
  have d6 := cell_of hZ 6
  have d7 := cell_of hZ 7
  simp at d0 d1 d2 d3 d4 d5 d6 d7
  have g0 := frozen_of hZ 0
  have g1 := frozen_of hZ 1
  have g2 := frozen_of hZ 2
  have g3 := frozen_of hZ 3
  have g4 := frozen_of hZ 4
  have g5 := frozen_of hZ 5
  have g6 := frozen_of hZ 6
  have g7 := frozen_of hZ 7
  go_wp2_with (refine conv_str rfl (.tmp 33) rfl ho.bs rfl Try.underlying23 Try.underlying5 Try.underlying9 ?_)
  clear c0 c1 c2 c3 c4 c5 c6 c7 f0 f1 f2 f3 f4 f5 f6 f7 d0 d1 d2 d3 d4 d5 d6 d7 g0 g1 g2 g3 g4 g5 g6 g7
  clear ho
  obtain ⟨hm', hR', hB', hZ', hs'⟩ := put_cell hm 2 (.string ⟨t3.toArray⟩) hR hbp hB hWp hZ (by omega)
  simp only [List.setIfInBounds_toArray, List.set_cons_succ, List.set_cons_zero] at hm'
  generalize World.setCell _ ⟨p, 2, none⟩ (.string ⟨t3.toArray⟩) = w5 at *
  replace hps : p < w5.heap.size := by omega
  clear hm hR hB hZ hs'
  have hm := hm'
  have hR := hR'
  have hB := hB'
  have hZ := hZ'
  clear hm' hR' hB' hZ'
  refine (has_any 3 2 (by decide) (by decide) _).mono ?_
  rw [show fhas 3 2 = true from by decide]
  rintro e w' ⟨rfl, rfl⟩
  go_wp2_with fail
  refine (u16_any b r4 _ hR).mono ?_
  rintro e w4 ⟨rfl, hR, hg⟩
  replace hm := gr_heap hg hm (by omega)
  replace hZ := gr_heap hg hZ (by omega)
  replace hB := below_gr hB hg hbl
  replace hps := Nat.lt_of_lt_of_le hps hg.size
  clear hg
  have n4 : num (Rs.take r4 2).2 < 65536 := Rs.take_num2 r4
  have hp := Rs.take_pos r4 2 hp0

  generalize hTa : (Rs.take r4 2).1 = r5 at *
  generalize hTb : (Rs.take r4 2).2 = t4 at *
  replace hp0 := hp
  have A4 := Lib.hid hTa
  have B4 := Lib.hid hTb
  clear hTa hTb hp
  have c0 := cell_of hm 0
  have c1 := cell_of hm 1
  have c2 := cell_of hm 2
  have c3 := cell_of hm 3
  have c4 := cell_of hm 4
  have c5 := cell_of hm 5
  have c6 := cell_of hm 6
  have c7 := cell_of hm 7
  simp at c0 c1 c2 c3 c4 c5 c6 c7
  have f0 := frozen_of hm 0
  have f1 := frozen_of hm 1
  have f2 := frozen_of hm 2
  have f3 := frozen_of hm 3
  have f4 := frozen_of hm 4
  have f5 := frozen_of hm 5
  have f6 := frozen_of hm 6
  have f7 := frozen_of hm 7
  have d0 := cell_of hZ 0
  have d1 := cell_of hZ 1
  have d2 := cell_of hZ 2
  have d3 := cell_of hZ 3
  have d4 := cell_of hZ 4
  have d5 := cell_of hZ 5
  have d6 := cell_of hZ 6
  have d7 := cell_of hZ 7
  simp at d0 d1 d2 d3 d4 d5 d6 d7
  have g0 := frozen_of hZ 0
  have g1 := frozen_of hZ 1
  have g2 := frozen_of hZ 2
  have g3 := frozen_of hZ 3
  have g4 := frozen_of hZ 4
  have g5 := frozen_of hZ 5
  have g6 := frozen_of hZ 6
  have g7 := frozen_of hZ 7
  go_wp2_with fail
  clear c0 c1 c2 c3 c4 c5 c6 c7 f0 f1 f2 f3 f4 f5 f6 f7 d0 d1 d2 d3 d4 d5 d6 d7 g0 g1 g2 g3 g4 g5 g6 g7
  obtain ⟨hm', hR', hB', hZ', hs'⟩ := put_cell hm 3 (.int .i64 (num t4 : Nat)) hR hbp hB hWp hZ (by omega)
  simp only [List.setIfInBounds_toArray, List.set_cons_succ, List.set_cons_zero] at hm'
  generalize World.setCell _ ⟨p, 3, none⟩ (.int .i64 (num t4 : Nat)) = w5 at *
  replace hps : p < w5.heap.size := by omega
  clear hm hR hB hZ hs'
  have hm := hm'
  have hR := hR'
  have hB := hB'
  have hZ := hZ'
  clear hm' hR' hB' hZ'
  refine (has_any 3 4 (by decide) (by decide) _).mono ?_
  rw [show fhas 3 4 = false from by decide]
  rintro e w' ⟨rfl, rfl⟩
  go_wp2_with fail
  refine (has_any 3 8 (by decide) (by decide) _).mono ?_
  rw [show fhas 3 8 = false from by decide]
  rintro e w' ⟨rfl, rfl⟩
  go_wp2_with fail
  refine (has_any 3 16 (by decide) (by decide) _).mono ?_
  rw [show fhas 3 16 = false from by decide]
  rintro e w' ⟨rfl, rfl⟩
  go_wp2_with fail
  refine (has_any 3 32 (by decide) (by decide) _).mono ?_
  rw [show fhas 3 32 = false from by decide]
  rintro e w' ⟨rfl, rfl⟩
  go_wp2_with fail
  have hch : decR xs = (⟨1, num t1, t3, (num t4 : Nat), (0 : Nat), 0, (0 : Nat), []⟩, r5) := by
    rw [hd]
    simp [chain, show fldN 1 = true from rfl, show fldS 1 = true from rfl, show fldO 1 = false from rfl, show fldU 1 = false from rfl, show fldC 1 = false from rfl, show fldB 1 = false from rfl, A1.out, B1.out, A2.out, B2.out, A3.out, B3.out, A4.out, B4.out, show num [] = 0 from rfl]
  have HCH := Lib.hid hch
  clear hch hd
  refine (err_any b r5 _ hR).mono ?_
  rintro e w' ⟨rfl, rfl⟩
  by_cases he : r5.err = 0
  · rw [he]
    have c0 := cell_of hm 0
    have c1 := cell_of hm 1
    have c2 := cell_of hm 2
    have c3 := cell_of hm 3
    have c4 := cell_of hm 4
    have c5 := cell_of hm 5
    have c6 := cell_of hm 6
    have c7 := cell_of hm 7
    simp at c0 c1 c2 c3 c4 c5 c6 c7
    have f0 := frozen_of hm 0
    have f1 := frozen_of hm 1
    have f2 := frozen_of hm 2
    have f3 := frozen_of hm 3
    have f4 := frozen_of hm 4
    have f5 := frozen_of hm 5
    have f6 := frozen_of hm 6
    have f7 := frozen_of hm 7
    have d0 := cell_of hZ 0
    have d1 := cell_of hZ 1
    have d2 := cell_of hZ 2
    have d3 := cell_of hZ 3
    have d4 := cell_of hZ 4
    have d5 := cell_of hZ 5
    have d6 := cell_of hZ 6
    have d7 := cell_of hZ 7
    simp at d0 d1 d2 d3 d4 d5 d6 d7
    have g0 := frozen_of hZ 0
    have g1 := frozen_of hZ 1
    have g2 := frozen_of hZ 2
    have g3 := frozen_of hZ 3
    have g4 := frozen_of hZ 4
    have g5 := frozen_of hZ 5
    have g6 := frozen_of hZ 6
    have g7 := frozen_of hZ 7
    go_wp2_with fail
    clear c0 c1 c2 c3 c4 c5 c6 c7 f0 f1 f2 f3 f4 f5 f6 f7 d0 d1 d2 d3 d4 d5 d6 d7 g0 g1 g2 g3 g4 g5 g6 g7
    refine (left_any b r5 _ hR).mono ?_
    rintro e w' ⟨rfl, n, rfl⟩
    replace hm : (w5.drewN n).heap[p]? = _ := hm
    replace hZ : (w5.drewN n).heap[w.heap.size]? = _ := hZ
    replace hB : Below W.heap.size W (w5.drewN n) := below_dn hB n

    generalize w5.drewN n = w6 at *
    by_cases hle : r5.pos < r5.xs.length
    · have hle' : (0 : Int) < (r5.xs.length : Int) - (r5.pos : Int) := by omega
      have c0 := cell_of hm 0
      have c1 := cell_of hm 1
      have c2 := cell_of hm 2
      have c3 := cell_of hm 3
      have c4 := cell_of hm 4
      have c5 := cell_of hm 5
      have c6 := cell_of hm 6
      have c7 := cell_of hm 7
      simp at c0 c1 c2 c3 c4 c5 c6 c7
      have f0 := frozen_of hm 0
      have f1 := frozen_of hm 1
      have f2 := frozen_of hm 2
      have f3 := frozen_of hm 3
      have f4 := frozen_of hm 4
      have f5 := frozen_of hm 5
      have f6 := frozen_of hm 6
      have f7 := frozen_of hm 7
      have d0 := cell_of hZ 0
      have d1 := cell_of hZ 1
      have d2 := cell_of hZ 2
      have d3 := cell_of hZ 3
      have d4 := cell_of hZ 4
      have d5 := cell_of hZ 5
      have d6 := cell_of hZ 6
      have d7 := cell_of hZ 7
      simp at d0 d1 d2 d3 d4 d5 d6 d7
      have g0 := frozen_of hZ 0
      have g1 := frozen_of hZ 1
      have g2 := frozen_of hZ 2
      have g3 := frozen_of hZ 3
      have g4 := frozen_of hZ 4
      have g5 := frozen_of hZ 5
      have g6 := frozen_of hZ 6
      have g7 := frozen_of hZ 7
      go_wp2
      clear c0 c1 c2 c3 c4 c5 c6 c7 f0 f1 f2 f3 f4 f5 f6 f7 d0 d1 d2 d3 d4 d5 d6 d7 g0 g1 g2 g3 g4 g5 g6 g7
      obtain ⟨hf, hf2, hf3⟩ := eight hZ (.int .i64 0) (.int .u32 0) (.string ⟨#[]⟩) (.int .i64 0) (.int .i64 0) (.int .u32 0) (.int .i64 0) (.slice none 0 0)
      generalize (World.setCell _ ⟨w.heap.size, 7, none⟩ (.slice none 0 0)) = wf at *
      have d0 := cell_of hf 0
      have d1 := cell_of hf 1
      have d2 := cell_of hf 2
      have d3 := cell_of hf 3
      have d4 := cell_of hf 4
      have d5 := cell_of hf 5
      have d6 := cell_of hf 6
      have d7 := cell_of hf 7
      simp at d0 d1 d2 d3 d4 d5 d6 d7
      obtain ⟨hE, hM⟩ := dec_bad hk (by decide) HCH.out he (.inl hle)
      rw [hE, hM]
      exact bodyPost_ret (v := .tuple #[.agg #[(.int .i64 0), (.int .u32 0), (.string ⟨#[]⟩), (.int .i64 0), (.int .i64 0), (.int .u32 0), (.int .i64 0), (.slice none 0 0)], .int .i64 210]) (by simp [results, Try.results15, go_sem, d0, d1, d2, d3, d4, d5, d6, d7]) rfl ⟨(.slice none 0 0), rfl, Ob.nil _ _ _, hf2 (below_tr HB0.out (hB)) (Nat.le_refl _)⟩
    · have hle' : ¬ ((0 : Int) < (r5.xs.length : Int) - (r5.pos : Int)) := by omega
      have c0 := cell_of hm 0
      have c1 := cell_of hm 1
      have c2 := cell_of hm 2
      have c3 := cell_of hm 3
      have c4 := cell_of hm 4
      have c5 := cell_of hm 5
      have c6 := cell_of hm 6
      have c7 := cell_of hm 7
      simp at c0 c1 c2 c3 c4 c5 c6 c7
      have f0 := frozen_of hm 0
      have f1 := frozen_of hm 1
      have f2 := frozen_of hm 2
      have f3 := frozen_of hm 3
      have f4 := frozen_of hm 4
      have f5 := frozen_of hm 5
      have f6 := frozen_of hm 6
      have f7 := frozen_of hm 7
      have d0 := cell_of hZ 0
      have d1 := cell_of hZ 1
      have d2 := cell_of hZ 2
      have d3 := cell_of hZ 3
      have d4 := cell_of hZ 4
      have d5 := cell_of hZ 5
      have d6 := cell_of hZ 6
      have d7 := cell_of hZ 7
      simp at d0 d1 d2 d3 d4 d5 d6 d7
      have g0 := frozen_of hZ 0
      have g1 := frozen_of hZ 1
      have g2 := frozen_of hZ 2
      have g3 := frozen_of hZ 3
      have g4 := frozen_of hZ 4
      have g5 := frozen_of hZ 5
      have g6 := frozen_of hZ 6
      have g7 := frozen_of hZ 7
      go_wp2_with fail
      clear c0 c1 c2 c3 c4 c5 c6 c7 f0 f1 f2 f3 f4 f5 f6 f7 d0 d1 d2 d3 d4 d5 d6 d7 g0 g1 g2 g3 g4 g5 g6 g7
      refine (check_any ⟨1, num t1, t3, (num t4 : Nat), (0 : Nat), 0, (0 : Nat), []⟩ (.slice none 0 0) w6 _ (Sl.nil _ (fun _ => True) _) (Nat.le_trans hname (by decide))).mono ?_
      rintro e w7 ⟨rfl, hB7⟩
      replace hm := heap_bl hB7 hm
      replace hZ := heap_bl hB7 hZ
      replace hB := below_tr hB hB7

      clear hR
      by_cases hok : Msg.ok ⟨1, num t1, t3, (num t4 : Nat), (0 : Nat), 0, (0 : Nat), []⟩
      · rw [okErr, if_pos hok]
        have c0 := cell_of hm 0
        have c1 := cell_of hm 1
        have c2 := cell_of hm 2
        have c3 := cell_of hm 3
        have c4 := cell_of hm 4
        have c5 := cell_of hm 5
        have c6 := cell_of hm 6
        have c7 := cell_of hm 7
        simp at c0 c1 c2 c3 c4 c5 c6 c7
        have f0 := frozen_of hm 0
        have f1 := frozen_of hm 1
        have f2 := frozen_of hm 2
        have f3 := frozen_of hm 3
        have f4 := frozen_of hm 4
        have f5 := frozen_of hm 5
        have f6 := frozen_of hm 6
        have f7 := frozen_of hm 7
        have d0 := cell_of hZ 0
        have d1 := cell_of hZ 1
        have d2 := cell_of hZ 2
        have d3 := cell_of hZ 3
        have d4 := cell_of hZ 4
        have d5 := cell_of hZ 5
        have d6 := cell_of hZ 6
        have d7 := cell_of hZ 7
        simp at d0 d1 d2 d3 d4 d5 d6 d7
        have g0 := frozen_of hZ 0
        have g1 := frozen_of hZ 1
        have g2 := frozen_of hZ 2
        have g3 := frozen_of hZ 3
        have g4 := frozen_of hZ 4
        have g5 := frozen_of hZ 5
        have g6 := frozen_of hZ 6
        have g7 := frozen_of hZ 7
        go_wp2
        clear c0 c1 c2 c3 c4 c5 c6 c7 f0 f1 f2 f3 f4 f5 f6 f7 d0 d1 d2 d3 d4 d5 d6 d7 g0 g1 g2 g3 g4 g5 g6 g7
        obtain ⟨hf, hf2, hf3⟩ := eight hZ (.int .i64 1) (.int .u32 (num t1 : Nat)) (.string ⟨t3.toArray⟩) (.int .i64 (num t4 : Nat)) (.int .i64 0) (.int .u32 0) (.int .i64 0) (.slice none 0 0)
        generalize (World.setCell _ ⟨w.heap.size, 7, none⟩ (.slice none 0 0)) = wf at *
        have d0 := cell_of hf 0
        have d1 := cell_of hf 1
        have d2 := cell_of hf 2
        have d3 := cell_of hf 3
        have d4 := cell_of hf 4
        have d5 := cell_of hf 5
        have d6 := cell_of hf 6
        have d7 := cell_of hf 7
        simp at d0 d1 d2 d3 d4 d5 d6 d7
        obtain ⟨hE, hM⟩ := dec_good hk (by decide) HCH.out he hle hok
        rw [hE, hM]
        exact bodyPost_ret (v := .tuple #[.agg #[(.int .i64 1), (.int .u32 (num t1 : Nat)), (.string ⟨t3.toArray⟩), (.int .i64 (num t4 : Nat)), (.int .i64 0), (.int .u32 0), (.int .i64 0), (.slice none 0 0)], .int .i64 0]) (by simp [results, Try.results15, go_sem, d0, d1, d2, d3, d4, d5, d6, d7]) rfl ⟨(.slice none 0 0), rfl, Ob.nil _ _ _, hf2 (below_tr HB0.out (hB)) (Nat.le_refl _)⟩
      · rw [okErr, if_neg hok]
        have c0 := cell_of hm 0
        have c1 := cell_of hm 1
        have c2 := cell_of hm 2
        have c3 := cell_of hm 3
        have c4 := cell_of hm 4
        have c5 := cell_of hm 5
        have c6 := cell_of hm 6
        have c7 := cell_of hm 7
        simp at c0 c1 c2 c3 c4 c5 c6 c7
        have f0 := frozen_of hm 0
        have f1 := frozen_of hm 1
        have f2 := frozen_of hm 2
        have f3 := frozen_of hm 3
        have f4 := frozen_of hm 4
        have f5 := frozen_of hm 5
        have f6 := frozen_of hm 6
        have f7 := frozen_of hm 7
        have d0 := cell_of hZ 0
        have d1 := cell_of hZ 1
        have d2 := cell_of hZ 2
        have d3 := cell_of hZ 3
        have d4 := cell_of hZ 4
        have d5 := cell_of hZ 5
        have d6 := cell_of hZ 6
        have d7 := cell_of hZ 7
        simp at d0 d1 d2 d3 d4 d5 d6 d7
        have g0 := frozen_of hZ 0
        have g1 := frozen_of hZ 1
        have g2 := frozen_of hZ 2
        have g3 := frozen_of hZ 3
        have g4 := frozen_of hZ 4
        have g5 := frozen_of hZ 5
        have g6 := frozen_of hZ 6
        have g7 := frozen_of hZ 7
        go_wp2
        clear c0 c1 c2 c3 c4 c5 c6 c7 f0 f1 f2 f3 f4 f5 f6 f7 d0 d1 d2 d3 d4 d5 d6 d7 g0 g1 g2 g3 g4 g5 g6 g7
        obtain ⟨hf, hf2, hf3⟩ := eight hZ (.int .i64 0) (.int .u32 0) (.string ⟨#[]⟩) (.int .i64 0) (.int .i64 0) (.int .u32 0) (.int .i64 0) (.slice none 0 0)
        generalize (World.setCell _ ⟨w.heap.size, 7, none⟩ (.slice none 0 0)) = wf at *
        have d0 := cell_of hf 0
        have d1 := cell_of hf 1
        have d2 := cell_of hf 2
        have d3 := cell_of hf 3
        have d4 := cell_of hf 4
        have d5 := cell_of hf 5
        have d6 := cell_of hf 6
        have d7 := cell_of hf 7
        simp at d0 d1 d2 d3 d4 d5 d6 d7
        obtain ⟨hE, hM⟩ := dec_bad hk (by decide) HCH.out he (.inr hok)
        rw [hE, hM]
        exact bodyPost_ret (v := .tuple #[.agg #[(.int .i64 0), (.int .u32 0), (.string ⟨#[]⟩), (.int .i64 0), (.int .i64 0), (.int .u32 0), (.int .i64 0), (.slice none 0 0)], .int .i64 210]) (by simp [results, Try.results15, go_sem, d0, d1, d2, d3, d4, d5, d6, d7]) rfl ⟨(.slice none 0 0), rfl, Ob.nil _ _ _, hf2 (below_tr HB0.out (hB)) (Nat.le_refl _)⟩
  · have he' : (r5.err != 0) = true := by simpa using he
    have c0 := cell_of hm 0
    have c1 := cell_of hm 1
    have c2 := cell_of hm 2
    have c3 := cell_of hm 3
    have c4 := cell_of hm 4
    have c5 := cell_of hm 5
    have c6 := cell_of hm 6
    have c7 := cell_of hm 7
    simp at c0 c1 c2 c3 c4 c5 c6 c7
    have f0 := frozen_of hm 0
    have f1 := frozen_of hm 1
    have f2 := frozen_of hm 2
    have f3 := frozen_of hm 3
    have f4 := frozen_of hm 4
    have f5 := frozen_of hm 5
    have f6 := frozen_of hm 6
    have f7 := frozen_of hm 7
    have d0 := cell_of hZ 0
    have d1 := cell_of hZ 1
    have d2 := cell_of hZ 2
    have d3 := cell_of hZ 3
    have d4 := cell_of hZ 4
    have d5 := cell_of hZ 5
    have d6 := cell_of hZ 6
    have d7 := cell_of hZ 7
    simp at d0 d1 d2 d3 d4 d5 d6 d7
    have g0 := frozen_of hZ 0
    have g1 := frozen_of hZ 1
    have g2 := frozen_of hZ 2
    have g3 := frozen_of hZ 3
    have g4 := frozen_of hZ 4
    have g5 := frozen_of hZ 5
    have g6 := frozen_of hZ 6
    have g7 := frozen_of hZ 7
    go_wp2
    clear c0 c1 c2 c3 c4 c5 c6 c7 f0 f1 f2 f3 f4 f5 f6 f7 d0 d1 d2 d3 d4 d5 d6 d7 g0 g1 g2 g3 g4 g5 g6 g7
    obtain ⟨hf, hf2, hf3⟩ := eight hZ (.int .i64 0) (.int .u32 0) (.string ⟨#[]⟩) (.int .i64 0) (.int .i64 0) (.int .u32 0) (.int .i64 0) (.slice none 0 0)
    generalize (World.setCell _ ⟨w.heap.size, 7, none⟩ (.slice none 0 0)) = wf at *
    have d0 := cell_of hf 0
    have d1 := cell_of hf 1
    have d2 := cell_of hf 2
    have d3 := cell_of hf 3
    have d4 := cell_of hf 4
    have d5 := cell_of hf 5
    have d6 := cell_of hf 6
    have d7 := cell_of hf 7
    simp at d0 d1 d2 d3 d4 d5 d6 d7
    obtain ⟨hE, hM⟩ := dec_short hk (by decide) HCH.out he
    rw [hE, hM]
    exact bodyPost_ret (v := .tuple #[.agg #[(.int .i64 0), (.int .u32 0), (.string ⟨#[]⟩), (.int .i64 0), (.int .i64 0), (.int .u32 0), (.int .i64 0), (.slice none 0 0)], .int .i64 7]) (by simp [results, Try.results15, go_sem, d0, d1, d2, d3, d4, d5, d6, d7]) rfl ⟨(.slice none 0 0), rfl, Ob.nil _ _ _, hf2 (below_tr HB0.out (hB)) (Nat.le_refl _)⟩

end Go.Proofs.Ytmcldnfemlaeiaa
namespace Go.Proofs.Ytmcldnfemlaeiaa
open Go.RowKit K L
set_option linter.unusedVariables false
set_option linter.unusedSimpArgs false

set_option maxRecDepth 100000 in
set_option maxHeartbeats 4000000 in
theorem decode_2 (v : Value) (xs : List UInt8) (w : World) (F : Nat → Prop) (h : Bs w F v xs) (hl : xs.length ≤ 100000000) (hx : 0 < xs.length) (hk : kindOf xs = 2) :
    Calls Try.prog 15 #[v] w fun e w' => ∃ vb, e = .returned (.tuple #[.agg ((decM xs).cells vb).toArray, .int .i64 (decE xs)]) ∧ Ob w' w.heap.size 5 vb (decM xs).bytes ∧ Below w.heap.size w w' := by

  have hb := h
  obtain ⟨A, c, rfl, l1, l2, -, -⟩ := h.open_
  unfold maxLen at l2
  clear h
  go_enter Try.func15, Try.ntmps15
  go_wp2_with fail
  obtain ⟨hz, hB0, hb1, hsz⟩ := box_one w (.cells #[.int .i64 0, .int .u32 0, .string ⟨#[]⟩, .int .i64 0, .int .i64 0, .int .u32 0, .int .i64 0, .slice none 0 0] 25) _ _ _ hb
  clear hb
  generalize w.alloc (.cells #[.int .i64 0, .int .u32 0, .string ⟨#[]⟩, .int .i64 0, .int .i64 0, .int .u32 0, .int .i64 0, .slice none 0 0] 25) = W at *
  refine (read_any _ xs W F hb1 (by omega)).mono ?_
  rintro e w1 ⟨b, rfl, hbl, hR, hB1⟩
  go_wp2_with fail
  refine (u8_any b _ w1 hR).mono ?_
  rintro e w2 ⟨rfl, hR, hg⟩
  have hk1 : ((num (Rs.take ⟨xs, 0, 0⟩ 1).2 : Nat) : Int) = 2 := hk
  have hd : decR xs = chain 2 (Rs.take ⟨xs, 0, 0⟩ 1).1 := by rw [decR, hk]
  rw [hk1]
  have hp0 : (Rs.take ⟨xs, 0, 0⟩ 1).1.pos ≤ (Rs.take ⟨xs, 0, 0⟩ 1).1.xs.length := Rs.take_pos _ _ (Nat.zero_le _)

  generalize (Rs.take ⟨xs, 0, 0⟩ 1).1 = r1 at *
  clear hk1
  have hB2 : Below W.heap.size W w2 := below_gr hB1 hg hbl
  replace hz : w2.heap[w.heap.size]? = some _ := heap_bl hB2 hz
  have hbp := hR.lt
  have hWp := hB2.size
  go_wp2_with fail
  replace hR : IsR (w2.alloc (.cells #[.int .i64 2, .int .u32 0, .string ⟨#[]⟩, .int .i64 0, .int .i64 0, .int .u32 0, .int .i64 0, .slice none 0 0] 25)) b r1 := hR.below (below_al (Below.refl _ _) _)
  have hB : Below W.heap.size W (w2.alloc (.cells #[.int .i64 2, .int .u32 0, .string ⟨#[]⟩, .int .i64 0, .int .i64 0, .int .u32 0, .int .i64 0, .slice none 0 0] 25)) := below_al hB2 _
  have hZ : (w2.alloc (.cells #[.int .i64 2, .int .u32 0, .string ⟨#[]⟩, .int .i64 0, .int .i64 0, .int .u32 0, .int .i64 0, .slice none 0 0] 25)).heap[w.heap.size]? = some _ := heap_al hz _
  have hm := heap_alloc_new w2 (.cells #[.int .i64 2, .int .u32 0, .string ⟨#[]⟩, .int .i64 0, .int .i64 0, .int .u32 0, .int .i64 0, .slice none 0 0] 25)
  have hps : w2.heap.size < (w2.alloc (.cells #[.int .i64 2, .int .u32 0, .string ⟨#[]⟩, .int .i64 0, .int .i64 0, .int .u32 0, .int .i64 0, .slice none 0 0] 25)).heap.size := by rw [World.size_alloc]; omega
  generalize w2.alloc (.cells #[.int .i64 2, .int .u32 0, .string ⟨#[]⟩, .int .i64 0, .int .i64 0, .int .u32 0, .int .i64 0, .slice none 0 0] 25) = w3 at *
  generalize w2.heap.size = p at *
  clear hB2 hz hg hB1
  have HB0 := Lib.hid hB0
  clear hB0
  refine (fields_is _ 36 rfl _).mono ?_
  rintro e w' ⟨rfl, rfl⟩
  go_wp2_with fail
  refine (u32_any b r1 _ hR).mono ?_
  rintro e w4 ⟨rfl, hR, hg⟩
  replace hm := gr_heap hg hm (by omega)
  replace hZ := gr_heap hg hZ (by omega)
  replace hB := below_gr hB hg hbl
  replace hps := Nat.lt_of_lt_of_le hps hg.size
  clear hg
  have n1 : num (Rs.take r1 4).2 < 4294967296 := Rs.take_num4 r1
  have hp := Rs.take_pos r1 4 hp0

  generalize hTa : (Rs.take r1 4).1 = r2 at *
  generalize hTb : (Rs.take r1 4).2 = t1 at *
  replace hp0 := hp
  have A1 := Lib.hid hTa
  have B1 := Lib.hid hTb
  clear hTa hTb hp
  have c0 := cell_of hm 0
  have c1 := cell_of hm 1
  have c2 := cell_of hm 2
  have c3 := cell_of hm 3
  have c4 := cell_of hm 4
  have c5 := cell_of hm 5
  have c6 := cell_of hm 6
  have c7 := cell_of hm 7
  simp at c0 c1 c2 c3 c4 c5 c6 c7
  have f0 := frozen_of hm 0
  have f1 := frozen_of hm 1
  have f2 := frozen_of hm 2
  have f3 := frozen_of hm 3
  have f4 := frozen_of hm 4
  have f5 := frozen_of hm 5
  have f6 := frozen_of hm 6
  have f7 := frozen_of hm 7
  have d0 := cell_of hZ 0
  have d1 := cell_of hZ 1
  have d2 := cell_of hZ 2
  have d3 := cell_of hZ 3
  have d4 := cell_of hZ 4
  have d5 := cell_of hZ 5
  have d6 := cell_of hZ 6
  have d7 := cell_of hZ 7
  simp at d0 d1 d2 d3 d4 d5 d6 d7
  have g0 := frozen_of hZ 0
  have g1 := frozen_of hZ 1
  have g2 := frozen_of hZ 2
  have g3 := frozen_of hZ 3
  have g4 := frozen_of hZ 4
  have g5 := frozen_of hZ 5
  have g6 := frozen_of hZ 6
  have g7 := frozen_of hZ 7
  go_wp2_with fail
  clear c0 c1 c2 c3 c4 c5 c6 c7 f0 f1 f2 f3 f4 f5 f6 f7 d0 d1 d2 d3 d4 d5 d6 d7 g0 g1 g2 g3 g4 g5 g6 g7
  obtain ⟨hm', hR', hB', hZ', hs'⟩ := put_cell hm 1 (.int .u32 (num t1 : Nat)) hR hbp hB hWp hZ (by omega)
  simp only [List.setIfInBounds_toArray, List.set_cons_succ, List.set_cons_zero] at hm'
  generalize World.setCell _ ⟨p, 1, none⟩ (.int .u32 (num t1 : Nat)) = w5 at *
  replace hps : p < w5.heap.size := by omega
  clear hm hR hB hZ hs'
  have hm := hm'
  have hR := hR'
  have hB := hB'
  have hZ := hZ'
  clear hm' hR' hB' hZ'
  refine (has_any 36 1 (by decide) (by decide) _).mono ?_
  rw [show fhas 36 1 = false from by decide]
  rintro e w' ⟨rfl, rfl⟩
  go_wp2_with fail
  refine (has_any 36 2 (by decide) (by decide) _).mono ?_
  rw [show fhas 36 2 = false from by decide]
  rintro e w' ⟨rfl, rfl⟩
  go_wp2_with fail
  refine (has_any 36 4 (by decide) (by decide) _).mono ?_
  rw [show fhas 36 4 = true from by decide]
  rintro e w' ⟨rfl, rfl⟩
  go_wp2_with fail
  refine (u16_any b r2 _ hR).mono ?_
  rintro e w4 ⟨rfl, hR, hg⟩
  replace hm := gr_heap hg hm (by omega)
  replace hZ := gr_heap hg hZ (by omega)
  replace hB := below_gr hB hg hbl
  replace hps := Nat.lt_of_lt_of_le hps hg.size
  clear hg
  have n2 : num (Rs.take r2 2).2 < 65536 := Rs.take_num2 r2
  have hp := Rs.take_pos r2 2 hp0

  generalize hTa : (Rs.take r2 2).1 = r3 at *
  generalize hTb : (Rs.take r2 2).2 = t2 at *
  replace hp0 := hp
  have A2 := Lib.hid hTa
  have B2 := Lib.hid hTb
  clear hTa hTb hp
  have c0 := cell_of hm 0
  have c1 := cell_of hm 1
  have c2 := cell_of hm 2
  have c3 := cell_of hm 3
  have c4 := cell_of hm 4
  have c5 := cell_of hm 5
  have c6 := cell_of hm 6
  have c7 := cell_of hm 7
  simp at c0 c1 c2 c3 c4 c5 c6 c7
  have f0 := frozen_of hm 0
  have f1 := frozen_of hm 1
  have f2 := frozen_of hm 2
  have f3 := frozen_of hm 3
  have f4 := frozen_of hm 4
  have f5 := frozen_of hm 5
  have f6 := frozen_of hm 6
  have f7 := frozen_of hm 7
  have d0 := cell_of hZ 0
  have d1 := cell_of hZ 1
  have d2 := cell_of hZ 2
  have d3 := cell_of hZ 3
  have d4 := cell_of hZ 4
  have d5 := cell_of hZ 5
  have d6 := cell_of hZ 6
  have d7 := cell_of hZ 7
  simp at d0 d1 d2 d3 d4 d5 d6 d7
  have g0 := frozen_of hZ 0
  have g1 := frozen_of hZ 1
  have g2 := frozen_of hZ 2
  have g3 := frozen_of hZ 3
  have g4 := frozen_of hZ 4
  have g5 := frozen_of hZ 5
  have g6 := frozen_of hZ 6
  have g7 := frozen_of hZ 7
  go_wp2_with fail
  clear c0 c1 c2 c3 c4 c5 c6 c7 f0 f1 f2 f3 f4 f5 f6 f7 d0 d1 d2 d3 d4 d5 d6 d7 g0 g1 g2 g3 g4 g5 g6 g7
  obtain ⟨hm', hR', hB', hZ', hs'⟩ := put_cell hm 4 (.int .i64 (num t2 : Nat)) hR hbp hB hWp hZ (by omega)
  simp only [List.setIfInBounds_toArray, List.set_cons_succ, List.set_cons_zero] at hm'
  generalize World.setCell _ ⟨p, 4, none⟩ (.int .i64 (num t2 : Nat)) = w5 at *
  replace hps : p < w5.heap.size := by omega
  clear hm hR hB hZ hs'
  have hm := hm'
  have hR := hR'
  have hB := hB'
  have hZ := hZ'
  clear hm' hR' hB' hZ'
  refine (has_any 36 8 (by decide) (by decide) _).mono ?_
  rw [show fhas 36 8 = false from by decide]
  rintro e w' ⟨rfl, rfl⟩
  go_wp2_with fail
  refine (has_any 36 16 (by decide) (by decide) _).mono ?_
  rw [show fhas 36 16 = false from by decide]
  rintro e w' ⟨rfl, rfl⟩
  go_wp2_with fail
  refine (has_any 36 32 (by decide) (by decide) _).mono ?_
  rw [show fhas 36 32 = true from by decide]
  rintro e w' ⟨rfl, rfl⟩
  go_wp2_with fail
  refine (u16_any b r3 _ hR).mono ?_
  rintro e w4 ⟨rfl, hR, hg⟩
  replace hm := gr_heap hg hm (by omega)
  replace hZ := gr_heap hg hZ (by omega)
  replace hB := below_gr hB hg hbl
  replace hps := Nat.lt_of_lt_of_le hps hg.size
  clear hg
  have n3 : num (Rs.take r3 2).2 < 65536 := Rs.take_num2 r3
  have hp := Rs.take_pos r3 2 hp0

  generalize hTa : (Rs.take r3 2).1 = r4 at *
  generalize hTb : (Rs.take r3 2).2 = t3 at *
  replace hp0 := hp
  have A3 := Lib.hid hTa
  have B3 := Lib.hid hTb
  clear hTa hTb hp
  go_wp2_with fail
  have hraw : Bs W (· < W.heap.size) (.slice none 0 0) [] := Sl.nil _ _ _
  refine (raw_any b r4 (num t3 : Nat) _ hR (by omega)).mono ?_
  clear hraw
  have hpw := hps
  rintro e w4 ⟨vb, rfl, ho, hR, hg⟩
  replace hm := gr_heap hg hm (by omega)
  replace hZ := gr_heap hg hZ (by omega)
  replace hB := below_gr hB hg hbl
  replace hps := Nat.lt_of_lt_of_le hps hg.size
  clear hg
  have hp := Rs.take_pos r4 (num t3 : Nat) hp0
  generalize hTa : (Rs.take r4 (num t3 : Nat)).1 = r5 at *
  generalize hTb : (Rs.take r4 (num t3 : Nat)).2 = t4 at *
  replace hp0 := hp
  have A4 := Lib.hid hTa
  have B4 := Lib.hid hTb
  clear hTa hTb hp
  have hbs := ho.bs
  obtain ⟨A7, c7', rfl, -, -, -, -⟩ := hbs.open_
  clear hbs
  have c0 := cell_of hm 0
  have c1 := cell_of hm 1
  have c2 := cell_of hm 2
  have c3 := cell_of hm 3
  have c4 := cell_of hm 4
  have c5 := cell_of hm 5
  have c6 := cell_of hm 6
  have c7 := cell_of hm 7
  simp at c0 c1 c2 c3 c4 c5 c6 c7
  have f0 := frozen_of hm 0
  have f1 := frozen_of hm 1
  have f2 := frozen_of hm 2
  have f3 := frozen_of hm 3
  have f4 := frozen_of hm 4
  have f5 := frozen_of hm 5
  have f6 := frozen_of hm 6
  have f7 := frozen_of hm 7
  have d0 := cell_of hZ 0
  have d1 := cell_of hZ 1
  have d2 := cell_of hZ 2
  have d3 := cell_of hZ 3
  have d4 := cell_of hZ 4
  have d5 := cell_of hZ 5
  have d6 := cell_of hZ 6
  have d7 := cell_of hZ 7
  simp at d0 d1 d2 d3 d4 d5 d6 d7
  have g0 := frozen_of hZ 0
  have g1 := frozen_of hZ 1
  have g2 := frozen_of hZ 2
  have g3 := frozen_of hZ 3
  have g4 := frozen_of hZ 4
  have g5 := frozen_of hZ 5
  have g6 := frozen_of hZ 6
  have g7 := frozen_of hZ 7
  go_wp2_with fail
  clear c0 c1 c2 c3 c4 c5 c6 c7 f0 f1 f2 f3 f4 f5 f6 f7 d0 d1 d2 d3 d4 d5 d6 d7 g0 g1 g2 g3 g4 g5 g6 g7
  have hOb := ob_other ho p 7 (.slice A7 t4.length c7') hpw
  clear ho
  obtain ⟨hm', hR', hB', hZ', hs'⟩ := put_cell hm 7 (.slice A7 t4.length c7') hR hbp hB hWp hZ (by omega)
  simp only [List.setIfInBounds_toArray, List.set_cons_succ, List.set_cons_zero] at hm'
  generalize World.setCell _ ⟨p, 7, none⟩ (.slice A7 t4.length c7') = w5 at *
  replace hps : p < w5.heap.size := by omega
  clear hm hR hB hZ hs'
  have hm := hm'
  have hR := hR'
  have hB := hB'
  have hZ := hZ'
  clear hm' hR' hB' hZ'
  have hch : decR xs = (⟨2, num t1, [], (0 : Nat), (num t2 : Nat), 0, (0 : Nat), t4⟩, r5) := by
    rw [hd]
    simp [chain, show fldN 2 = false from rfl, show fldS 2 = false from rfl, show fldO 2 = true from rfl, show fldU 2 = false from rfl, show fldC 2 = false from rfl, show fldB 2 = true from rfl, A1.out, B1.out, A2.out, B2.out, A3.out, B3.out, A4.out, B4.out, show num [] = 0 from rfl]
  have HCH := Lib.hid hch
  clear hch hd
  refine (err_any b r5 _ hR).mono ?_
  rintro e w' ⟨rfl, rfl⟩
  by_cases he : r5.err = 0
  · rw [he]
    have c0 := cell_of hm 0
    have c1 := cell_of hm 1
    have c2 := cell_of hm 2
    have c3 := cell_of hm 3
    have c4 := cell_of hm 4
    have c5 := cell_of hm 5
    have c6 := cell_of hm 6
    have c7 := cell_of hm 7
    simp at c0 c1 c2 c3 c4 c5 c6 c7
    have f0 := frozen_of hm 0
    have f1 := frozen_of hm 1
    have f2 := frozen_of hm 2
    have f3 := frozen_of hm 3
    have f4 := frozen_of hm 4
    have f5 := frozen_of hm 5
    have f6 := frozen_of hm 6
    have f7 := frozen_of hm 7
    have d0 := cell_of hZ 0
    have d1 := cell_of hZ 1
    have d2 := cell_of hZ 2
    have d3 := cell_of hZ 3
    have d4 := cell_of hZ 4
    have d5 := cell_of hZ 5
    have d6 := cell_of hZ 6
    have d7 := cell_of hZ 7
    simp at d0 d1 d2 d3 d4 d5 d6 d7
    have g0 := frozen_of hZ 0
    have g1 := frozen_of hZ 1
    have g2 := frozen_of hZ 2
    have g3 := frozen_of hZ 3
    have g4 := frozen_of hZ 4
    have g5 := frozen_of hZ 5
    have g6 := frozen_of hZ 6
    have g7 := frozen_of hZ 7
    go_wp2_with fail
    clear c0 c1 c2 c3 c4 c5 c6 c7 f0 f1 f2 f3 f4 f5 f6 f7 d0 d1 d2 d3 d4 d5 d6 d7 g0 g1 g2 g3 g4 g5 g6 g7
    refine (left_any b r5 _ hR).mono ?_
    rintro e w' ⟨rfl, n, rfl⟩
    replace hm : (w5.drewN n).heap[p]? = _ := hm
    replace hZ : (w5.drewN n).heap[w.heap.size]? = _ := hZ
    replace hB : Below W.heap.size W (w5.drewN n) := below_dn hB n
    have hOb' : Ob (w5.drewN n) _ _ (.slice A7 t4.length c7') t4 := World.ownsRow.kept hOb (grown_drewN w5 n none) (by cases Value.ownBlock (.slice A7 t4.length c7') <;> simp)
    generalize w5.drewN n = w6 at *
    by_cases hle : r5.pos < r5.xs.length
    · have hle' : (0 : Int) < (r5.xs.length : Int) - (r5.pos : Int) := by omega
      have c0 := cell_of hm 0
      have c1 := cell_of hm 1
      have c2 := cell_of hm 2
      have c3 := cell_of hm 3
      have c4 := cell_of hm 4
      have c5 := cell_of hm 5
      have c6 := cell_of hm 6
      have c7 := cell_of hm 7
      simp at c0 c1 c2 c3 c4 c5 c6 c7
      have f0 := frozen_of hm 0
      have f1 := frozen_of hm 1
      have f2 := frozen_of hm 2
      have f3 := frozen_of hm 3
      have f4 := frozen_of hm 4
      have f5 := frozen_of hm 5
      have f6 := frozen_of hm 6
      have f7 := frozen_of hm 7
      have d0 := cell_of hZ 0
      have d1 := cell_of hZ 1
      have d2 := cell_of hZ 2
      have d3 := cell_of hZ 3
      have d4 := cell_of hZ 4
      have d5 := cell_of hZ 5
      have d6 := cell_of hZ 6
      have d7 := cell_of hZ 7
      simp at d0 d1 d2 d3 d4 d5 d6 d7
      have g0 := frozen_of hZ 0
      have g1 := frozen_of hZ 1
      have g2 := frozen_of hZ 2
      have g3 := frozen_of hZ 3
      have g4 := frozen_of hZ 4
      have g5 := frozen_of hZ 5
      have g6 := frozen_of hZ 6
      have g7 := frozen_of hZ 7
      go_wp2
      clear c0 c1 c2 c3 c4 c5 c6 c7 f0 f1 f2 f3 f4 f5 f6 f7 d0 d1 d2 d3 d4 d5 d6 d7 g0 g1 g2 g3 g4 g5 g6 g7
      obtain ⟨hf, hf2, hf3⟩ := eight hZ (.int .i64 0) (.int .u32 0) (.string ⟨#[]⟩) (.int .i64 0) (.int .i64 0) (.int .u32 0) (.int .i64 0) (.slice none 0 0)
      generalize (World.setCell _ ⟨w.heap.size, 7, none⟩ (.slice none 0 0)) = wf at *
      have d0 := cell_of hf 0
      have d1 := cell_of hf 1
      have d2 := cell_of hf 2
      have d3 := cell_of hf 3
      have d4 := cell_of hf 4
      have d5 := cell_of hf 5
      have d6 := cell_of hf 6
      have d7 := cell_of hf 7
      simp at d0 d1 d2 d3 d4 d5 d6 d7
      obtain ⟨hE, hM⟩ := dec_bad hk (by decide) HCH.out he (.inl hle)
      rw [hE, hM]
      exact bodyPost_ret (v := .tuple #[.agg #[(.int .i64 0), (.int .u32 0), (.string ⟨#[]⟩), (.int .i64 0), (.int .i64 0), (.int .u32 0), (.int .i64 0), (.slice none 0 0)], .int .i64 210]) (by simp [results, Try.results15, go_sem, d0, d1, d2, d3, d4, d5, d6, d7]) rfl ⟨(.slice none 0 0), rfl, Ob.nil _ _ _, hf2 (below_tr HB0.out (hB)) (Nat.le_refl _)⟩
    · have hle' : ¬ ((0 : Int) < (r5.xs.length : Int) - (r5.pos : Int)) := by omega
      have c0 := cell_of hm 0
      have c1 := cell_of hm 1
      have c2 := cell_of hm 2
      have c3 := cell_of hm 3
      have c4 := cell_of hm 4
      have c5 := cell_of hm 5
      have c6 := cell_of hm 6
      have c7 := cell_of hm 7
      simp at c0 c1 c2 c3 c4 c5 c6 c7
      have f0 := frozen_of hm 0
      have f1 := frozen_of hm 1
      have f2 := frozen_of hm 2
      have f3 := frozen_of hm 3
      have f4 := frozen_of hm 4
      have f5 := frozen_of hm 5
      have f6 := frozen_of hm 6
      have f7 := frozen_of hm 7
      have d0 := cell_of hZ 0
      have d1 := cell_of hZ 1
      have d2 := cell_of hZ 2
      have d3 := cell_of hZ 3
      have d4 := cell_of hZ 4
      have d5 := cell_of hZ 5
      have d6 := cell_of hZ 6
      have d7 := cell_of hZ 7
      simp at d0 d1 d2 d3 d4 d5 d6 d7
      have g0 := frozen_of hZ 0
      have g1 := frozen_of hZ 1
      have g2 := frozen_of hZ 2
      have g3 := frozen_of hZ 3
      have g4 := frozen_of hZ 4
      have g5 := frozen_of hZ 5
      have g6 := frozen_of hZ 6
      have g7 := frozen_of hZ 7
      go_wp2_with fail
      clear c0 c1 c2 c3 c4 c5 c6 c7 f0 f1 f2 f3 f4 f5 f6 f7 d0 d1 d2 d3 d4 d5 d6 d7 g0 g1 g2 g3 g4 g5 g6 g7
      refine (check_any ⟨2, num t1, [], (0 : Nat), (num t2 : Nat), 0, (0 : Nat), t4⟩ (.slice A7 t4.length c7') w6 _ (hOb'.bs) (by simp)).mono ?_
      rintro e w7 ⟨rfl, hB7⟩
      replace hm := heap_bl hB7 hm
      replace hZ := heap_bl hB7 hZ
      replace hB := below_tr hB hB7
      replace hOb' := G.ob_fresh hOb' hB7
      clear hR
      by_cases hok : Msg.ok ⟨2, num t1, [], (0 : Nat), (num t2 : Nat), 0, (0 : Nat), t4⟩
      · rw [okErr, if_pos hok]
        have c0 := cell_of hm 0
        have c1 := cell_of hm 1
        have c2 := cell_of hm 2
        have c3 := cell_of hm 3
        have c4 := cell_of hm 4
        have c5 := cell_of hm 5
        have c6 := cell_of hm 6
        have c7 := cell_of hm 7
        simp at c0 c1 c2 c3 c4 c5 c6 c7
        have f0 := frozen_of hm 0
        have f1 := frozen_of hm 1
        have f2 := frozen_of hm 2
        have f3 := frozen_of hm 3
        have f4 := frozen_of hm 4
        have f5 := frozen_of hm 5
        have f6 := frozen_of hm 6
        have f7 := frozen_of hm 7
        have d0 := cell_of hZ 0
        have d1 := cell_of hZ 1
        have d2 := cell_of hZ 2
        have d3 := cell_of hZ 3
        have d4 := cell_of hZ 4
        have d5 := cell_of hZ 5
        have d6 := cell_of hZ 6
        have d7 := cell_of hZ 7
        simp at d0 d1 d2 d3 d4 d5 d6 d7
        have g0 := frozen_of hZ 0
        have g1 := frozen_of hZ 1
        have g2 := frozen_of hZ 2
        have g3 := frozen_of hZ 3
        have g4 := frozen_of hZ 4
        have g5 := frozen_of hZ 5
        have g6 := frozen_of hZ 6
        have g7 := frozen_of hZ 7
        go_wp2
        clear c0 c1 c2 c3 c4 c5 c6 c7 f0 f1 f2 f3 f4 f5 f6 f7 d0 d1 d2 d3 d4 d5 d6 d7 g0 g1 g2 g3 g4 g5 g6 g7
        obtain ⟨hf, hf2, hf3⟩ := eight hZ (.int .i64 2) (.int .u32 (num t1 : Nat)) (.string ⟨#[]⟩) (.int .i64 0) (.int .i64 (num t2 : Nat)) (.int .u32 0) (.int .i64 0) (.slice A7 t4.length c7')
        generalize (World.setCell _ ⟨w.heap.size, 7, none⟩ (.slice A7 t4.length c7')) = wf at *
        have d0 := cell_of hf 0
        have d1 := cell_of hf 1
        have d2 := cell_of hf 2
        have d3 := cell_of hf 3
        have d4 := cell_of hf 4
        have d5 := cell_of hf 5
        have d6 := cell_of hf 6
        have d7 := cell_of hf 7
        simp at d0 d1 d2 d3 d4 d5 d6 d7
        obtain ⟨hE, hM⟩ := dec_good hk (by decide) HCH.out he hle hok
        rw [hE, hM]
        exact bodyPost_ret (v := .tuple #[.agg #[(.int .i64 2), (.int .u32 (num t1 : Nat)), (.string ⟨#[]⟩), (.int .i64 0), (.int .i64 (num t2 : Nat)), (.int .u32 0), (.int .i64 0), (.slice A7 t4.length c7')], .int .i64 0]) (by simp [results, Try.results15, go_sem, d0, d1, d2, d3, d4, d5, d6, d7]) rfl ⟨(.slice A7 t4.length c7'), rfl, (hf3 hOb' (by omega)).low (by omega), hf2 (below_tr HB0.out (hB)) (Nat.le_refl _)⟩
      · rw [okErr, if_neg hok]
        have c0 := cell_of hm 0
        have c1 := cell_of hm 1
        have c2 := cell_of hm 2
        have c3 := cell_of hm 3
        have c4 := cell_of hm 4
        have c5 := cell_of hm 5
        have c6 := cell_of hm 6
        have c7 := cell_of hm 7
        simp at c0 c1 c2 c3 c4 c5 c6 c7
        have f0 := frozen_of hm 0
        have f1 := frozen_of hm 1
        have f2 := frozen_of hm 2
        have f3 := frozen_of hm 3
        have f4 := frozen_of hm 4
        have f5 := frozen_of hm 5
        have f6 := frozen_of hm 6
        have f7 := frozen_of hm 7
        have d0 := cell_of hZ 0
        have d1 := cell_of hZ 1
        have d2 := cell_of hZ 2
        have d3 := cell_of hZ 3
        have d4 := cell_of hZ 4
        have d5 := cell_of hZ 5
        have d6 := cell_of hZ 6
        have d7 := cell_of hZ 7
        simp at d0 d1 d2 d3 d4 d5 d6 d7
        have g0 := frozen_of hZ 0
        have g1 := frozen_of hZ 1
        have g2 := frozen_of hZ 2
        have g3 := frozen_of hZ 3
        have g4 := frozen_of hZ 4
        have g5 := frozen_of hZ 5
        have g6 := frozen_of hZ 6
        have g7 := frozen_of hZ 7
        go_wp2
        clear c0 c1 c2 c3 c4 c5 c6 c7 f0 f1 f2 f3 f4 f5 f6 f7 d0 d1 d2 d3 d4 d5 d6 d7 g0 g1 g2 g3 g4 g5 g6 g7
        obtain ⟨hf, hf2, hf3⟩ := eight hZ (.int .i64 0) (.int .u32 0) (.string ⟨#[]⟩) (.int .i64 0) (.int .i64 0) (.int .u32 0) (.int .i64 0) (.slice none 0 0)
        generalize (World.setCell _ ⟨w.heap.size, 7, none⟩ (.slice none 0 0)) = wf at *
        have d0 := cell_of hf 0
        have d1 := cell_of hf 1
        have d2 := cell_of hf 2
        have d3 := cell_of hf 3
        have d4 := cell_of hf 4
        have d5 := cell_of hf 5
        have d6 := cell_of hf 6
        have d7 := cell_of hf 7
        simp at d0 d1 d2 d3 d4 d5 d6 d7
        obtain ⟨hE, hM⟩ := dec_bad hk (by decide) HCH.out he (.inr hok)
        rw [hE, hM]
        exact bodyPost_ret (v := .tuple #[.agg #[(.int .i64 0), (.int .u32 0), (.string ⟨#[]⟩), (.int .i64 0), (.int .i64 0), (.int .u32 0), (.int .i64 0), (.slice none 0 0)], .int .i64 210]) (by simp [results, Try.results15, go_sem, d0, d1, d2, d3, d4, d5, d6, d7]) rfl ⟨(.slice none 0 0), rfl, Ob.nil _ _ _, hf2 (below_tr HB0.out (hB)) (Nat.le_refl _)⟩
  · have he' : (r5.err != 0) = true := by simpa using he
    have c0 := cell_of hm 0
    have c1 := cell_of hm 1
    have c2 := cell_of hm 2
    have c3 := cell_of hm 3
    have c4 := cell_of hm 4
    have c5 := cell_of hm 5
    have c6 := cell_of hm 6
    have c7 := cell_of hm 7
    simp at c0 c1 c2 c3 c4 c5 c6 c7
    have f0 := frozen_of hm 0
    have f1 := frozen_of hm 1
    have f2 := frozen_of hm 2
    have f3 := frozen_of hm 3
    have f4 := frozen_of hm 4
    have f5 := frozen_of hm 5
    have f6 := frozen_of hm 6
    have f7 := frozen_of hm 7
    have d0 := cell_of hZ 0
    have d1 := cell_of hZ 1
    have d2 := cell_of hZ 2
    have d3 := cell_of hZ 3
    have d4 := cell_of hZ 4
    have d5 := cell_of hZ 5
    have d6 := cell_of hZ 6
    have d7 := cell_of hZ 7
    simp at d0 d1 d2 d3 d4 d5 d6 d7
    have g0 := frozen_of hZ 0
    have g1 := frozen_of hZ 1
    have g2 := frozen_of hZ 2
    have g3 := frozen_of hZ 3
    have g4 := frozen_of hZ 4
    have g5 := frozen_of hZ 5
    have g6 := frozen_of hZ 6
    have g7 := frozen_of hZ 7
    go_wp2
    clear c0 c1 c2 c3 c4 c5 c6 c7 f0 f1 f2 f3 f4 f5 f6 f7 d0 d1 d2 d3 d4 d5 d6 d7 g0 g1 g2 g3 g4 g5 g6 g7
    obtain ⟨hf, hf2, hf3⟩ := eight hZ (.int .i64 0) (.int .u32 0) (.string ⟨#[]⟩) (.int .i64 0) (.int .i64 0) (.int .u32 0) (.int .i64 0) (.slice none 0 0)
    generalize (World.setCell _ ⟨w.heap.size, 7, none⟩ (.slice none 0 0)) = wf at *
    have d0 := cell_of hf 0
    have d1 := cell_of hf 1
    have d2 := cell_of hf 2
    have d3 := cell_of hf 3
    have d4 := cell_of hf 4
    have d5 := cell_of hf 5
    have d6 := cell_of hf 6
    have d7 := cell_of hf 7
    simp at d0 d1 d2 d3 d4 d5 d6 d7
    obtain ⟨hE, hM⟩ := dec_short hk (by decide) HCH.out he
    rw [hE, hM]
    exact bodyPost_ret (v := .tuple #[.agg #[(.int .i64 0), (.int .u32 0), (.string ⟨#[]⟩), (.int .i64 0), (.int .i64 0), (.int .u32 0), (.int .i64 0), (.slice none 0 0)], .int .i64 7]) (by simp [results, Try.results15, go_sem, d0, d1, d2, d3, d4, d5, d6, d7]) rfl ⟨(.slice none 0 0), rfl, Ob.nil _ _ _, hf2 (below_tr HB0.out (hB)) (Nat.le_refl _)⟩

end Go.Proofs.Ytmcldnfemlaeiaa
namespace Go.Proofs.Ytmcldnfemlaeiaa
open Go.RowKit K L
set_option linter.unusedVariables false
set_option linter.unusedSimpArgs false

set_option maxRecDepth 100000 in
set_option maxHeartbeats 4000000 in
theorem decode_3 (v : Value) (xs : List UInt8) (w : World) (F : Nat → Prop) (h : Bs w F v xs) (hl : xs.length ≤ 100000000) (hx : 0 < xs.length) (hk : kindOf xs = 3) :
    Calls Try.prog 15 #[v] w fun e w' => ∃ vb, e = .returned (.tuple #[.agg ((decM xs).cells vb).toArray, .int .i64 (decE xs)]) ∧ Ob w' w.heap.size 5 vb (decM xs).bytes ∧ Below w.heap.size w w' := by

  have hb := h
  obtain ⟨A, c, rfl, l1, l2, -, -⟩ := h.open_
  unfold maxLen at l2
  clear h
  go_enter Try.func15, Try.ntmps15
  go_wp2_with fail
  obtain ⟨hz, hB0, hb1, hsz⟩ := box_one w (.cells #[.int .i64 0, .int .u32 0, .string ⟨#[]⟩, .int .i64 0, .int .i64 0, .int .u32 0, .int .i64 0, .slice none 0 0] 25) _ _ _ hb
  clear hb
  generalize w.alloc (.cells #[.int .i64 0, .int .u32 0, .string ⟨#[]⟩, .int .i64 0, .int .i64 0, .int .u32 0, .int .i64 0, .slice none 0 0] 25) = W at *
  refine (read_any _ xs W F hb1 (by omega)).mono ?_
  rintro e w1 ⟨b, rfl, hbl, hR, hB1⟩
  go_wp2_with fail
  refine (u8_any b _ w1 hR).mono ?_
  rintro e w2 ⟨rfl, hR, hg⟩
  have hk1 : ((num (Rs.take ⟨xs, 0, 0⟩ 1).2 : Nat) : Int) = 3 := hk
  have hd : decR xs = chain 3 (Rs.take ⟨xs, 0, 0⟩ 1).1 := by rw [decR, hk]
  rw [hk1]
  have hp0 : (Rs.take ⟨xs, 0, 0⟩ 1).1.pos ≤ (Rs.take ⟨xs, 0, 0⟩ 1).1.xs.length := Rs.take_pos _ _ (Nat.zero_le _)

  generalize (Rs.take ⟨xs, 0, 0⟩ 1).1 = r1 at *
  clear hk1
  have hB2 : Below W.heap.size W w2 := below_gr hB1 hg hbl
  replace hz : w2.heap[w.heap.size]? = some _ := heap_bl hB2 hz
  have hbp := hR.lt
  have hWp := hB2.size
  go_wp2_with fail
  replace hR : IsR (w2.alloc (.cells #[.int .i64 3, .int .u32 0, .string ⟨#[]⟩, .int .i64 0, .int .i64 0, .int .u32 0, .int .i64 0, .slice none 0 0] 25)) b r1 := hR.below (below_al (Below.refl _ _) _)
  have hB : Below W.heap.size W (w2.alloc (.cells #[.int .i64 3, .int .u32 0, .string ⟨#[]⟩, .int .i64 0, .int .i64 0, .int .u32 0, .int .i64 0, .slice none 0 0] 25)) := below_al hB2 _
  have hZ : (w2.alloc (.cells #[.int .i64 3, .int .u32 0, .string ⟨#[]⟩, .int .i64 0, .int .i64 0, .int .u32 0, .int .i64 0, .slice none 0 0] 25)).heap[w.heap.size]? = some _ := heap_al hz _
  have hm := heap_alloc_new w2 (.cells #[.int .i64 3, .int .u32 0, .string ⟨#[]⟩, .int .i64 0, .int .i64 0, .int .u32 0, .int .i64 0, .slice none 0 0] 25)
  have hps : w2.heap.size < (w2.alloc (.cells #[.int .i64 3, .int .u32 0, .string ⟨#[]⟩, .int .i64 0, .int .i64 0, .int .u32 0, .int .i64 0, .slice none 0 0] 25)).heap.size := by rw [World.size_alloc]; omega
  generalize w2.alloc (.cells #[.int .i64 3, .int .u32 0, .string ⟨#[]⟩, .int .i64 0, .int .i64 0, .int .u32 0, .int .i64 0, .slice none 0 0] 25) = w3 at *
  generalize w2.heap.size = p at *
  clear hB2 hz hg hB1
  have HB0 := Lib.hid hB0
  clear hB0
  refine (fields_is _ 10 rfl _).mono ?_
  rintro e w' ⟨rfl, rfl⟩
  go_wp2_with fail
  refine (u32_any b r1 _ hR).mono ?_
  rintro e w4 ⟨rfl, hR, hg⟩
  replace hm := gr_heap hg hm (by omega)
  replace hZ := gr_heap hg hZ (by omega)
  replace hB := below_gr hB hg hbl
  replace hps := Nat.lt_of_lt_of_le hps hg.size
  clear hg
  have n1 : num (Rs.take r1 4).2 < 4294967296 := Rs.take_num4 r1
  have hp := Rs.take_pos r1 4 hp0

  generalize hTa : (Rs.take r1 4).1 = r2 at *
  generalize hTb : (Rs.take r1 4).2 = t1 at *
  replace hp0 := hp
  have A1 := Lib.hid hTa
  have B1 := Lib.hid hTb
  clear hTa hTb hp
  have c0 := cell_of hm 0
  have c1 := cell_of hm 1
  have c2 := cell_of hm 2
  have c3 := cell_of hm 3
  have c4 := cell_of hm 4
  have c5 := cell_of hm 5
  have c6 := cell_of hm 6
  have c7 := cell_of hm 7
  simp at c0 c1 c2 c3 c4 c5 c6 c7
  have f0 := frozen_of hm 0
  have f1 := frozen_of hm 1
  have f2 := frozen_of hm 2
  have f3 := frozen_of hm 3
  have f4 := frozen_of hm 4
  have f5 := frozen_of hm 5
  have f6 := frozen_of hm 6
  have f7 := frozen_of hm 7
  have d0 := cell_of hZ 0
  have d1 := cell_of hZ 1
  have d2 := cell_of hZ 2
  have d3 := cell_of hZ 3
  have d4 := cell_of hZ 4
  have d5 := cell_of hZ 5
  have d6 := cell_of hZ 6
  have d7 := cell_of hZ 7
  simp at d0 d1 d2 d3 d4 d5 d6 d7
  have g0 := frozen_of hZ 0
  have g1 := frozen_of hZ 1
  have g2 := frozen_of hZ 2
  have g3 := frozen_of hZ 3
  have g4 := frozen_of hZ 4
  have g5 := frozen_of hZ 5
  have g6 := frozen_of hZ 6
  have g7 := frozen_of hZ 7
  go_wp2_with fail
  clear c0 c1 c2 c3 c4 c5 c6 c7 f0 f1 f2 f3 f4 f5 f6 f7 d0 d1 d2 d3 d4 d5 d6 d7 g0 g1 g2 g3 g4 g5 g6 g7
  obtain ⟨hm', hR', hB', hZ', hs'⟩ := put_cell hm 1 (.int .u32 (num t1 : Nat)) hR hbp hB hWp hZ (by omega)
  simp only [List.setIfInBounds_toArray, List.set_cons_succ, List.set_cons_zero] at hm'
  generalize World.setCell _ ⟨p, 1, none⟩ (.int .u32 (num t1 : Nat)) = w5 at *
  replace hps : p < w5.heap.size := by omega
  clear hm hR hB hZ hs'
  have hm := hm'
  have hR := hR'
  have hB := hB'
  have hZ := hZ'
  clear hm' hR' hB' hZ'
  refine (has_any 10 1 (by decide) (by decide) _).mono ?_
  rw [show fhas 10 1 = false from by decide]
  rintro e w' ⟨rfl, rfl⟩
  go_wp2_with fail
  refine (has_any 10 2 (by decide) (by decide) _).mono ?_
  rw [show fhas 10 2 = true from by decide]
  rintro e w' ⟨rfl, rfl⟩
  go_wp2_with fail
  refine (u16_any b r2 _ hR).mono ?_
  rintro e w4 ⟨rfl, hR, hg⟩
  replace hm := gr_heap hg hm (by omega)
  replace hZ := gr_heap hg hZ (by omega)
  replace hB := below_gr hB hg hbl
  replace hps := Nat.lt_of_lt_of_le hps hg.size
  clear hg
  have n2 : num (Rs.take r2 2).2 < 65536 := Rs.take_num2 r2
  have hp := Rs.take_pos r2 2 hp0

  generalize hTa : (Rs.take r2 2).1 = r3 at *
  generalize hTb : (Rs.take r2 2).2 = t2 at *
  replace hp0 := hp
  have A2 := Lib.hid hTa
  have B2 := Lib.hid hTb
  clear hTa hTb hp
  have c0 := cell_of hm 0
  have c1 := cell_of hm 1
  have c2 := cell_of hm 2
  have c3 := cell_of hm 3
  have c4 := cell_of hm 4
  have c5 := cell_of hm 5
  have c6 := cell_of hm 6
  have c7 := cell_of hm 7
  simp at c0 c1 c2 c3 c4 c5 c6 c7
  have f0 := frozen_of hm 0
  have f1 := frozen_of hm 1
  have f2 := frozen_of hm 2
  have f3 := frozen_of hm 3
  have f4 := frozen_of hm 4
  have f5 := frozen_of hm 5
  have f6 := frozen_of hm 6
  have f7 := frozen_of hm 7
  have d0 := cell_of hZ 0
  have d1 := cell_of hZ 1
  have d2 := cell_of hZ 2
  have d3 := cell_of hZ 3
  have d4 := cell_of hZ 4
  have d5 := cell_of hZ 5
  have d6 := cell_of hZ 6
  have d7 := cell_of hZ 7
  simp at d0 d1 d2 d3 d4 d5 d6 d7
  have g0 := frozen_of hZ 0
  have g1 := frozen_of hZ 1
  have g2 := frozen_of hZ 2
  have g3 := frozen_of hZ 3
  have g4 := frozen_of hZ 4
  have g5 := frozen_of hZ 5
  have g6 := frozen_of hZ 6
  have g7 := frozen_of hZ 7
  go_wp2_with fail
  clear c0 c1 c2 c3 c4 c5 c6 c7 f0 f1 f2 f3 f4 f5 f6 f7 d0 d1 d2 d3 d4 d5 d6 d7 g0 g1 g2 g3 g4 g5 g6 g7
  obtain ⟨hm', hR', hB', hZ', hs'⟩ := put_cell hm 3 (.int .i64 (num t2 : Nat)) hR hbp hB hWp hZ (by omega)
  simp only [List.setIfInBounds_toArray, List.set_cons_succ, List.set_cons_zero] at hm'
  generalize World.setCell _ ⟨p, 3, none⟩ (.int .i64 (num t2 : Nat)) = w5 at *
  replace hps : p < w5.heap.size := by omega
  clear hm hR hB hZ hs'
  have hm := hm'
  have hR := hR'
  have hB := hB'
  have hZ := hZ'
  clear hm' hR' hB' hZ'
  refine (has_any 10 4 (by decide) (by decide) _).mono ?_
  rw [show fhas 10 4 = false from by decide]
  rintro e w' ⟨rfl, rfl⟩
  go_wp2_with fail
  refine (has_any 10 8 (by decide) (by decide) _).mono ?_
  rw [show fhas 10 8 = true from by decide]
  rintro e w' ⟨rfl, rfl⟩
  go_wp2_with fail
  refine (u32_any b r3 _ hR).mono ?_
  rintro e w4 ⟨rfl, hR, hg⟩
  replace hm := gr_heap hg hm (by omega)
  replace hZ := gr_heap hg hZ (by omega)
  replace hB := below_gr hB hg hbl
  replace hps := Nat.lt_of_lt_of_le hps hg.size
  clear hg
  have n3 : num (Rs.take r3 4).2 < 4294967296 := Rs.take_num4 r3
  have hp := Rs.take_pos r3 4 hp0

  generalize hTa : (Rs.take r3 4).1 = r4 at *
  generalize hTb : (Rs.take r3 4).2 = t3 at *
  replace hp0 := hp
  have A3 := Lib.hid hTa
  have B3 := Lib.hid hTb
  clear hTa hTb hp
  have c0 := cell_of hm 0
  have c1 := cell_of hm 1
  have c2 := cell_of hm 2
  have c3 := cell_of hm 3
  have c4 := cell_of hm 4
  have c5 := cell_of hm 5
  have c6 := cell_of hm 6
  have c7 := cell_of hm 7
  simp at c0 c1 c2 c3 c4 c5 c6 c7
  have f0 := frozen_of hm 0
  have f1 := frozen_of hm 1
  have f2 := frozen_of hm 2
  have f3 := frozen_of hm 3
  have f4 := frozen_of hm 4
  have f5 := frozen_of hm 5
  have f6 := frozen_of hm 6
  have f7 := frozen_of hm 7
  have d0 := cell_of hZ 0
  have d1 := cell_of hZ 1
  have d2 := cell_of hZ 2
  have d3 := cell_of hZ 3
  have d4 := cell_of hZ 4
  have d5 := cell_of hZ 5
  have d6 := cell_of hZ 6
  have d7 := cell_of hZ 7
  simp at d0 d1 d2 d3 d4 d5 d6 d7
  have g0 := frozen_of hZ 0
  have g1 := frozen_of hZ 1
  have g2 := frozen_of hZ 2
  have g3 := frozen_of hZ 3
  have g4 := frozen_of hZ 4
  have g5 := frozen_of hZ 5
  have g6 := frozen_of hZ 6
  have g7 := frozen_of hZ 7
  go_wp2_with fail
  clear c0 c1 c2 c3 c4 c5 c6 c7 f0 f1 f2 f3 f4 f5 f6 f7 d0 d1 d2 d3 d4 d5 d6 d7 g0 g1 g2 g3 g4 g5 g6 g7
  obtain ⟨hm', hR', hB', hZ', hs'⟩ := put_cell hm 5 (.int .u32 (num t3 : Nat)) hR hbp hB hWp hZ (by omega)
  simp only [List.setIfInBounds_toArray, List.set_cons_succ, List.set_cons_zero] at hm'
  generalize World.setCell _ ⟨p, 5, none⟩ (.int .u32 (num t3 : Nat)) = w5 at *
  replace hps : p < w5.heap.size := by omega
  clear hm hR hB hZ hs'
  have hm := hm'
  have hR := hR'
  have hB := hB'
  have hZ := hZ'
  clear hm' hR' hB' hZ'
  refine (has_any 10 16 (by decide) (by decide) _).mono ?_
  rw [show fhas 10 16 = false from by decide]
  rintro e w' ⟨rfl, rfl⟩
  go_wp2_with fail
  refine (has_any 10 32 (by decide) (by decide) _).mono ?_
  rw [show fhas 10 32 = false from by decide]
  rintro e w' ⟨rfl, rfl⟩
  go_wp2_with fail
  have hch : decR xs = (⟨3, num t1, [], (num t2 : Nat), (0 : Nat), num t3, (0 : Nat), []⟩, r4) := by
    rw [hd]
    simp [chain, show fldN 3 = false from rfl, show fldS 3 = true from rfl, show fldO 3 = false from rfl, show fldU 3 = true from rfl, show fldC 3 = false from rfl, show fldB 3 = false from rfl, A1.out, B1.out, A2.out, B2.out, A3.out, B3.out, show num [] = 0 from rfl]
  have HCH := Lib.hid hch
  clear hch hd
  refine (err_any b r4 _ hR).mono ?_
  rintro e w' ⟨rfl, rfl⟩
  by_cases he : r4.err = 0
  · rw [he]
    have c0 := cell_of hm 0
    have c1 := cell_of hm 1
    have c2 := cell_of hm 2
    have c3 := cell_of hm 3
    have c4 := cell_of hm 4
    have c5 := cell_of hm 5
    have c6 := cell_of hm 6
    have c7 := cell_of hm 7
    simp at c0 c1 c2 c3 c4 c5 c6 c7
    have f0 := frozen_of hm 0
    have f1 := frozen_of hm 1
    have f2 := frozen_of hm 2
    have f3 := frozen_of hm 3
    have f4 := frozen_of hm 4
    have f5 := frozen_of hm 5
    have f6 := frozen_of hm 6
    have f7 := frozen_of hm 7
    have d0 := cell_of hZ 0
    have d1 := cell_of hZ 1
    have d2 := cell_of hZ 2
    have d3 := cell_of hZ 3
    have d4 := cell_of hZ 4
    have d5 := cell_of hZ 5
    have d6 := cell_of hZ 6
    have d7 := cell_of hZ 7
    simp at d0 d1 d2 d3 d4 d5 d6 d7
    have g0 := frozen_of hZ 0
    have g1 := frozen_of hZ 1
    have g2 := frozen_of hZ 2
    have g3 := frozen_of hZ 3
    have g4 := frozen_of hZ 4
    have g5 := frozen_of hZ 5
    have g6 := frozen_of hZ 6
    have g7 := frozen_of hZ 7
    go_wp2_with fail
    clear c0 c1 c2 c3 c4 c5 c6 c7 f0 f1 f2 f3 f4 f5 f6 f7 d0 d1 d2 d3 d4 d5 d6 d7 g0 g1 g2 g3 g4 g5 g6 g7
    refine (left_any b r4 _ hR).mono ?_
    rintro e w' ⟨rfl, n, rfl⟩
    replace hm : (w5.drewN n).heap[p]? = _ := hm
    replace hZ : (w5.drewN n).heap[w.heap.size]? = _ := hZ
    replace hB : Below W.heap.size W (w5.drewN n) := below_dn hB n

    generalize w5.drewN n = w6 at *
    by_cases hle : r4.pos < r4.xs.length
    · have hle' : (0 : Int) < (r4.xs.length : Int) - (r4.pos : Int) := by omega
      have c0 := cell_of hm 0
      have c1 := cell_of hm 1
      have c2 := cell_of hm 2
      have c3 := cell_of hm 3
      have c4 := cell_of hm 4
      have c5 := cell_of hm 5
      have c6 := cell_of hm 6
      have c7 := cell_of hm 7
      simp at c0 c1 c2 c3 c4 c5 c6 c7
      have f0 := frozen_of hm 0
      have f1 := frozen_of hm 1
      have f2 := frozen_of hm 2
      have f3 := frozen_of hm 3
      have f4 := frozen_of hm 4
      have f5 := frozen_of hm 5
      have f6 := frozen_of hm 6
      have f7 := frozen_of hm 7
      have d0 := cell_of hZ 0
      have d1 := cell_of hZ 1
      have d2 := cell_of hZ 2
      have d3 := cell_of hZ 3
      have d4 := cell_of hZ 4
      have d5 := cell_of hZ 5
      have d6 := cell_of hZ 6
      have d7 := cell_of hZ 7
      simp at d0 d1 d2 d3 d4 d5 d6 d7
      have g0 := frozen_of hZ 0
      have g1 := frozen_of hZ 1
      have g2 := frozen_of hZ 2
      have g3 := frozen_of hZ 3
      have g4 := frozen_of hZ 4
      have g5 := frozen_of hZ 5
      have g6 := frozen_of hZ 6
      have g7 := frozen_of hZ 7
      go_wp2
      clear c0 c1 c2 c3 c4 c5 c6 c7 f0 f1 f2 f3 f4 f5 f6 f7 d0 d1 d2 d3 d4 d5 d6 d7 g0 g1 g2 g3 g4 g5 g6 g7
      obtain ⟨hf, hf2, hf3⟩ := eight hZ (.int .i64 0) (.int .u32 0) (.string ⟨#[]⟩) (.int .i64 0) (.int .i64 0) (.int .u32 0) (.int .i64 0) (.slice none 0 0)
      generalize (World.setCell _ ⟨w.heap.size, 7, none⟩ (.slice none 0 0)) = wf at *
      have d0 := cell_of hf 0
      have d1 := cell_of hf 1
      have d2 := cell_of hf 2
      have d3 := cell_of hf 3
      have d4 := cell_of hf 4
      have d5 := cell_of hf 5
      have d6 := cell_of hf 6
      have d7 := cell_of hf 7
      simp at d0 d1 d2 d3 d4 d5 d6 d7
      obtain ⟨hE, hM⟩ := dec_bad hk (by decide) HCH.out he (.inl hle)
      rw [hE, hM]
      exact bodyPost_ret (v := .tuple #[.agg #[(.int .i64 0), (.int .u32 0), (.string ⟨#[]⟩), (.int .i64 0), (.int .i64 0), (.int .u32 0), (.int .i64 0), (.slice none 0 0)], .int .i64 210]) (by simp [results, Try.results15, go_sem, d0, d1, d2, d3, d4, d5, d6, d7]) rfl ⟨(.slice none 0 0), rfl, Ob.nil _ _ _, hf2 (below_tr HB0.out (hB)) (Nat.le_refl _)⟩
    · have hle' : ¬ ((0 : Int) < (r4.xs.length : Int) - (r4.pos : Int)) := by omega
      have c0 := cell_of hm 0
      have c1 := cell_of hm 1
      have c2 := cell_of hm 2
      have c3 := cell_of hm 3
      have c4 := cell_of hm 4
      have c5 := cell_of hm 5
      have c6 := cell_of hm 6
      have c7 := cell_of hm 7
      simp at c0 c1 c2 c3 c4 c5 c6 c7
      have f0 := frozen_of hm 0
      have f1 := frozen_of hm 1
      have f2 := frozen_of hm 2
      have f3 := frozen_of hm 3
      have f4 := frozen_of hm 4
      have f5 := frozen_of hm 5
      have f6 := frozen_of hm 6
      have f7 := frozen_of hm 7
      have d0 := cell_of hZ 0
      have d1 := cell_of hZ 1
      have d2 := cell_of hZ 2
      have d3 := cell_of hZ 3
      have d4 := cell_of hZ 4
      have d5 := cell_of hZ 5
      have d6 := cell_of hZ 6
      have d7 := cell_of hZ 7
      simp at d0 d1 d2 d3 d4 d5 d6 d7
      have g0 := frozen_of hZ 0
      have g1 := frozen_of hZ 1
      have g2 := frozen_of hZ 2
      have g3 := frozen_of hZ 3
      have g4 := frozen_of hZ 4
      have g5 := frozen_of hZ 5
      have g6 := frozen_of hZ 6
      have g7 := frozen_of hZ 7
      go_wp2_with fail
      clear c0 c1 c2 c3 c4 c5 c6 c7 f0 f1 f2 f3 f4 f5 f6 f7 d0 d1 d2 d3 d4 d5 d6 d7 g0 g1 g2 g3 g4 g5 g6 g7
      refine (check_any ⟨3, num t1, [], (num t2 : Nat), (0 : Nat), num t3, (0 : Nat), []⟩ (.slice none 0 0) w6 _ (Sl.nil _ (fun _ => True) _) (by simp)).mono ?_
      rintro e w7 ⟨rfl, hB7⟩
      replace hm := heap_bl hB7 hm
      replace hZ := heap_bl hB7 hZ
      replace hB := below_tr hB hB7

      clear hR
      by_cases hok : Msg.ok ⟨3, num t1, [], (num t2 : Nat), (0 : Nat), num t3, (0 : Nat), []⟩
      · rw [okErr, if_pos hok]
        have c0 := cell_of hm 0
        have c1 := cell_of hm 1
        have c2 := cell_of hm 2
        have c3 := cell_of hm 3
        have c4 := cell_of hm 4
        have c5 := cell_of hm 5
        have c6 := cell_of hm 6
        have c7 := cell_of hm 7
        simp at c0 c1 c2 c3 c4 c5 c6 c7
        have f0 := frozen_of hm 0
        have f1 := frozen_of hm 1
        have f2 := frozen_of hm 2
        have f3 := frozen_of hm 3
        have f4 := frozen_of hm 4
        have f5 := frozen_of hm 5
        have f6 := frozen_of hm 6
        have f7 := frozen_of hm 7
        have d0 := cell_of hZ 0
        have d1 := cell_of hZ 1
        have d2 := cell_of hZ 2
        have d3 := cell_of hZ 3
        have d4 := cell_of hZ 4
        have d5 := cell_of hZ 5
        have d6 := cell_of hZ 6
        have d7 := cell_of hZ 7
        simp at d0 d1 d2 d3 d4 d5 d6 d7
        have g0 := frozen_of hZ 0
        have g1 := frozen_of hZ 1
        have g2 := frozen_of hZ 2
        have g3 := frozen_of hZ 3
        have g4 := frozen_of hZ 4
        have g5 := frozen_of hZ 5
        have g6 := frozen_of hZ 6
        have g7 := frozen_of hZ 7
        go_wp2
        clear c0 c1 c2 c3 c4 c5 c6 c7 f0 f1 f2 f3 f4 f5 f6 f7 d0 d1 d2 d3 d4 d5 d6 d7 g0 g1 g2 g3 g4 g5 g6 g7
        obtain ⟨hf, hf2, hf3⟩ := eight hZ (.int .i64 3) (.int .u32 (num t1 : Nat)) (.string ⟨#[]⟩) (.int .i64 (num t2 : Nat)) (.int .i64 0) (.int .u32 (num t3 : Nat)) (.int .i64 0) (.slice none 0 0)
        generalize (World.setCell _ ⟨w.heap.size, 7, none⟩ (.slice none 0 0)) = wf at *
        have d0 := cell_of hf 0
        have d1 := cell_of hf 1
        have d2 := cell_of hf 2
        have d3 := cell_of hf 3
        have d4 := cell_of hf 4
        have d5 := cell_of hf 5
        have d6 := cell_of hf 6
        have d7 := cell_of hf 7
        simp at d0 d1 d2 d3 d4 d5 d6 d7
        obtain ⟨hE, hM⟩ := dec_good hk (by decide) HCH.out he hle hok
        rw [hE, hM]
        exact bodyPost_ret (v := .tuple #[.agg #[(.int .i64 3), (.int .u32 (num t1 : Nat)), (.string ⟨#[]⟩), (.int .i64 (num t2 : Nat)), (.int .i64 0), (.int .u32 (num t3 : Nat)), (.int .i64 0), (.slice none 0 0)], .int .i64 0]) (by simp [results, Try.results15, go_sem, d0, d1, d2, d3, d4, d5, d6, d7]) rfl ⟨(.slice none 0 0), rfl, Ob.nil _ _ _, hf2 (below_tr HB0.out (hB)) (Nat.le_refl _)⟩
      · rw [okErr, if_neg hok]
        have c0 := cell_of hm 0
        have c1 := cell_of hm 1
        have c2 := cell_of hm 2
        have c3 := cell_of hm 3
        have c4 := cell_of hm 4
        have c5 := cell_of hm 5
        have c6 := cell_of hm 6
        have c7 := cell_of hm 7
        simp at c0 c1 c2 c3 c4 c5 c6 c7
        have f0 := frozen_of hm 0
        have f1 := frozen_of hm 1
        have f2 := frozen_of hm 2
        have f3 := frozen_of hm 3
        have f4 := frozen_of hm 4
        have f5 := frozen_of hm 5
        have f6 := frozen_of hm 6
        have f7 := frozen_of hm 7
        have d0 := cell_of hZ 0
        have d1 := cell_of hZ 1
        have d2 := cell_of hZ 2
        have d3 := cell_of hZ 3
        have d4 := cell_of hZ 4
        have d5 := cell_of hZ 5
        have d6 := cell_of hZ 6
        have d7 := cell_of hZ 7
        simp at d0 d1 d2 d3 d4 d5 d6 d7
        have g0 := frozen_of hZ 0
        have g1 := frozen_of hZ 1
        have g2 := frozen_of hZ 2
        have g3 := frozen_of hZ 3
        have g4 := frozen_of hZ 4
        have g5 := frozen_of hZ 5
        have g6 := frozen_of hZ 6
        have g7 := frozen_of hZ 7
        go_wp2
        clear c0 c1 c2 c3 c4 c5 c6 c7 f0 f1 f2 f3 f4 f5 f6 f7 d0 d1 d2 d3 d4 d5 d6 d7 g0 g1 g2 g3 g4 g5 g6 g7
        obtain ⟨hf, hf2, hf3⟩ := eight hZ (.int .i64 0) (.int .u32 0) (.string ⟨#[]⟩) (.int .i64 0) (.int .i64 0) (.int .u32 0) (.int .i64 0) (.slice none 0 0)
        generalize (World.setCell _ ⟨w.heap.size, 7, none⟩ (.slice none 0 0)) = wf at *
        have d0 := cell_of hf 0
        have d1 := cell_of hf 1
        have d2 := cell_of hf 2
        have d3 := cell_of hf 3
        have d4 := cell_of hf 4
        have d5 := cell_of hf 5
        have d6 := cell_of hf 6
        have d7 := cell_of hf 7
        simp at d0 d1 d2 d3 d4 d5 d6 d7
        obtain ⟨hE, hM⟩ := dec_bad hk (by decide) HCH.out he (.inr hok)
        rw [hE, hM]
        exact bodyPost_ret (v := .tuple #[.agg #[(.int .i64 0), (.int .u32 0), (.string ⟨#[]⟩), (.int .i64 0), (.int .i64 0), (.int .u32 0), (.int .i64 0), (.slice none 0 0)], .int .i64 210]) (by simp [results, Try.results15, go_sem, d0, d1, d2, d3, d4, d5, d6, d7]) rfl ⟨(.slice none 0 0), rfl, Ob.nil _ _ _, hf2 (below_tr HB0.out (hB)) (Nat.le_refl _)⟩
  · have he' : (r4.err != 0) = true := by simpa using he
    have c0 := cell_of hm 0
    have c1 := cell_of hm 1
    have c2 := cell_of hm 2
    have c3 := cell_of hm 3
    have c4 := cell_of hm 4
    have c5 := cell_of hm 5
    have c6 := cell_of hm 6
    have c7 := cell_of hm 7
    simp at c0 c1 c2 c3 c4 c5 c6 c7
    have f0 := frozen_of hm 0
    have f1 := frozen_of hm 1
    have f2 := frozen_of hm 2
    have f3 := frozen_of hm 3
    have f4 := frozen_of hm 4
    have f5 := frozen_of hm 5
    have f6 := frozen_of hm 6
    have f7 := frozen_of hm 7
    have d0 := cell_of hZ 0
    have d1 := cell_of hZ 1
    have d2 := cell_of hZ 2
    have d3 := cell_of hZ 3
    have d4 := cell_of hZ 4
    have d5 := cell_of hZ 5
    have d6 := cell_of hZ 6
    have d7 := cell_of hZ 7
    simp at d0 d1 d2 d3 d4 d5 d6 d7
    have g0 := frozen_of hZ 0
    have g1 := frozen_of hZ 1
    have g2 := frozen_of hZ 2
    have g3 := frozen_of hZ 3
    have g4 := frozen_of hZ 4
    have g5 := frozen_of hZ 5
    have g6 := frozen_of hZ 6
    have g7 := frozen_of hZ 7
    go_wp2
    clear c0 c1 c2 c3 c4 c5 c6 c7 f0 f1 f2 f3 f4 f5 f6 f7 d0 d1 d2 d3 d4 d5 d6 d7 g0 g1 g2 g3 g4 g5 g6 g7
    obtain ⟨hf, hf2, hf3⟩ := eight hZ (.int .i64 0) (.int .u32 0) (.string ⟨#[]⟩) (.int .i64 0) (.int .i64 0) (.int .u32 0) (.int .i64 0) (.slice none 0 0)
    generalize (World.setCell _ ⟨w.heap.size, 7, none⟩ (.slice none 0 0)) = wf at *
    have d0 := cell_of hf 0
    have d1 := cell_of hf 1
    have d2 := cell_of hf 2
    have d3 := cell_of hf 3
    have d4 := cell_of hf 4
    have d5 := cell_of hf 5
    have d6 := cell_of hf 6
    have d7 := cell_of hf 7
    simp at d0 d1 d2 d3 d4 d5 d6 d7
    obtain ⟨hE, hM⟩ := dec_short hk (by decide) HCH.out he
    rw [hE, hM]
    exact bodyPost_ret (v := .tuple #[.agg #[(.int .i64 0), (.int .u32 0), (.string ⟨#[]⟩), (.int .i64 0), (.int .i64 0), (.int .u32 0), (.int .i64 0), (.slice none 0 0)], .int .i64 7]) (by simp [results, Try.results15, go_sem, d0, d1, d2, d3, d4, d5, d6, d7]) rfl ⟨(.slice none 0 0), rfl, Ob.nil _ _ _, hf2 (below_tr HB0.out (hB)) (Nat.le_refl _)⟩

end Go.Proofs.Ytmcldnfemlaeiaa
namespace Go.Proofs.Ytmcldnfemlaeiaa
open Go.RowKit K L
set_option linter.unusedVariables false
set_option linter.unusedSimpArgs false

set_option maxRecDepth 100000 in
set_option maxHeartbeats 4000000 in
theorem decode_4 (v : Value) (xs : List UInt8) (w : World) (F : Nat → Prop) (h : Bs w F v xs) (hl : xs.length ≤ 100000000) (hx : 0 < xs.length) (hk : kindOf xs = 4) :
    Calls Try.prog 15 #[v] w fun e w' => ∃ vb, e = .returned (.tuple #[.agg ((decM xs).cells vb).toArray, .int .i64 (decE xs)]) ∧ Ob w' w.heap.size 5 vb (decM xs).bytes ∧ Below w.heap.size w w' := by

  have hb := h
  obtain ⟨A, c, rfl, l1, l2, -, -⟩ := h.open_
  unfold maxLen at l2
  clear h
  go_enter Try.func15, Try.ntmps15
  go_wp2_with fail
  obtain ⟨hz, hB0, hb1, hsz⟩ := box_one w (.cells #[.int .i64 0, .int .u32 0, .string ⟨#[]⟩, .int .i64 0, .int .i64 0, .int .u32 0, .int .i64 0, .slice none 0 0] 25) _ _ _ hb
  clear hb
  generalize w.alloc (.cells #[.int .i64 0, .int .u32 0, .string ⟨#[]⟩, .int .i64 0, .int .i64 0, .int .u32 0, .int .i64 0, .slice none 0 0] 25) = W at *
  refine (read_any _ xs W F hb1 (by omega)).mono ?_
  rintro e w1 ⟨b, rfl, hbl, hR, hB1⟩
  go_wp2_with fail
  refine (u8_any b _ w1 hR).mono ?_
  rintro e w2 ⟨rfl, hR, hg⟩
  have hk1 : ((num (Rs.take ⟨xs, 0, 0⟩ 1).2 : Nat) : Int) = 4 := hk
  have hd : decR xs = chain 4 (Rs.take ⟨xs, 0, 0⟩ 1).1 := by rw [decR, hk]
  rw [hk1]
  have hp0 : (Rs.take ⟨xs, 0, 0⟩ 1).1.pos ≤ (Rs.take ⟨xs, 0, 0⟩ 1).1.xs.length := Rs.take_pos _ _ (Nat.zero_le _)

  generalize (Rs.take ⟨xs, 0, 0⟩ 1).1 = r1 at *
  clear hk1
  have hB2 : Below W.heap.size W w2 := below_gr hB1 hg hbl
  replace hz : w2.heap[w.heap.size]? = some _ := heap_bl hB2 hz
  have hbp := hR.lt
  have hWp := hB2.size
  go_wp2_with fail
  replace hR : IsR (w2.alloc (.cells #[.int .i64 4, .int .u32 0, .string ⟨#[]⟩, .int .i64 0, .int .i64 0, .int .u32 0, .int .i64 0, .slice none 0 0] 25)) b r1 := hR.below (below_al (Below.refl _ _) _)
  have hB : Below W.heap.size W (w2.alloc (.cells #[.int .i64 4, .int .u32 0, .string ⟨#[]⟩, .int .i64 0, .int .i64 0, .int .u32 0, .int .i64 0, .slice none 0 0] 25)) := below_al hB2 _
  have hZ : (w2.alloc (.cells #[.int .i64 4, .int .u32 0, .string ⟨#[]⟩, .int .i64 0, .int .i64 0, .int .u32 0, .int .i64 0, .slice none 0 0] 25)).heap[w.heap.size]? = some _ := heap_al hz _
  have hm := heap_alloc_new w2 (.cells #[.int .i64 4, .int .u32 0, .string ⟨#[]⟩, .int .i64 0, .int .i64 0, .int .u32 0, .int .i64 0, .slice none 0 0] 25)
  have hps : w2.heap.size < (w2.alloc (.cells #[.int .i64 4, .int .u32 0, .string ⟨#[]⟩, .int .i64 0, .int .i64 0, .int .u32 0, .int .i64 0, .slice none 0 0] 25)).heap.size := by rw [World.size_alloc]; omega
  generalize w2.alloc (.cells #[.int .i64 4, .int .u32 0, .string ⟨#[]⟩, .int .i64 0, .int .i64 0, .int .u32 0, .int .i64 0, .slice none 0 0] 25) = w3 at *
  generalize w2.heap.size = p at *
  clear hB2 hz hg hB1
  have HB0 := Lib.hid hB0
  clear hB0
  refine (fields_is _ 16 rfl _).mono ?_
  rintro e w' ⟨rfl, rfl⟩
  go_wp2_with fail
  refine (u32_any b r1 _ hR).mono ?_
  rintro e w4 ⟨rfl, hR, hg⟩
  replace hm := gr_heap hg hm (by omega)
  replace hZ := gr_heap hg hZ (by omega)
  replace hB := below_gr hB hg hbl
  replace hps := Nat.lt_of_lt_of_le hps hg.size
  clear hg
  have n1 : num (Rs.take r1 4).2 < 4294967296 := Rs.take_num4 r1
  have hp := Rs.take_pos r1 4 hp0

  generalize hTa : (Rs.take r1 4).1 = r2 at *
  generalize hTb : (Rs.take r1 4).2 = t1 at *
  replace hp0 := hp
  have A1 := Lib.hid hTa
  have B1 := Lib.hid hTb
  clear hTa hTb hp
  have c0 := cell_of hm 0
  have c1 := cell_of hm 1
  have c2 := cell_of hm 2
  have c3 := cell_of hm 3
  have c4 := cell_of hm 4
  have c5 := cell_of hm 5
  have c6 := cell_of hm 6
  have c7 := cell_of hm 7
  simp at c0 c1 c2 c3 c4 c5 c6 c7
  have f0 := frozen_of hm 0
  have f1 := frozen_of hm 1
  have f2 := frozen_of hm 2
  have f3 := frozen_of hm 3
  have f4 := frozen_of hm 4
  have f5 := frozen_of hm 5
  have f6 := frozen_of hm 6
  have f7 := frozen_of hm 7
  have d0 := cell_of hZ 0
  have d1 := cell_of hZ 1
  have d2 := cell_of hZ 2
  have d3 := cell_of hZ 3
  have d4 := cell_of hZ 4
  have d5 := cell_of hZ 5
  have d6 := cell_of hZ 6
  have d7 := cell_of hZ 7
  simp at d0 d1 d2 d3 d4 d5 d6 d7
  have g0 := frozen_of hZ 0
  have g1 := frozen_of hZ 1
  have g2 := frozen_of hZ 2
  have g3 := frozen_of hZ 3
  have g4 := frozen_of hZ 4
  have g5 := frozen_of hZ 5
  have g6 := frozen_of hZ 6
  have g7 := frozen_of hZ 7
  go_wp2_with fail
  clear c0 c1 c2 c3 c4 c5 c6 c7 f0 f1 f2 f3 f4 f5 f6 f7 d0 d1 d2 d3 d4 d5 d6 d7 g0 g1 g2 g3 g4 g5 g6 g7
  obtain ⟨hm', hR', hB', hZ', hs'⟩ := put_cell hm 1 (.int .u32 (num t1 : Nat)) hR hbp hB hWp hZ (by omega)
  simp only [List.setIfInBounds_toArray, List.set_cons_succ, List.set_cons_zero] at hm'
  generalize World.setCell _ ⟨p, 1, none⟩ (.int .u32 (num t1 : Nat)) = w5 at *
  replace hps : p < w5.heap.size := by omega
  clear hm hR hB hZ hs'
  have hm := hm'
  have hR := hR'
  have hB := hB'
  have hZ := hZ'
  clear hm' hR' hB' hZ'
  refine (has_any 16 1 (by decide) (by decide) _).mono ?_
  rw [show fhas 16 1 = false from by decide]
  rintro e w' ⟨rfl, rfl⟩
  go_wp2_with fail
  refine (has_any 16 2 (by decide) (by decide) _).mono ?_
  rw [show fhas 16 2 = false from by decide]
  rintro e w' ⟨rfl, rfl⟩
  go_wp2_with fail
  refine (has_any 16 4 (by decide) (by decide) _).mono ?_
  rw [show fhas 16 4 = false from by decide]
  rintro e w' ⟨rfl, rfl⟩
  go_wp2_with fail
  refine (has_any 16 8 (by decide) (by decide) _).mono ?_
  rw [show fhas 16 8 = false from by decide]
  rintro e w' ⟨rfl, rfl⟩
  go_wp2_with fail
  refine (has_any 16 16 (by decide) (by decide) _).mono ?_
  rw [show fhas 16 16 = true from by decide]
  rintro e w' ⟨rfl, rfl⟩
  go_wp2_with fail
  refine (u8_any b r2 _ hR).mono ?_
  rintro e w4 ⟨rfl, hR, hg⟩
  replace hm := gr_heap hg hm (by omega)
  replace hZ := gr_heap hg hZ (by omega)
  replace hB := below_gr hB hg hbl
  replace hps := Nat.lt_of_lt_of_le hps hg.size
  clear hg
  have n2 : num (Rs.take r2 1).2 < 256 := Rs.take_num1 r2
  have hp := Rs.take_pos r2 1 hp0

  generalize hTa : (Rs.take r2 1).1 = r3 at *
  generalize hTb : (Rs.take r2 1).2 = t2 at *
  replace hp0 := hp
  have A2 := Lib.hid hTa
  have B2 := Lib.hid hTb
  clear hTa hTb hp
  have c0 := cell_of hm 0
  have c1 := cell_of hm 1
  have c2 := cell_of hm 2
  have c3 := cell_of hm 3
  have c4 := cell_of hm 4
  have c5 := cell_of hm 5
  have c6 := cell_of hm 6
  have c7 := cell_of hm 7
  simp at c0 c1 c2 c3 c4 c5 c6 c7
  have f0 := frozen_of hm 0
  have f1 := frozen_of hm 1
  have f2 := frozen_of hm 2
  have f3 := frozen_of hm 3
  have f4 := frozen_of hm 4
  have f5 := frozen_of hm 5
  have f6 := frozen_of hm 6
  have f7 := frozen_of hm 7
  have d0 := cell_of hZ 0
  have d1 := cell_of hZ 1
  have d2 := cell_of hZ 2
  have d3 := cell_of hZ 3
  have d4 := cell_of hZ 4
  have d5 := cell_of hZ 5
  have d6 := cell_of hZ 6
  have d7 := cell_of hZ 7
  simp at d0 d1 d2 d3 d4 d5 d6 d7
  have g0 := frozen_of hZ 0
  have g1 := frozen_of hZ 1
  have g2 := frozen_of hZ 2
  have g3 := frozen_of hZ 3
  have g4 := frozen_of hZ 4
  have g5 := frozen_of hZ 5
  have g6 := frozen_of hZ 6
  have g7 := frozen_of hZ 7
  go_wp2_with fail
  clear c0 c1 c2 c3 c4 c5 c6 c7 f0 f1 f2 f3 f4 f5 f6 f7 d0 d1 d2 d3 d4 d5 d6 d7 g0 g1 g2 g3 g4 g5 g6 g7
  obtain ⟨hm', hR', hB', hZ', hs'⟩ := put_cell hm 6 (.int .i64 (num t2 : Nat)) hR hbp hB hWp hZ (by omega)
  simp only [List.setIfInBounds_toArray, List.set_cons_succ, List.set_cons_zero] at hm'
  generalize World.setCell _ ⟨p, 6, none⟩ (.int .i64 (num t2 : Nat)) = w5 at *
  replace hps : p < w5.heap.size := by omega
  clear hm hR hB hZ hs'
  have hm := hm'
  have hR := hR'
  have hB := hB'
  have hZ := hZ'
  clear hm' hR' hB' hZ'
  refine (has_any 16 32 (by decide) (by decide) _).mono ?_
  rw [show fhas 16 32 = false from by decide]
  rintro e w' ⟨rfl, rfl⟩
  go_wp2_with fail
  have hch : decR xs = (⟨4, num t1, [], (0 : Nat), (0 : Nat), 0, (num t2 : Nat), []⟩, r3) := by
    rw [hd]
    simp [chain, show fldN 4 = false from rfl, show fldS 4 = false from rfl, show fldO 4 = false from rfl, show fldU 4 = false from rfl, show fldC 4 = true from rfl, show fldB 4 = false from rfl, A1.out, B1.out, A2.out, B2.out, show num [] = 0 from rfl]
  have HCH := Lib.hid hch
  clear hch hd
  refine (err_any b r3 _ hR).mono ?_
  rintro e w' ⟨rfl, rfl⟩
  by_cases he : r3.err = 0
  · rw [he]
    have c0 := cell_of hm 0
    have c1 := cell_of hm 1
    have c2 := cell_of hm 2
    have c3 := cell_of hm 3
    have c4 := cell_of hm 4
    have c5 := cell_of hm 5
    have c6 := cell_of hm 6
    have c7 := cell_of hm 7
    simp at c0 c1 c2 c3 c4 c5 c6 c7
    have f0 := frozen_of hm 0
    have f1 := frozen_of hm 1
    have f2 := frozen_of hm 2
    have f3 := frozen_of hm 3
    have f4 := frozen_of hm 4
    have f5 := frozen_of hm 5
    have f6 := frozen_of hm 6
    have f7 := frozen_of hm 7
    have d0 := cell_of hZ 0
    have d1 := cell_of hZ 1
    have d2 := cell_of hZ 2
    have d3 := cell_of hZ 3
    have d4 := cell_of hZ 4
    have d5 := cell_of hZ 5
    have d6 := cell_of hZ 6
    have d7 := cell_of hZ 7
    simp at d0 d1 d2 d3 d4 d5 d6 d7
    have g0 := frozen_of hZ 0
    have g1 := frozen_of hZ 1
    have g2 := frozen_of hZ 2
    have g3 := frozen_of hZ 3
    have g4 := frozen_of hZ 4
    have g5 := frozen_of hZ 5
    have g6 := frozen_of hZ 6
    have g7 := frozen_of hZ 7
    go_wp2_with fail
    clear c0 c1 c2 c3 c4 c5 c6 c7 f0 f1 f2 f3 f4 f5 f6 f7 d0 d1 d2 d3 d4 d5 d6 d7 g0 g1 g2 g3 g4 g5 g6 g7
    refine (left_any b r3 _ hR).mono ?_
    rintro e w' ⟨rfl, n, rfl⟩
    replace hm : (w5.drewN n).heap[p]? = _ := hm
    replace hZ : (w5.drewN n).heap[w.heap.size]? = _ := hZ
    replace hB : Below W.heap.size W (w5.drewN n) := below_dn hB n

    generalize w5.drewN n = w6 at *
    by_cases hle : r3.pos < r3.xs.length
    · have hle' : (0 : Int) < (r3.xs.length : Int) - (r3.pos : Int) := by omega
      have c0 := cell_of hm 0
      have c1 := cell_of hm 1
      have c2 := cell_of hm 2
      have c3 := cell_of hm 3
      have c4 := cell_of hm 4
      have c5 := cell_of hm 5
      have c6 := cell_of hm 6
      have c7 := cell_of hm 7
      simp at c0 c1 c2 c3 c4 c5 c6 c7
      have f0 := frozen_of hm 0
      have f1 := frozen_of hm 1
      have f2 := frozen_of hm 2
      have f3 := frozen_of hm 3
      have f4 := frozen_of hm 4
      have f5 := frozen_of hm 5
      have f6 := frozen_of hm 6
      have f7 := frozen_of hm 7
      have d0 := cell_of hZ 0
      have d1 := cell_of hZ 1
      have d2 := cell_of hZ 2
      have d3 := cell_of hZ 3
      have d4 := cell_of hZ 4
      have d5 := cell_of hZ 5
      have d6 := cell_of hZ 6
      have d7 := cell_of hZ 7
      simp at d0 d1 d2 d3 d4 d5 d6 d7
      have g0 := frozen_of hZ 0
      have g1 := frozen_of hZ 1
      have g2 := frozen_of hZ 2
      have g3 := frozen_of hZ 3
      have g4 := frozen_of hZ 4
      have g5 := frozen_of hZ 5
      have g6 := frozen_of hZ 6
      have g7 := frozen_of hZ 7
      go_wp2
      clear c0 c1 c2 c3 c4 c5 c6 c7 f0 f1 f2 f3 f4 f5 f6 f7 d0 d1 d2 d3 d4 d5 d6 d7 g0 g1 g2 g3 g4 g5 g6 g7
      obtain ⟨hf, hf2, hf3⟩ := eight hZ (.int .i64 0) (.int .u32 0) (.string ⟨#[]⟩) (.int .i64 0) (.int .i64 0) (.int .u32 0) (.int .i64 0) (.slice none 0 0)
      generalize (World.setCell _ ⟨w.heap.size, 7, none⟩ (.slice none 0 0)) = wf at *
      have d0 := cell_of hf 0
      have d1 := cell_of hf 1
      have d2 := cell_of hf 2
      have d3 := cell_of hf 3
      have d4 := cell_of hf 4
      have d5 := cell_of hf 5
      have d6 := cell_of hf 6
      have d7 := cell_of hf 7
      simp at d0 d1 d2 d3 d4 d5 d6 d7
      obtain ⟨hE, hM⟩ := dec_bad hk (by decide) HCH.out he (.inl hle)
      rw [hE, hM]
      exact bodyPost_ret (v := .tuple #[.agg #[(.int .i64 0), (.int .u32 0), (.string ⟨#[]⟩), (.int .i64 0), (.int .i64 0), (.int .u32 0), (.int .i64 0), (.slice none 0 0)], .int .i64 210]) (by simp [results, Try.results15, go_sem, d0, d1, d2, d3, d4, d5, d6, d7]) rfl ⟨(.slice none 0 0), rfl, Ob.nil _ _ _, hf2 (below_tr HB0.out (hB)) (Nat.le_refl _)⟩
    · have hle' : ¬ ((0 : Int) < (r3.xs.length : Int) - (r3.pos : Int)) := by omega
      have c0 := cell_of hm 0
      have c1 := cell_of hm 1
      have c2 := cell_of hm 2
      have c3 := cell_of hm 3
      have c4 := cell_of hm 4
      have c5 := cell_of hm 5
      have c6 := cell_of hm 6
      have c7 := cell_of hm 7
      simp at c0 c1 c2 c3 c4 c5 c6 c7
      have f0 := frozen_of hm 0
      have f1 := frozen_of hm 1
      have f2 := frozen_of hm 2
      have f3 := frozen_of hm 3
      have f4 := frozen_of hm 4
      have f5 := frozen_of hm 5
      have f6 := frozen_of hm 6
      have f7 := frozen_of hm 7
      have d0 := cell_of hZ 0
      have d1 := cell_of hZ 1
      have d2 := cell_of hZ 2
      have d3 := cell_of hZ 3
      have d4 := cell_of hZ 4
      have d5 := cell_of hZ 5
      have d6 := cell_of hZ 6
      have d7 := cell_of hZ 7
      simp at d0 d1 d2 d3 d4 d5 d6 d7
      have g0 := frozen_of hZ 0
      have g1 := frozen_of hZ 1
      have g2 := frozen_of hZ 2
      have g3 := frozen_of hZ 3
      have g4 := frozen_of hZ 4
      have g5 := frozen_of hZ 5
      have g6 := frozen_of hZ 6
      have g7 := frozen_of hZ 7
      go_wp2_with fail
      clear c0 c1 c2 c3 c4 c5 c6 c7 f0 f1 f2 f3 f4 f5 f6 f7 d0 d1 d2 d3 d4 d5 d6 d7 g0 g1 g2 g3 g4 g5 g6 g7
      refine (check_any ⟨4, num t1, [], (0 : Nat), (0 : Nat), 0, (num t2 : Nat), []⟩ (.slice none 0 0) w6 _ (Sl.nil _ (fun _ => True) _) (by simp)).mono ?_
      rintro e w7 ⟨rfl, hB7⟩
      replace hm := heap_bl hB7 hm
      replace hZ := heap_bl hB7 hZ
      replace hB := below_tr hB hB7

      clear hR
      by_cases hok : Msg.ok ⟨4, num t1, [], (0 : Nat), (0 : Nat), 0, (num t2 : Nat), []⟩
      · rw [okErr, if_pos hok]
        have c0 := cell_of hm 0
        have c1 := cell_of hm 1
        have c2 := cell_of hm 2
        have c3 := cell_of hm 3
        have c4 := cell_of hm 4
        have c5 := cell_of hm 5
        have c6 := cell_of hm 6
        have c7 := cell_of hm 7
        simp at c0 c1 c2 c3 c4 c5 c6 c7
        have f0 := frozen_of hm 0
        have f1 := frozen_of hm 1
        have f2 := frozen_of hm 2
        have f3 := frozen_of hm 3
        have f4 := frozen_of hm 4
        have f5 := frozen_of hm 5
        have f6 := frozen_of hm 6
        have f7 := frozen_of hm 7
        have d0 := cell_of hZ 0
        have d1 := cell_of hZ 1
        have d2 := cell_of hZ 2
        have d3 := cell_of hZ 3
        have d4 := cell_of hZ 4
        have d5 := cell_of hZ 5
        have d6 := cell_of hZ 6
        have d7 := cell_of hZ 7
        simp at d0 d1 d2 d3 d4 d5 d6 d7
        have g0 := frozen_of hZ 0
        have g1 := frozen_of hZ 1
        have g2 := frozen_of hZ 2
        have g3 := frozen_of hZ 3
        have g4 := frozen_of hZ 4
        have g5 := frozen_of hZ 5
        have g6 := frozen_of hZ 6
        have g7 := frozen_of hZ 7
        go_wp2
        clear c0 c1 c2 c3 c4 c5 c6 c7 f0 f1 f2 f3 f4 f5 f6 f7 d0 d1 d2 d3 d4 d5 d6 d7 g0 g1 g2 g3 g4 g5 g6 g7
        obtain ⟨hf, hf2, hf3⟩ := eight hZ (.int .i64 4) (.int .u32 (num t1 : Nat)) (.string ⟨#[]⟩) (.int .i64 0) (.int .i64 0) (.int .u32 0) (.int .i64 (num t2 : Nat)) (.slice none 0 0)
        generalize (World.setCell _ ⟨w.heap.size, 7, none⟩ (.slice none 0 0)) = wf at *
        have d0 := cell_of hf 0
        have d1 := cell_of hf 1
        have d2 := cell_of hf 2
        have d3 := cell_of hf 3
        have d4 := cell_of hf 4
        have d5 := cell_of hf 5
        have d6 := cell_of hf 6
        have d7 := cell_of hf 7
        simp at d0 d1 d2 d3 d4 d5 d6 d7
        obtain ⟨hE, hM⟩ := dec_good hk (by decide) HCH.out he hle hok
        rw [hE, hM]
        exact bodyPost_ret (v := .tuple #[.agg #[(.int .i64 4), (.int .u32 (num t1 : Nat)), (.string ⟨#[]⟩), (.int .i64 0), (.int .i64 0), (.int .u32 0), (.int .i64 (num t2 : Nat)), (.slice none 0 0)], .int .i64 0]) (by simp [results, Try.results15, go_sem, d0, d1, d2, d3, d4, d5, d6, d7]) rfl ⟨(.slice none 0 0), rfl, Ob.nil _ _ _, hf2 (below_tr HB0.out (hB)) (Nat.le_refl _)⟩
      · rw [okErr, if_neg hok]
        have c0 := cell_of hm 0
        have c1 := cell_of hm 1
        have c2 := cell_of hm 2
        have c3 := cell_of hm 3
        have c4 := cell_of hm 4
        have c5 := cell_of hm 5
        have c6 := cell_of hm 6
        have c7 := cell_of hm 7
        simp at c0 c1 c2 c3 c4 c5 c6 c7
        have f0 := frozen_of hm 0
        have f1 := frozen_of hm 1
        have f2 := frozen_of hm 2
        have f3 := frozen_of hm 3
        have f4 := frozen_of hm 4
        have f5 := frozen_of hm 5
        have f6 := frozen_of hm 6
        have f7 := frozen_of hm 7
        have d0 := cell_of hZ 0
        have d1 := cell_of hZ 1
        have d2 := cell_of hZ 2
        have d3 := cell_of hZ 3
        have d4 := cell_of hZ 4
        have d5 := cell_of hZ 5
        have d6 := cell_of hZ 6
        have d7 := cell_of hZ 7
        simp at d0 d1 d2 d3 d4 d5 d6 d7
        have g0 := frozen_of hZ 0
        have g1 := frozen_of hZ 1
        have g2 := frozen_of hZ 2
        have g3 := frozen_of hZ 3
        have g4 := frozen_of hZ 4
        have g5 := frozen_of hZ 5
        have g6 := frozen_of hZ 6
        have g7 := frozen_of hZ 7
        go_wp2
        clear c0 c1 c2 c3 c4 c5 c6 c7 f0 f1 f2 f3 f4 f5 f6 f7 d0 d1 d2 d3 d4 d5 d6 d7 g0 g1 g2 g3 g4 g5 g6 g7
        obtain ⟨hf, hf2, hf3⟩ := eight hZ (.int .i64 0) (.int .u32 0) (.string ⟨#[]⟩) (.int .i64 0) (.int .i64 0) (.int .u32 0) (.int .i64 0) (.slice none 0 0)
        generalize (World.setCell _ ⟨w.heap.size, 7, none⟩ (.slice none 0 0)) = wf at *
        have d0 := cell_of hf 0
        have d1 := cell_of hf 1
        have d2 := cell_of hf 2
        have d3 := cell_of hf 3
        have d4 := cell_of hf 4
        have d5 := cell_of hf 5
        have d6 := cell_of hf 6
        have d7 := cell_of hf 7
        simp at d0 d1 d2 d3 d4 d5 d6 d7
        obtain ⟨hE, hM⟩ := dec_bad hk (by decide) HCH.out he (.inr hok)
        rw [hE, hM]
        exact bodyPost_ret (v := .tuple #[.agg #[(.int .i64 0), (.int .u32 0), (.string ⟨#[]⟩), (.int .i64 0), (.int .i64 0), (.int .u32 0), (.int .i64 0), (.slice none 0 0)], .int .i64 210]) (by simp [results, Try.results15, go_sem, d0, d1, d2, d3, d4, d5, d6, d7]) rfl ⟨(.slice none 0 0), rfl, Ob.nil _ _ _, hf2 (below_tr HB0.out (hB)) (Nat.le_refl _)⟩
  · have he' : (r3.err != 0) = true := by simpa using he
    have c0 := cell_of hm 0
    have c1 := cell_of hm 1
    have c2 := cell_of hm 2
    have c3 := cell_of hm 3
    have c4 := cell_of hm 4
    have c5 := cell_of hm 5
    have c6 := cell_of hm 6
    have c7 := cell_of hm 7
    simp at c0 c1 c2 c3 c4 c5 c6 c7
    have f0 := frozen_of hm 0
    have f1 := frozen_of hm 1
    have f2 := frozen_of hm 2
    have f3 := frozen_of hm 3
    have f4 := frozen_of hm 4
    have f5 := frozen_of hm 5
    have f6 := frozen_of hm 6
    have f7 := frozen_of hm 7
    have d0 := cell_of hZ 0
    have d1 := cell_of hZ 1
    have d2 := cell_of hZ 2
    have d3 := cell_of hZ 3
    have d4 := cell_of hZ 4
    have d5 := cell_of hZ 5
    have d6 := cell_of hZ 6
    have d7 := cell_of hZ 7
    simp at d0 d1 d2 d3 d4 d5 d6 d7
    have g0 := frozen_of hZ 0
    have g1 := frozen_of hZ 1
    have g2 := frozen_of hZ 2
    have g3 := frozen_of hZ 3
    have g4 := frozen_of hZ 4
    have g5 := frozen_of hZ 5
    have g6 := frozen_of hZ 6
    have g7 := frozen_of hZ 7
    go_wp2
    clear c0 c1 c2 c3 c4 c5 c6 c7 f0 f1 f2 f3 f4 f5 f6 f7 d0 d1 d2 d3 d4 d5 d6 d7 g0 g1 g2 g3 g4 g5 g6 g7
    obtain ⟨hf, hf2, hf3⟩ := eight hZ (.int .i64 0) (.int .u32 0) (.string ⟨#[]⟩) (.int .i64 0) (.int .i64 0) (.int .u32 0) (.int .i64 0) (.slice none 0 0)
    generalize (World.setCell _ ⟨w.heap.size, 7, none⟩ (.slice none 0 0)) = wf at *
    have d0 := cell_of hf 0
    have d1 := cell_of hf 1
    have d2 := cell_of hf 2
    have d3 := cell_of hf 3
    have d4 := cell_of hf 4
    have d5 := cell_of hf 5
    have d6 := cell_of hf 6
    have d7 := cell_of hf 7
    simp at d0 d1 d2 d3 d4 d5 d6 d7
    obtain ⟨hE, hM⟩ := dec_short hk (by decide) HCH.out he
    rw [hE, hM]
    exact bodyPost_ret (v := .tuple #[.agg #[(.int .i64 0), (.int .u32 0), (.string ⟨#[]⟩), (.int .i64 0), (.int .i64 0), (.int .u32 0), (.int .i64 0), (.slice none 0 0)], .int .i64 7]) (by simp [results, Try.results15, go_sem, d0, d1, d2, d3, d4, d5, d6, d7]) rfl ⟨(.slice none 0 0), rfl, Ob.nil _ _ _, hf2 (below_tr HB0.out (hB)) (Nat.le_refl _)⟩

end Go.Proofs.Ytmcldnfemlaeiaa
namespace Go.Proofs.Ytmcldnfemlaeiaa
open Go.RowKit K L
set_option linter.unusedVariables false
set_option linter.unusedSimpArgs false

set_option maxRecDepth 100000 in
set_option maxHeartbeats 4000000 in
theorem decode_5 (v : Value) (xs : List UInt8) (w : World) (F : Nat → Prop) (h : Bs w F v xs) (hl : xs.length ≤ 100000000) (hx : 0 < xs.length) (hk : kindOf xs = 5) :
    Calls Try.prog 15 #[v] w fun e w' => ∃ vb, e = .returned (.tuple #[.agg ((decM xs).cells vb).toArray, .int .i64 (decE xs)]) ∧ Ob w' w.heap.size 5 vb (decM xs).bytes ∧ Below w.heap.size w w' := by

  have hb := h
  obtain ⟨A, c, rfl, l1, l2, -, -⟩ := h.open_
  unfold maxLen at l2
  clear h
  go_enter Try.func15, Try.ntmps15
  go_wp2_with fail
  obtain ⟨hz, hB0, hb1, hsz⟩ := box_one w (.cells #[.int .i64 0, .int .u32 0, .string ⟨#[]⟩, .int .i64 0, .int .i64 0, .int .u32 0, .int .i64 0, .slice none 0 0] 25) _ _ _ hb
  clear hb
  generalize w.alloc (.cells #[.int .i64 0, .int .u32 0, .string ⟨#[]⟩, .int .i64 0, .int .i64 0, .int .u32 0, .int .i64 0, .slice none 0 0] 25) = W at *
  refine (read_any _ xs W F hb1 (by omega)).mono ?_
  rintro e w1 ⟨b, rfl, hbl, hR, hB1⟩
  go_wp2_with fail
  refine (u8_any b _ w1 hR).mono ?_
  rintro e w2 ⟨rfl, hR, hg⟩
  have hk1 : ((num (Rs.take ⟨xs, 0, 0⟩ 1).2 : Nat) : Int) = 5 := hk
  have hd : decR xs = chain 5 (Rs.take ⟨xs, 0, 0⟩ 1).1 := by rw [decR, hk]
  rw [hk1]
  have hp0 : (Rs.take ⟨xs, 0, 0⟩ 1).1.pos ≤ (Rs.take ⟨xs, 0, 0⟩ 1).1.xs.length := Rs.take_pos _ _ (Nat.zero_le _)

  generalize (Rs.take ⟨xs, 0, 0⟩ 1).1 = r1 at *
  clear hk1
  have hB2 : Below W.heap.size W w2 := below_gr hB1 hg hbl
  replace hz : w2.heap[w.heap.size]? = some _ := heap_bl hB2 hz
  have hbp := hR.lt
  have hWp := hB2.size
  go_wp2_with fail
  replace hR : IsR (w2.alloc (.cells #[.int .i64 5, .int .u32 0, .string ⟨#[]⟩, .int .i64 0, .int .i64 0, .int .u32 0, .int .i64 0, .slice none 0 0] 25)) b r1 := hR.below (below_al (Below.refl _ _) _)
  have hB : Below W.heap.size W (w2.alloc (.cells #[.int .i64 5, .int .u32 0, .string ⟨#[]⟩, .int .i64 0, .int .i64 0, .int .u32 0, .int .i64 0, .slice none 0 0] 25)) := below_al hB2 _
  have hZ : (w2.alloc (.cells #[.int .i64 5, .int .u32 0, .string ⟨#[]⟩, .int .i64 0, .int .i64 0, .int .u32 0, .int .i64 0, .slice none 0 0] 25)).heap[w.heap.size]? = some _ := heap_al hz _
  have hm := heap_alloc_new w2 (.cells #[.int .i64 5, .int .u32 0, .string ⟨#[]⟩, .int .i64 0, .int .i64 0, .int .u32 0, .int .i64 0, .slice none 0 0] 25)
  have hps : w2.heap.size < (w2.alloc (.cells #[.int .i64 5, .int .u32 0, .string ⟨#[]⟩, .int .i64 0, .int .i64 0, .int .u32 0, .int .i64 0, .slice none 0 0] 25)).heap.size := by rw [World.size_alloc]; omega
  generalize w2.alloc (.cells #[.int .i64 5, .int .u32 0, .string ⟨#[]⟩, .int .i64 0, .int .i64 0, .int .u32 0, .int .i64 0, .slice none 0 0] 25) = w3 at *
  generalize w2.heap.size = p at *
  clear hB2 hz hg hB1
  have HB0 := Lib.hid hB0
  clear hB0
  refine (fields_is _ 33 rfl _).mono ?_
  rintro e w' ⟨rfl, rfl⟩
  go_wp2_with fail
  refine (u32_any b r1 _ hR).mono ?_
  rintro e w4 ⟨rfl, hR, hg⟩
  replace hm := gr_heap hg hm (by omega)
  replace hZ := gr_heap hg hZ (by omega)
  replace hB := below_gr hB hg hbl
  replace hps := Nat.lt_of_lt_of_le hps hg.size
  clear hg
  have n1 : num (Rs.take r1 4).2 < 4294967296 := Rs.take_num4 r1
  have hp := Rs.take_pos r1 4 hp0

  generalize hTa : (Rs.take r1 4).1 = r2 at *
  generalize hTb : (Rs.take r1 4).2 = t1 at *
  replace hp0 := hp
  have A1 := Lib.hid hTa
  have B1 := Lib.hid hTb
  clear hTa hTb hp
  have c0 := cell_of hm 0
  have c1 := cell_of hm 1
  have c2 := cell_of hm 2
  have c3 := cell_of hm 3
  have c4 := cell_of hm 4
  have c5 := cell_of hm 5
  have c6 := cell_of hm 6
  have c7 := cell_of hm 7
  simp at c0 c1 c2 c3 c4 c5 c6 c7
  have f0 := frozen_of hm 0
  have f1 := frozen_of hm 1
  have f2 := frozen_of hm 2
  have f3 := frozen_of hm 3
  have f4 := frozen_of hm 4
  have f5 := frozen_of hm 5
  have f6 := frozen_of hm 6
  have f7 := frozen_of hm 7
  have d0 := cell_of hZ 0
  have d1 := cell_of hZ 1
  have d2 := cell_of hZ 2
  have d3 := cell_of hZ 3
  have d4 := cell_of hZ 4
  have d5 := cell_of hZ 5
  have d6 := cell_of hZ 6
  have d7 := cell_of hZ 7
  simp at d0 d1 d2 d3 d4 d5 d6 d7
  have g0 := frozen_of hZ 0
  have g1 := frozen_of hZ 1
  have g2 := frozen_of hZ 2
  have g3 := frozen_of hZ 3
  have g4 := frozen_of hZ 4
  have g5 := frozen_of hZ 5
  have g6 := frozen_of hZ 6
  have g7 := frozen_of hZ 7
  go_wp2_with fail
  clear c0 c1 c2 c3 c4 c5 c6 c7 f0 f1 f2 f3 f4 f5 f6 f7 d0 d1 d2 d3 d4 d5 d6 d7 g0 g1 g2 g3 g4 g5 g6 g7
  obtain ⟨hm', hR', hB', hZ', hs'⟩ := put_cell hm 1 (.int .u32 (num t1 : Nat)) hR hbp hB hWp hZ (by omega)
  simp only [List.setIfInBounds_toArray, List.set_cons_succ, List.set_cons_zero] at hm'
  generalize World.setCell _ ⟨p, 1, none⟩ (.int .u32 (num t1 : Nat)) = w5 at *
  replace hps : p < w5.heap.size := by omega
  clear hm hR hB hZ hs'
  have hm := hm'
  have hR := hR'
  have hB := hB'
  have hZ := hZ'
  clear hm' hR' hB' hZ'
  refine (has_any 33 1 (by decide) (by decide) _).mono ?_
  rw [show fhas 33 1 = true from by decide]
  rintro e w' ⟨rfl, rfl⟩
  go_wp2_with fail
  refine (u8_any b r2 _ hR).mono ?_
  rintro e w4 ⟨rfl, hR, hg⟩
  replace hm := gr_heap hg hm (by omega)
  replace hZ := gr_heap hg hZ (by omega)
  replace hB := below_gr hB hg hbl
  replace hps := Nat.lt_of_lt_of_le hps hg.size
  clear hg
  have n2 : num (Rs.take r2 1).2 < 256 := Rs.take_num1 r2
  have hp := Rs.take_pos r2 1 hp0

  generalize hTa : (Rs.take r2 1).1 = r3 at *
  generalize hTb : (Rs.take r2 1).2 = t2 at *
  replace hp0 := hp
  have A2 := Lib.hid hTa
  have B2 := Lib.hid hTb
  clear hTa hTb hp
  go_wp2_with fail
  have hraw : Bs W (· < W.heap.size) (.slice none 0 0) [] := Sl.nil _ _ _
  refine (raw_any b r3 (num t2 : Nat) _ hR (by omega)).mono ?_
  clear hraw
  have hpw := hps
  rintro e w4 ⟨vb, rfl, ho, hR, hg⟩
  replace hm := gr_heap hg hm (by omega)
  replace hZ := gr_heap hg hZ (by omega)
  replace hB := below_gr hB hg hbl
  replace hps := Nat.lt_of_lt_of_le hps hg.size
  clear hg
  have hp := Rs.take_pos r3 (num t2 : Nat) hp0
  generalize hTa : (Rs.take r3 (num t2 : Nat)).1 = r4 at *
  generalize hTb : (Rs.take r3 (num t2 : Nat)).2 = t3 at *
  replace hp0 := hp
  have A3 := Lib.hid hTa
  have B3 := Lib.hid hTb
  clear hTa hTb hp
  have hname : t3.length ≤ 256 := by have := Rs.take_at r3 (num t2); rw [B3.out] at this; omega
  have c0 := cell_of hm 0
  have c1 := cell_of hm 1
  have c2 := cell_of hm 2
  have c3 := cell_of hm 3
  have c4 := cell_of hm 4
  have c5 := cell_of hm 5
  have c6 := cell_of hm 6
  have c7 := cell_of hm 7
  simp at c0 c1 c2 c3 c4 c5 c6 c7
  have f0 := frozen_of hm 0
  have f1 := frozen_of hm 1
  have f2 := frozen_of hm 2
  have f3 := frozen_of hm 3
  have f4 := frozen_of hm 4
  have f5 := frozen_of hm 5
  have f6 := frozen_of hm 6
  have f7 := frozen_of hm 7
  have d0 := cell_of hZ 0
  have d1 := cell_of hZ 1
  have d2 := cell_of hZ 2
  have d3 := cell_of hZ 3
  have d4 := cell_of hZ 4
  have d5 := cell_of hZ 5
  have d6 := cell_of hZ 6
  have d7 := cell_of hZ 7
  simp at d0 d1 d2 d3 d4 d5 d6 d7
  have g0 := frozen_of hZ 0
  have g1 := frozen_of hZ 1
  have g2 := frozen_of hZ 2
  have g3 := frozen_of hZ 3
  have g4 := frozen_of hZ 4
  have g5 := frozen_of hZ 5
  have g6 := frozen_of hZ 6
  have g7 := frozen_of hZ 7
  go_wp2_with (refine conv_str rfl (.tmp 33) rfl ho.bs rfl Try.underlying23 Try.underlying5 Try.underlying9 ?_)
  clear c0 c1 c2 c3 c4 c5 c6 c7 f0 f1 f2 f3 f4 f5 f6 f7 d0 d1 d2 d3 d4 d5 d6 d7 g0 g1 g2 g3 g4 g5 g6 g7
  clear ho
  obtain ⟨hm', hR', hB', hZ', hs'⟩ := put_cell hm 2 (.string ⟨t3.toArray⟩) hR hbp hB hWp hZ (by omega)
  simp only [List.setIfInBounds_toArray, List.set_cons_succ, List.set_cons_zero] at hm'
  generalize World.setCell _ ⟨p, 2, none⟩ (.string ⟨t3.toArray⟩) = w5 at *
  replace hps : p < w5.heap.size := by omega
  clear hm hR hB hZ hs'
  have hm := hm'
  have hR := hR'
  have hB := hB'
  have hZ := hZ'
  clear hm' hR' hB' hZ'
  refine (has_any 33 2 (by decide) (by decide) _).mono ?_
  rw [show fhas 33 2 = false from by decide]
  rintro e w' ⟨rfl, rfl⟩
  go_wp2_with fail
  refine (has_any 33 4 (by decide) (by decide) _).mono ?_
  rw [show fhas 33 4 = false from by decide]
  rintro e w' ⟨rfl, rfl⟩
  go_wp2_with fail
  refine (has_any 33 8 (by decide) (by decide) _).mono ?_
  rw [show fhas 33 8 = false from by decide]
  rintro e w' ⟨rfl, rfl⟩
  go_wp2_with fail
  refine (has_any 33 16 (by decide) (by decide) _).mono ?_
  rw [show fhas 33 16 = false from by decide]
  rintro e w' ⟨rfl, rfl⟩
  go_wp2_with fail
  refine (has_any 33 32 (by decide) (by decide) _).mono ?_
  rw [show fhas 33 32 = true from by decide]
  rintro e w' ⟨rfl, rfl⟩
  go_wp2_with fail
  refine (u16_any b r4 _ hR).mono ?_
  rintro e w4 ⟨rfl, hR, hg⟩
  replace hm := gr_heap hg hm (by omega)
  replace hZ := gr_heap hg hZ (by omega)
  replace hB := below_gr hB hg hbl
  replace hps := Nat.lt_of_lt_of_le hps hg.size
  clear hg
  have n4 : num (Rs.take r4 2).2 < 65536 := Rs.take_num2 r4
  have hp := Rs.take_pos r4 2 hp0

  generalize hTa : (Rs.take r4 2).1 = r5 at *
  generalize hTb : (Rs.take r4 2).2 = t4 at *
  replace hp0 := hp
  have A4 := Lib.hid hTa
  have B4 := Lib.hid hTb
  clear hTa hTb hp
  go_wp2_with fail
  have hraw : Bs W (· < W.heap.size) (.slice none 0 0) [] := Sl.nil _ _ _
  refine (raw_any b r5 (num t4 : Nat) _ hR (by omega)).mono ?_
  clear hraw
  have hpw := hps
  rintro e w4 ⟨vb, rfl, ho, hR, hg⟩
  replace hm := gr_heap hg hm (by omega)
  replace hZ := gr_heap hg hZ (by omega)
  replace hB := below_gr hB hg hbl
  replace hps := Nat.lt_of_lt_of_le hps hg.size
  clear hg
  have hp := Rs.take_pos r5 (num t4 : Nat) hp0
  generalize hTa : (Rs.take r5 (num t4 : Nat)).1 = r6 at *
  generalize hTb : (Rs.take r5 (num t4 : Nat)).2 = t5 at *
  replace hp0 := hp
  have A5 := Lib.hid hTa
  have B5 := Lib.hid hTb
  clear hTa hTb hp
  have hbs := ho.bs
  obtain ⟨A7, c7', rfl, -, -, -, -⟩ := hbs.open_
  clear hbs
  have c0 := cell_of hm 0
  have c1 := cell_of hm 1
  have c2 := cell_of hm 2
  have c3 := cell_of hm 3
  have c4 := cell_of hm 4
  have c5 := cell_of hm 5
  have c6 := cell_of hm 6
  have c7 := cell_of hm 7
  simp at c0 c1 c2 c3 c4 c5 c6 c7
  have f0 := frozen_of hm 0
  have f1 := frozen_of hm 1
  have f2 := frozen_of hm 2
  have f3 := frozen_of hm 3
  have f4 := frozen_of hm 4
  have f5 := frozen_of hm 5
  have f6 := frozen_of hm 6
  have f7 := frozen_of hm 7
  have d0 := cell_of hZ 0
  have d1 := cell_of hZ 1
  have d2 := cell_of hZ 2
  have d3 := cell_of hZ 3
  have d4 := cell_of hZ 4
  have d5 := cell_of hZ 5
  have d6 := cell_of hZ 6
  have d7 := cell_of hZ 7
  simp at d0 d1 d2 d3 d4 d5 d6 d7
  have g0 := frozen_of hZ 0
  have g1 := frozen_of hZ 1
  have g2 := frozen_of hZ 2
  have g3 := frozen_of hZ 3
  have g4 := frozen_of hZ 4
  have g5 := frozen_of hZ 5
  have g6 := frozen_of hZ 6
  have g7 := frozen_of hZ 7
  go_wp2_with fail
  clear c0 c1 c2 c3 c4 c5 c6 c7 f0 f1 f2 f3 f4 f5 f6 f7 d0 d1 d2 d3 d4 d5 d6 d7 g0 g1 g2 g3 g4 g5 g6 g7
  have hOb := ob_other ho p 7 (.slice A7 t5.length c7') hpw
  clear ho
  obtain ⟨hm', hR', hB', hZ', hs'⟩ := put_cell hm 7 (.slice A7 t5.length c7') hR hbp hB hWp hZ (by omega)
  simp only [List.setIfInBounds_toArray, List.set_cons_succ, List.set_cons_zero] at hm'
  generalize World.setCell _ ⟨p, 7, none⟩ (.slice A7 t5.length c7') = w5 at *
  replace hps : p < w5.heap.size := by omega
  clear hm hR hB hZ hs'
  have hm := hm'
  have hR := hR'
  have hB := hB'
  have hZ := hZ'
  clear hm' hR' hB' hZ'
  have hch : decR xs = (⟨5, num t1, t3, (0 : Nat), (0 : Nat), 0, (0 : Nat), t5⟩, r6) := by
    rw [hd]
    simp [chain, show fldN 5 = true from rfl, show fldS 5 = false from rfl, show fldO 5 = false from rfl, show fldU 5 = false from rfl, show fldC 5 = false from rfl, show fldB 5 = true from rfl, A1.out, B1.out, A2.out, B2.out, A3.out, B3.out, A4.out, B4.out, A5.out, B5.out, show num [] = 0 from rfl]
  have HCH := Lib.hid hch
  clear hch hd
  refine (err_any b r6 _ hR).mono ?_
  rintro e w' ⟨rfl, rfl⟩
  by_cases he : r6.err = 0
  · rw [he]
    have c0 := cell_of hm 0
    have c1 := cell_of hm 1
    have c2 := cell_of hm 2
    have c3 := cell_of hm 3
    have c4 := cell_of hm 4
    have c5 := cell_of hm 5
    have c6 := cell_of hm 6
    have c7 := cell_of hm 7
    simp at c0 c1 c2 c3 c4 c5 c6 c7
    have f0 := frozen_of hm 0
    have f1 := frozen_of hm 1
    have f2 := frozen_of hm 2
    have f3 := frozen_of hm 3
    have f4 := frozen_of hm 4
    have f5 := frozen_of hm 5
    have f6 := frozen_of hm 6
    have f7 := frozen_of hm 7
    have d0 := cell_of hZ 0
    have d1 := cell_of hZ 1
    have d2 := cell_of hZ 2
    have d3 := cell_of hZ 3
    have d4 := cell_of hZ 4
    have d5 := cell_of hZ 5
    have d6 := cell_of hZ 6
    have d7 := cell_of hZ 7
    simp at d0 d1 d2 d3 d4 d5 d6 d7
    have g0 := frozen_of hZ 0
    have g1 := frozen_of hZ 1
    have g2 := frozen_of hZ 2
    have g3 := frozen_of hZ 3
    have g4 := frozen_of hZ 4
    have g5 := frozen_of hZ 5
    have g6 := frozen_of hZ 6
    have g7 := frozen_of hZ 7
    go_wp2_with fail
    clear c0 c1 c2 c3 c4 c5 c6 c7 f0 f1 f2 f3 f4 f5 f6 f7 d0 d1 d2 d3 d4 d5 d6 d7 g0 g1 g2 g3 g4 g5 g6 g7
    refine (left_any b r6 _ hR).mono ?_
    rintro e w' ⟨rfl, n, rfl⟩
    replace hm : (w5.drewN n).heap[p]? = _ := hm
    replace hZ : (w5.drewN n).heap[w.heap.size]? = _ := hZ
    replace hB : Below W.heap.size W (w5.drewN n) := below_dn hB n
    have hOb' : Ob (w5.drewN n) _ _ (.slice A7 t5.length c7') t5 := World.ownsRow.kept hOb (grown_drewN w5 n none) (by cases Value.ownBlock (.slice A7 t5.length c7') <;> simp)
    generalize w5.drewN n = w6 at *
    by_cases hle : r6.pos < r6.xs.length
    · have hle' : (0 : Int) < (r6.xs.length : Int) - (r6.pos : Int) := by omega
      have c0 := cell_of hm 0
      have c1 := cell_of hm 1
      have c2 := cell_of hm 2
      have c3 := cell_of hm 3
      have c4 := cell_of hm 4
      have c5 := cell_of hm 5
      have c6 := cell_of hm 6
      have c7 := cell_of hm 7
      simp at c0 c1 c2 c3 c4 c5 c6 c7
      have f0 := frozen_of hm 0
      have f1 := frozen_of hm 1
      have f2 := frozen_of hm 2
      have f3 := frozen_of hm 3
      have f4 := frozen_of hm 4
      have f5 := frozen_of hm 5
      have f6 := frozen_of hm 6
      have f7 := frozen_of hm 7
      have d0 := cell_of hZ 0
      have d1 := cell_of hZ 1
      have d2 := cell_of hZ 2
      have d3 := cell_of hZ 3
      have d4 := cell_of hZ 4
      have d5 := cell_of hZ 5
      have d6 := cell_of hZ 6
      have d7 := cell_of hZ 7
      simp at d0 d1 d2 d3 d4 d5 d6 d7
      have g0 := frozen_of hZ 0
      have g1 := frozen_of hZ 1
      have g2 := frozen_of hZ 2
      have g3 := frozen_of hZ 3
      have g4 := frozen_of hZ 4
      have g5 := frozen_of hZ 5
      have g6 := frozen_of hZ 6
      have g7 := frozen_of hZ 7
      go_wp2
      clear c0 c1 c2 c3 c4 c5 c6 c7 f0 f1 f2 f3 f4 f5 f6 f7 d0 d1 d2 d3 d4 d5 d6 d7 g0 g1 g2 g3 g4 g5 g6 g7
      obtain ⟨hf, hf2, hf3⟩ := eight hZ (.int .i64 0) (.int .u32 0) (.string ⟨#[]⟩) (.int .i64 0) (.int .i64 0) (.int .u32 0) (.int .i64 0) (.slice none 0 0)
      generalize (World.setCell _ ⟨w.heap.size, 7, none⟩ (.slice none 0 0)) = wf at *
      have d0 := cell_of hf 0
      have d1 := cell_of hf 1
      have d2 := cell_of hf 2
      have d3 := cell_of hf 3
      have d4 := cell_of hf 4
      have d5 := cell_of hf 5
      have d6 := cell_of hf 6
      have d7 := cell_of hf 7
      simp at d0 d1 d2 d3 d4 d5 d6 d7
      obtain ⟨hE, hM⟩ := dec_bad hk (by decide) HCH.out he (.inl hle)
      rw [hE, hM]
      exact bodyPost_ret (v := .tuple #[.agg #[(.int .i64 0), (.int .u32 0), (.string ⟨#[]⟩), (.int .i64 0), (.int .i64 0), (.int .u32 0), (.int .i64 0), (.slice none 0 0)], .int .i64 210]) (by simp [results, Try.results15, go_sem, d0, d1, d2, d3, d4, d5, d6, d7]) rfl ⟨(.slice none 0 0), rfl, Ob.nil _ _ _, hf2 (below_tr HB0.out (hB)) (Nat.le_refl _)⟩
    · have hle' : ¬ ((0 : Int) < (r6.xs.length : Int) - (r6.pos : Int)) := by omega
      have c0 := cell_of hm 0
      have c1 := cell_of hm 1
      have c2 := cell_of hm 2
      have c3 := cell_of hm 3
      have c4 := cell_of hm 4
      have c5 := cell_of hm 5
      have c6 := cell_of hm 6
      have c7 := cell_of hm 7
      simp at c0 c1 c2 c3 c4 c5 c6 c7
      have f0 := frozen_of hm 0
      have f1 := frozen_of hm 1
      have f2 := frozen_of hm 2
      have f3 := frozen_of hm 3
      have f4 := frozen_of hm 4
      have f5 := frozen_of hm 5
      have f6 := frozen_of hm 6
      have f7 := frozen_of hm 7
      have d0 := cell_of hZ 0
      have d1 := cell_of hZ 1
      have d2 := cell_of hZ 2
      have d3 := cell_of hZ 3
      have d4 := cell_of hZ 4
      have d5 := cell_of hZ 5
      have d6 := cell_of hZ 6
      have d7 := cell_of hZ 7
      simp at d0 d1 d2 d3 d4 d5 d6 d7
      have g0 := frozen_of hZ 0
      have g1 := frozen_of hZ 1
      have g2 := frozen_of hZ 2
      have g3 := frozen_of hZ 3
      have g4 := frozen_of hZ 4
      have g5 := frozen_of hZ 5
      have g6 := frozen_of hZ 6
      have g7 := frozen_of hZ 7
      go_wp2_with fail
      clear c0 c1 c2 c3 c4 c5 c6 c7 f0 f1 f2 f3 f4 f5 f6 f7 d0 d1 d2 d3 d4 d5 d6 d7 g0 g1 g2 g3 g4 g5 g6 g7
      refine (check_any ⟨5, num t1, t3, (0 : Nat), (0 : Nat), 0, (0 : Nat), t5⟩ (.slice A7 t5.length c7') w6 _ (hOb'.bs) (Nat.le_trans hname (by decide))).mono ?_
      rintro e w7 ⟨rfl, hB7⟩
      replace hm := heap_bl hB7 hm
      replace hZ := heap_bl hB7 hZ
      replace hB := below_tr hB hB7
      replace hOb' := G.ob_fresh hOb' hB7
      clear hR
      by_cases hok : Msg.ok ⟨5, num t1, t3, (0 : Nat), (0 : Nat), 0, (0 : Nat), t5⟩
      · rw [okErr, if_pos hok]
        have c0 := cell_of hm 0
        have c1 := cell_of hm 1
        have c2 := cell_of hm 2
        have c3 := cell_of hm 3
        have c4 := cell_of hm 4
        have c5 := cell_of hm 5
        have c6 := cell_of hm 6
        have c7 := cell_of hm 7
        simp at c0 c1 c2 c3 c4 c5 c6 c7
        have f0 := frozen_of hm 0
        have f1 := frozen_of hm 1
        have f2 := frozen_of hm 2
        have f3 := frozen_of hm 3
        have f4 := frozen_of hm 4
        have f5 := frozen_of hm 5
        have f6 := frozen_of hm 6
        have f7 := frozen_of hm 7
        have d0 := cell_of hZ 0
        have d1 := cell_of hZ 1
        have d2 := cell_of hZ 2
        have d3 := cell_of hZ 3
        have d4 := cell_of hZ 4
        have d5 := cell_of hZ 5
        have d6 := cell_of hZ 6
        have d7 := cell_of hZ 7
        simp at d0 d1 d2 d3 d4 d5 d6 d7
        have g0 := frozen_of hZ 0
        have g1 := frozen_of hZ 1
        have g2 := frozen_of hZ 2
        have g3 := frozen_of hZ 3
        have g4 := frozen_of hZ 4
        have g5 := frozen_of hZ 5
        have g6 := frozen_of hZ 6
        have g7 := frozen_of hZ 7
        go_wp2
        clear c0 c1 c2 c3 c4 c5 c6 c7 f0 f1 f2 f3 f4 f5 f6 f7 d0 d1 d2 d3 d4 d5 d6 d7 g0 g1 g2 g3 g4 g5 g6 g7
        obtain ⟨hf, hf2, hf3⟩ := eight hZ (.int .i64 5) (.int .u32 (num t1 : Nat)) (.string ⟨t3.toArray⟩) (.int .i64 0) (.int .i64 0) (.int .u32 0) (.int .i64 0) (.slice A7 t5.length c7')
        generalize (World.setCell _ ⟨w.heap.size, 7, none⟩ (.slice A7 t5.length c7')) = wf at *
        have d0 := cell_of hf 0
        have d1 := cell_of hf 1
        have d2 := cell_of hf 2
        have d3 := cell_of hf 3
        have d4 := cell_of hf 4
        have d5 := cell_of hf 5
        have d6 := cell_of hf 6
        have d7 := cell_of hf 7
        simp at d0 d1 d2 d3 d4 d5 d6 d7
        obtain ⟨hE, hM⟩ := dec_good hk (by decide) HCH.out he hle hok
        rw [hE, hM]
        exact bodyPost_ret (v := .tuple #[.agg #[(.int .i64 5), (.int .u32 (num t1 : Nat)), (.string ⟨t3.toArray⟩), (.int .i64 0), (.int .i64 0), (.int .u32 0), (.int .i64 0), (.slice A7 t5.length c7')], .int .i64 0]) (by simp [results, Try.results15, go_sem, d0, d1, d2, d3, d4, d5, d6, d7]) rfl ⟨(.slice A7 t5.length c7'), rfl, (hf3 hOb' (by omega)).low (by omega), hf2 (below_tr HB0.out (hB)) (Nat.le_refl _)⟩
      · rw [okErr, if_neg hok]
        have c0 := cell_of hm 0
        have c1 := cell_of hm 1
        have c2 := cell_of hm 2
        have c3 := cell_of hm 3
        have c4 := cell_of hm 4
        have c5 := cell_of hm 5
        have c6 := cell_of hm 6
        have c7 := cell_of hm 7
        simp at c0 c1 c2 c3 c4 c5 c6 c7
        have f0 := frozen_of hm 0
        have f1 := frozen_of hm 1
        have f2 := frozen_of hm 2
        have f3 := frozen_of hm 3
        have f4 := frozen_of hm 4
        have f5 := frozen_of hm 5
        have f6 := frozen_of hm 6
        have f7 := frozen_of hm 7
        have d0 := cell_of hZ 0
        have d1 := cell_of hZ 1
        have d2 := cell_of hZ 2
        have d3 := cell_of hZ 3
        have d4 := cell_of hZ 4
        have d5 := cell_of hZ 5
        have d6 := cell_of hZ 6
        have d7 := cell_of hZ 7
        simp at d0 d1 d2 d3 d4 d5 d6 d7
        have g0 := frozen_of hZ 0
        have g1 := frozen_of hZ 1
        have g2 := frozen_of hZ 2
        have g3 := frozen_of hZ 3
        have g4 := frozen_of hZ 4
        have g5 := frozen_of hZ 5
        have g6 := frozen_of hZ 6
        have g7 := frozen_of hZ 7
        go_wp2
        clear c0 c1 c2 c3 c4 c5 c6 c7 f0 f1 f2 f3 f4 f5 f6 f7 d0 d1 d2 d3 d4 d5 d6 d7 g0 g1 g2 g3 g4 g5 g6 g7
        obtain ⟨hf, hf2, hf3⟩ := eight hZ (.int .i64 0) (.int .u32 0) (.string ⟨#[]⟩) (.int .i64 0) (.int .i64 0) (.int .u32 0) (.int .i64 0) (.slice none 0 0)
        generalize (World.setCell _ ⟨w.heap.size, 7, none⟩ (.slice none 0 0)) = wf at *
        have d0 := cell_of hf 0
        have d1 := cell_of hf 1
        have d2 := cell_of hf 2
        have d3 := cell_of hf 3
        have d4 := cell_of hf 4
        have d5 := cell_of hf 5
        have d6 := cell_of hf 6
        have d7 := cell_of hf 7
        simp at d0 d1 d2 d3 d4 d5 d6 d7
        obtain ⟨hE, hM⟩ := dec_bad hk (by decide) HCH.out he (.inr hok)
        rw [hE, hM]
        exact bodyPost_ret (v := .tuple #[.agg #[(.int .i64 0), (.int .u32 0), (.string ⟨#[]⟩), (.int .i64 0), (.int .i64 0), (.int .u32 0), (.int .i64 0), (.slice none 0 0)], .int .i64 210]) (by simp [results, Try.results15, go_sem, d0, d1, d2, d3, d4, d5, d6, d7]) rfl ⟨(.slice none 0 0), rfl, Ob.nil _ _ _, hf2 (below_tr HB0.out (hB)) (Nat.le_refl _)⟩
  · have he' : (r6.err != 0) = true := by simpa using he
    have c0 := cell_of hm 0
    have c1 := cell_of hm 1
    have c2 := cell_of hm 2
    have c3 := cell_of hm 3
    have c4 := cell_of hm 4
    have c5 := cell_of hm 5
    have c6 := cell_of hm 6
    have c7 := cell_of hm 7
    simp at c0 c1 c2 c3 c4 c5 c6 c7
    have f0 := frozen_of hm 0
    have f1 := frozen_of hm 1
    have f2 := frozen_of hm 2
    have f3 := frozen_of hm 3
    have f4 := frozen_of hm 4
    have f5 := frozen_of hm 5
    have f6 := frozen_of hm 6
    have f7 := frozen_of hm 7
    have d0 := cell_of hZ 0
    have d1 := cell_of hZ 1
    have d2 := cell_of hZ 2
    have d3 := cell_of hZ 3
    have d4 := cell_of hZ 4
    have d5 := cell_of hZ 5
    have d6 := cell_of hZ 6
    have d7 := cell_of hZ 7
    simp at d0 d1 d2 d3 d4 d5 d6 d7
    have g0 := frozen_of hZ 0
    have g1 := frozen_of hZ 1
    have g2 := frozen_of hZ 2
    have g3 := frozen_of hZ 3
    have g4 := frozen_of hZ 4
    have g5 := frozen_of hZ 5
    have g6 := frozen_of hZ 6
    have g7 := frozen_of hZ 7
    go_wp2
    clear c0 c1 c2 c3 c4 c5 c6 c7 f0 f1 f2 f3 f4 f5 f6 f7 d0 d1 d2 d3 d4 d5 d6 d7 g0 g1 g2 g3 g4 g5 g6 g7
    obtain ⟨hf, hf2, hf3⟩ := eight hZ (.int .i64 0) (.int .u32 0) (.string ⟨#[]⟩) (.int .i64 0) (.int .i64 0) (.int .u32 0) (.int .i64 0) (.slice none 0 0)
    generalize (World.setCell _ ⟨w.heap.size, 7, none⟩ (.slice none 0 0)) = wf at *
    have d0 := cell_of hf 0
    have d1 := cell_of hf 1
    have d2 := cell_of hf 2
    have d3 := cell_of hf 3
    have d4 := cell_of hf 4
    have d5 := cell_of hf 5
    have d6 := cell_of hf 6
    have d7 := cell_of hf 7
    simp at d0 d1 d2 d3 d4 d5 d6 d7
    obtain ⟨hE, hM⟩ := dec_short hk (by decide) HCH.out he
    rw [hE, hM]
    exact bodyPost_ret (v := .tuple #[.agg #[(.int .i64 0), (.int .u32 0), (.string ⟨#[]⟩), (.int .i64 0), (.int .i64 0), (.int .u32 0), (.int .i64 0), (.slice none 0 0)], .int .i64 7]) (by simp [results, Try.results15, go_sem, d0, d1, d2, d3, d4, d5, d6, d7]) rfl ⟨(.slice none 0 0), rfl, Ob.nil _ _ _, hf2 (below_tr HB0.out (hB)) (Nat.le_refl _)⟩

end Go.Proofs.Ytmcldnfemlaeiaa
namespace Go.Proofs.Ytmcldnfemlaeiaa
open Go.RowKit K L
set_option linter.unusedVariables false
set_option linter.unusedSimpArgs false

set_option maxRecDepth 100000 in
set_option maxHeartbeats 4000000 in
theorem decode_6 (v : Value) (xs : List UInt8) (w : World) (F : Nat → Prop) (h : Bs w F v xs) (hl : xs.length ≤ 100000000) (hx : 0 < xs.length) (hk : kindOf xs = 6) :
    Calls Try.prog 15 #[v] w fun e w' => ∃ vb, e = .returned (.tuple #[.agg ((decM xs).cells vb).toArray, .int .i64 (decE xs)]) ∧ Ob w' w.heap.size 5 vb (decM xs).bytes ∧ Below w.heap.size w w' := by

  have hb := h
  obtain ⟨A, c, rfl, l1, l2, -, -⟩ := h.open_
  unfold maxLen at l2
  clear h
  go_enter Try.func15, Try.ntmps15
  go_wp2_with fail
  obtain ⟨hz, hB0, hb1, hsz⟩ := box_one w (.cells #[.int .i64 0, .int .u32 0, .string ⟨#[]⟩, .int .i64 0, .int .i64 0, .int .u32 0, .int .i64 0, .slice none 0 0] 25) _ _ _ hb
  clear hb
  generalize w.alloc (.cells #[.int .i64 0, .int .u32 0, .string ⟨#[]⟩, .int .i64 0, .int .i64 0, .int .u32 0, .int .i64 0, .slice none 0 0] 25) = W at *
  refine (read_any _ xs W F hb1 (by omega)).mono ?_
  rintro e w1 ⟨b, rfl, hbl, hR, hB1⟩
  go_wp2_with fail
  refine (u8_any b _ w1 hR).mono ?_
  rintro e w2 ⟨rfl, hR, hg⟩
  have hk1 : ((num (Rs.take ⟨xs, 0, 0⟩ 1).2 : Nat) : Int) = 6 := hk
  have hd : decR xs = chain 6 (Rs.take ⟨xs, 0, 0⟩ 1).1 := by rw [decR, hk]
  rw [hk1]
  have hp0 : (Rs.take ⟨xs, 0, 0⟩ 1).1.pos ≤ (Rs.take ⟨xs, 0, 0⟩ 1).1.xs.length := Rs.take_pos _ _ (Nat.zero_le _)

  generalize (Rs.take ⟨xs, 0, 0⟩ 1).1 = r1 at *
  clear hk1
  have hB2 : Below W.heap.size W w2 := below_gr hB1 hg hbl
  replace hz : w2.heap[w.heap.size]? = some _ := heap_bl hB2 hz
  have hbp := hR.lt
  have hWp := hB2.size
  go_wp2_with fail
  replace hR : IsR (w2.alloc (.cells #[.int .i64 6, .int .u32 0, .string ⟨#[]⟩, .int .i64 0, .int .i64 0, .int .u32 0, .int .i64 0, .slice none 0 0] 25)) b r1 := hR.below (below_al (Below.refl _ _) _)
  have hB : Below W.heap.size W (w2.alloc (.cells #[.int .i64 6, .int .u32 0, .string ⟨#[]⟩, .int .i64 0, .int .i64 0, .int .u32 0, .int .i64 0, .slice none 0 0] 25)) := below_al hB2 _
  have hZ : (w2.alloc (.cells #[.int .i64 6, .int .u32 0, .string ⟨#[]⟩, .int .i64 0, .int .i64 0, .int .u32 0, .int .i64 0, .slice none 0 0] 25)).heap[w.heap.size]? = some _ := heap_al hz _
  have hm := heap_alloc_new w2 (.cells #[.int .i64 6, .int .u32 0, .string ⟨#[]⟩, .int .i64 0, .int .i64 0, .int .u32 0, .int .i64 0, .slice none 0 0] 25)
  have hps : w2.heap.size < (w2.alloc (.cells #[.int .i64 6, .int .u32 0, .string ⟨#[]⟩, .int .i64 0, .int .i64 0, .int .u32 0, .int .i64 0, .slice none 0 0] 25)).heap.size := by rw [World.size_alloc]; omega
  generalize w2.alloc (.cells #[.int .i64 6, .int .u32 0, .string ⟨#[]⟩, .int .i64 0, .int .i64 0, .int .u32 0, .int .i64 0, .slice none 0 0] 25) = w3 at *
  generalize w2.heap.size = p at *
  clear hB2 hz hg hB1
  have HB0 := Lib.hid hB0
  clear hB0
  refine (fields_is _ 1 rfl _).mono ?_
  rintro e w' ⟨rfl, rfl⟩
  go_wp2_with fail
  refine (u32_any b r1 _ hR).mono ?_
  rintro e w4 ⟨rfl, hR, hg⟩
  replace hm := gr_heap hg hm (by omega)
  replace hZ := gr_heap hg hZ (by omega)
  replace hB := below_gr hB hg hbl
  replace hps := Nat.lt_of_lt_of_le hps hg.size
  clear hg
  have n1 : num (Rs.take r1 4).2 < 4294967296 := Rs.take_num4 r1
  have hp := Rs.take_pos r1 4 hp0

  generalize hTa : (Rs.take r1 4).1 = r2 at *
  generalize hTb : (Rs.take r1 4).2 = t1 at *
  replace hp0 := hp
  have A1 := Lib.hid hTa
  have B1 := Lib.hid hTb
  clear hTa hTb hp
  have c0 := cell_of hm 0
  have c1 := cell_of hm 1
  have c2 := cell_of hm 2
  have c3 := cell_of hm 3
  have c4 := cell_of hm 4
  have c5 := cell_of hm 5
  have c6 := cell_of hm 6
  have c7 := cell_of hm 7
  simp at c0 c1 c2 c3 c4 c5 c6 c7
  have f0 := frozen_of hm 0
  have f1 := frozen_of hm 1
  have f2 := frozen_of hm 2
  have f3 := frozen_of hm 3
  have f4 := frozen_of hm 4
  have f5 := frozen_of hm 5
  have f6 := frozen_of hm 6
  have f7 := frozen_of hm 7
  have d0 := cell_of hZ 0
  have d1 := cell_of hZ 1
  have d2 := cell_of hZ 2
  have d3 := cell_of hZ 3
  have d4 := cell_of hZ 4
  have d5 := cell_of hZ 5
  have d6 := cell_of hZ 6
  have d7 := cell_of hZ 7
  simp at d0 d1 d2 d3 d4 d5 d6 d7
  have g0 := frozen_of hZ 0
  have g1 := frozen_of hZ 1
  have g2 := frozen_of hZ 2
  have g3 := frozen_of hZ 3
  have g4 := frozen_of hZ 4
  have g5 := frozen_of hZ 5
  have g6 := frozen_of hZ 6
  have g7 := frozen_of hZ 7
  go_wp2_with fail
  clear c0 c1 c2 c3 c4 c5 c6 c7 f0 f1 f2 f3 f4 f5 f6 f7 d0 d1 d2 d3 d4 d5 d6 d7 g0 g1 g2 g3 g4 g5 g6 g7
  obtain ⟨hm', hR', hB', hZ', hs'⟩ := put_cell hm 1 (.int .u32 (num t1 : Nat)) hR hbp hB hWp hZ (by omega)
  simp only [List.setIfInBounds_toArray, List.set_cons_succ, List.set_cons_zero] at hm'
  generalize World.setCell _ ⟨p, 1, none⟩ (.int .u32 (num t1 : Nat)) = w5 at *
  replace hps : p < w5.heap.size := by omega
  clear hm hR hB hZ hs'
  have hm := hm'
  have hR := hR'
  have hB := hB'
  have hZ := hZ'
  clear hm' hR' hB' hZ'
  refine (has_any 1 1 (by decide) (by decide) _).mono ?_
  rw [show fhas 1 1 = true from by decide]
  rintro e w' ⟨rfl, rfl⟩
  go_wp2_with fail
  refine (u8_any b r2 _ hR).mono ?_
  rintro e w4 ⟨rfl, hR, hg⟩
  replace hm := gr_heap hg hm (by omega)
  replace hZ := gr_heap hg hZ (by omega)
  replace hB := below_gr hB hg hbl
  replace hps := Nat.lt_of_lt_of_le hps hg.size
  clear hg
  have n2 : num (Rs.take r2 1).2 < 256 := Rs.take_num1 r2
  have hp := Rs.take_pos r2 1 hp0

  generalize hTa : (Rs.take r2 1).1 = r3 at *
  generalize hTb : (Rs.take r2 1).2 = t2 at *
  replace hp0 := hp
  have A2 := Lib.hid hTa
  have B2 := Lib.hid hTb
  clear hTa hTb hp
  go_wp2_with fail
  have hraw : Bs W (· < W.heap.size) (.slice none 0 0) [] := Sl.nil _ _ _
  refine (raw_any b r3 (num t2 : Nat) _ hR (by omega)).mono ?_
  clear hraw
  have hpw := hps
  rintro e w4 ⟨vb, rfl, ho, hR, hg⟩
  replace hm := gr_heap hg hm (by omega)
  replace hZ := gr_heap hg hZ (by omega)
  replace hB := below_gr hB hg hbl
  replace hps := Nat.lt_of_lt_of_le hps hg.size
  clear hg
  have hp := Rs.take_pos r3 (num t2 : Nat) hp0
  generalize hTa : (Rs.take r3 (num t2 : Nat)).1 = r4 at *
  generalize hTb : (Rs.take r3 (num t2 : Nat)).2 = t3 at *
  replace hp0 := hp
  have A3 := Lib.hid hTa
  have B3 := Lib.hid hTb
  clear hTa hTb hp
  have hname : t3.length ≤ 256 := by have := Rs.take_at r3 (num t2); rw [B3.out] at this; omega
  have c0 := cell_of hm 0
  have c1 := cell_of hm 1
  have c2 := cell_of hm 2
  have c3 := cell_of hm 3
  have c4 := cell_of hm 4
  have c5 := cell_of hm 5
  have c6 := cell_of hm 6
  have c7 := cell_of hm 7
  simp at c0 c1 c2 c3 c4 c5 c6 c7
  have f0 := frozen_of hm 0
  have f1 := frozen_of hm 1
  have f2 := frozen_of hm 2
  have f3 := frozen_of hm 3
  have f4 := frozen_of hm 4
  have f5 := frozen_of hm 5
  have f6 := frozen_of hm 6
  have f7 := frozen_of hm 7
  have d0 := cell_of hZ 0
  have d1 := cell_of hZ 1
  have d2 := cell_of hZ 2
  have d3 := cell_of hZ 3
  have d4 := cell_of hZ 4
  have d5 := cell_of hZ 5
  have d6 := cell_of hZ 6
  have d7 := cell_of hZ 7
  simp at d0 d1 d2 d3 d4 d5 d6 d7
  have g0 := frozen_of hZ 0
  have g1 := frozen_of hZ 1
  have g2 := frozen_of hZ 2
  have g3 := frozen_of hZ 3
  have g4 := frozen_of hZ 4
  have g5 := frozen_of hZ 5
  have g6 := frozen_of hZ 6
  have g7 := frozen_of hZ 7
  go_wp2_with (refine conv_str rfl (.tmp 33) rfl ho.bs rfl Try.underlying23 Try.underlying5 Try.underlying9 ?_)
  clear c0 c1 c2 c3 c4 c5 c6 c7 f0 f1 f2 f3 f4 f5 f6 f7 d0 d1 d2 d3 d4 d5 d6 d7 g0 g1 g2 g3 g4 g5 g6 g7
  clear ho
  obtain ⟨hm', hR', hB', hZ', hs'⟩ := put_cell hm 2 (.string ⟨t3.toArray⟩) hR hbp hB hWp hZ (by omega)
  simp only [List.setIfInBounds_toArray, List.set_cons_succ, List.set_cons_zero] at hm'
  generalize World.setCell _ ⟨p, 2, none⟩ (.string ⟨t3.toArray⟩) = w5 at *
  replace hps : p < w5.heap.size := by omega
  clear hm hR hB hZ hs'
  have hm := hm'
  have hR := hR'
  have hB := hB'
  have hZ := hZ'
  clear hm' hR' hB' hZ'
  refine (has_any 1 2 (by decide) (by decide) _).mono ?_
  rw [show fhas 1 2 = false from by decide]
  rintro e w' ⟨rfl, rfl⟩
  go_wp2_with fail
  refine (has_any 1 4 (by decide) (by decide) _).mono ?_
  rw [show fhas 1 4 = false from by decide]
  rintro e w' ⟨rfl, rfl⟩
  go_wp2_with fail
  refine (has_any 1 8 (by decide) (by decide) _).mono ?_
  rw [show fhas 1 8 = false from by decide]
  rintro e w' ⟨rfl, rfl⟩
  go_wp2_with fail
  refine (has_any 1 16 (by decide) (by decide) _).mono ?_
  rw [show fhas 1 16 = false from by decide]
  rintro e w' ⟨rfl, rfl⟩
  go_wp2_with fail
  refine (has_any 1 32 (by decide) (by decide) _).mono ?_
  rw [show fhas 1 32 = false from by decide]
  rintro e w' ⟨rfl, rfl⟩
  go_wp2_with fail
  have hch : decR xs = (⟨6, num t1, t3, (0 : Nat), (0 : Nat), 0, (0 : Nat), []⟩, r4) := by
    rw [hd]
    simp [chain, show fldN 6 = true from rfl, show fldS 6 = false from rfl, show fldO 6 = false from rfl, show fldU 6 = false from rfl, show fldC 6 = false from rfl, show fldB 6 = false from rfl, A1.out, B1.out, A2.out, B2.out, A3.out, B3.out, show num [] = 0 from rfl]
  have HCH := Lib.hid hch
  clear hch hd
  refine (err_any b r4 _ hR).mono ?_
  rintro e w' ⟨rfl, rfl⟩
  by_cases he : r4.err = 0
  · rw [he]
    have c0 := cell_of hm 0
    have c1 := cell_of hm 1
    have c2 := cell_of hm 2
    have c3 := cell_of hm 3
    have c4 := cell_of hm 4
    have c5 := cell_of hm 5
    have c6 := cell_of hm 6
    have c7 := cell_of hm 7
    simp at c0 c1 c2 c3 c4 c5 c6 c7
    have f0 := frozen_of hm 0
    have f1 := frozen_of hm 1
    have f2 := frozen_of hm 2
    have f3 := frozen_of hm 3
    have f4 := frozen_of hm 4
    have f5 := frozen_of hm 5
    have f6 := frozen_of hm 6
    have f7 := frozen_of hm 7
    have d0 := cell_of hZ 0
    have d1 := cell_of hZ 1
    have d2 := cell_of hZ 2
    have d3 := cell_of hZ 3
    have d4 := cell_of hZ 4
    have d5 := cell_of hZ 5
    have d6 := cell_of hZ 6
    have d7 := cell_of hZ 7
    simp at d0 d1 d2 d3 d4 d5 d6 d7
    have g0 := frozen_of hZ 0
    have g1 := frozen_of hZ 1
    have g2 := frozen_of hZ 2
    have g3 := frozen_of hZ 3
    have g4 := frozen_of hZ 4
    have g5 := frozen_of hZ 5
    have g6 := frozen_of hZ 6
    have g7 := frozen_of hZ 7
    go_wp2_with fail
    clear c0 c1 c2 c3 c4 c5 c6 c7 f0 f1 f2 f3 f4 f5 f6 f7 d0 d1 d2 d3 d4 d5 d6 d7 g0 g1 g2 g3 g4 g5 g6 g7
    refine (left_any b r4 _ hR).mono ?_
    rintro e w' ⟨rfl, n, rfl⟩
    replace hm : (w5.drewN n).heap[p]? = _ := hm
    replace hZ : (w5.drewN n).heap[w.heap.size]? = _ := hZ
    replace hB : Below W.heap.size W (w5.drewN n) := below_dn hB n

    generalize w5.drewN n = w6 at *
    by_cases hle : r4.pos < r4.xs.length
    · have hle' : (0 : Int) < (r4.xs.length : Int) - (r4.pos : Int) := by omega
      have c0 := cell_of hm 0
      have c1 := cell_of hm 1
      have c2 := cell_of hm 2
      have c3 := cell_of hm 3
      have c4 := cell_of hm 4
      have c5 := cell_of hm 5
      have c6 := cell_of hm 6
      have c7 := cell_of hm 7
      simp at c0 c1 c2 c3 c4 c5 c6 c7
      have f0 := frozen_of hm 0
      have f1 := frozen_of hm 1
      have f2 := frozen_of hm 2
      have f3 := frozen_of hm 3
      have f4 := frozen_of hm 4
      have f5 := frozen_of hm 5
      have f6 := frozen_of hm 6
      have f7 := frozen_of hm 7
      have d0 := cell_of hZ 0
      have d1 := cell_of hZ 1
      have d2 := cell_of hZ 2
      have d3 := cell_of hZ 3
      have d4 := cell_of hZ 4
      have d5 := cell_of hZ 5
      have d6 := cell_of hZ 6
      have d7 := cell_of hZ 7
      simp at d0 d1 d2 d3 d4 d5 d6 d7
      have g0 := frozen_of hZ 0
      have g1 := frozen_of hZ 1
      have g2 := frozen_of hZ 2
      have g3 := frozen_of hZ 3
      have g4 := frozen_of hZ 4
      have g5 := frozen_of hZ 5
      have g6 := frozen_of hZ 6
      have g7 := frozen_of hZ 7
      go_wp2
      clear c0 c1 c2 c3 c4 c5 c6 c7 f0 f1 f2 f3 f4 f5 f6 f7 d0 d1 d2 d3 d4 d5 d6 d7 g0 g1 g2 g3 g4 g5 g6 g7
      obtain ⟨hf, hf2, hf3⟩ := eight hZ (.int .i64 0) (.int .u32 0) (.string ⟨#[]⟩) (.int .i64 0) (.int .i64 0) (.int .u32 0) (.int .i64 0) (.slice none 0 0)
      generalize (World.setCell _ ⟨w.heap.size, 7, none⟩ (.slice none 0 0)) = wf at *
      have d0 := cell_of hf 0
      have d1 := cell_of hf 1
      have d2 := cell_of hf 2
      have d3 := cell_of hf 3
      have d4 := cell_of hf 4
      have d5 := cell_of hf 5
      have d6 := cell_of hf 6
      have d7 := cell_of hf 7
      simp at d0 d1 d2 d3 d4 d5 d6 d7
      obtain ⟨hE, hM⟩ := dec_bad hk (by decide) HCH.out he (.inl hle)
      rw [hE, hM]
      exact bodyPost_ret (v := .tuple #[.agg #[(.int .i64 0), (.int .u32 0), (.string ⟨#[]⟩), (.int .i64 0), (.int .i64 0), (.int .u32 0), (.int .i64 0), (.slice none 0 0)], .int .i64 210]) (by simp [results, Try.results15, go_sem, d0, d1, d2, d3, d4, d5, d6, d7]) rfl ⟨(.slice none 0 0), rfl, Ob.nil _ _ _, hf2 (below_tr HB0.out (hB)) (Nat.le_refl _)⟩
    · have hle' : ¬ ((0 : Int) < (r4.xs.length : Int) - (r4.pos : Int)) := by omega
      have c0 := cell_of hm 0
      have c1 := cell_of hm 1
      have c2 := cell_of hm 2
      have c3 := cell_of hm 3
      have c4 := cell_of hm 4
      have c5 := cell_of hm 5
      have c6 := cell_of hm 6
      have c7 := cell_of hm 7
      simp at c0 c1 c2 c3 c4 c5 c6 c7
      have f0 := frozen_of hm 0
      have f1 := frozen_of hm 1
      have f2 := frozen_of hm 2
      have f3 := frozen_of hm 3
      have f4 := frozen_of hm 4
      have f5 := frozen_of hm 5
      have f6 := frozen_of hm 6
      have f7 := frozen_of hm 7
      have d0 := cell_of hZ 0
      have d1 := cell_of hZ 1
      have d2 := cell_of hZ 2
      have d3 := cell_of hZ 3
      have d4 := cell_of hZ 4
      have d5 := cell_of hZ 5
      have d6 := cell_of hZ 6
      have d7 := cell_of hZ 7
      simp at d0 d1 d2 d3 d4 d5 d6 d7
      have g0 := frozen_of hZ 0
      have g1 := frozen_of hZ 1
      have g2 := frozen_of hZ 2
      have g3 := frozen_of hZ 3
      have g4 := frozen_of hZ 4
      have g5 := frozen_of hZ 5
      have g6 := frozen_of hZ 6
      have g7 := frozen_of hZ 7
      go_wp2_with fail
      clear c0 c1 c2 c3 c4 c5 c6 c7 f0 f1 f2 f3 f4 f5 f6 f7 d0 d1 d2 d3 d4 d5 d6 d7 g0 g1 g2 g3 g4 g5 g6 g7
      refine (check_any ⟨6, num t1, t3, (0 : Nat), (0 : Nat), 0, (0 : Nat), []⟩ (.slice none 0 0) w6 _ (Sl.nil _ (fun _ => True) _) (Nat.le_trans hname (by decide))).mono ?_
      rintro e w7 ⟨rfl, hB7⟩
      replace hm := heap_bl hB7 hm
      replace hZ := heap_bl hB7 hZ
      replace hB := below_tr hB hB7

      clear hR
      by_cases hok : Msg.ok ⟨6, num t1, t3, (0 : Nat), (0 : Nat), 0, (0 : Nat), []⟩
      · rw [okErr, if_pos hok]
        have c0 := cell_of hm 0
        have c1 := cell_of hm 1
        have c2 := cell_of hm 2
        have c3 := cell_of hm 3
        have c4 := cell_of hm 4
        have c5 := cell_of hm 5
        have c6 := cell_of hm 6
        have c7 := cell_of hm 7
        simp at c0 c1 c2 c3 c4 c5 c6 c7
        have f0 := frozen_of hm 0
        have f1 := frozen_of hm 1
        have f2 := frozen_of hm 2
        have f3 := frozen_of hm 3
        have f4 := frozen_of hm 4
        have f5 := frozen_of hm 5
        have f6 := frozen_of hm 6
        have f7 := frozen_of hm 7
        have d0 := cell_of hZ 0
        have d1 := cell_of hZ 1
        have d2 := cell_of hZ 2
        have d3 := cell_of hZ 3
        have d4 := cell_of hZ 4
        have d5 := cell_of hZ 5
        have d6 := cell_of hZ 6
        have d7 := cell_of hZ 7
        simp at d0 d1 d2 d3 d4 d5 d6 d7
        have g0 := frozen_of hZ 0
        have g1 := frozen_of hZ 1
        have g2 := frozen_of hZ 2
        have g3 := frozen_of hZ 3
        have g4 := frozen_of hZ 4
        have g5 := frozen_of hZ 5
        have g6 := frozen_of hZ 6
        have g7 := frozen_of hZ 7
        go_wp2
        clear c0 c1 c2 c3 c4 c5 c6 c7 f0 f1 f2 f3 f4 f5 f6 f7 d0 d1 d2 d3 d4 d5 d6 d7 g0 g1 g2 g3 g4 g5 g6 g7
        obtain ⟨hf, hf2, hf3⟩ := eight hZ (.int .i64 6) (.int .u32 (num t1 : Nat)) (.string ⟨t3.toArray⟩) (.int .i64 0) (.int .i64 0) (.int .u32 0) (.int .i64 0) (.slice none 0 0)
        generalize (World.setCell _ ⟨w.heap.size, 7, none⟩ (.slice none 0 0)) = wf at *
        have d0 := cell_of hf 0
        have d1 := cell_of hf 1
        have d2 := cell_of hf 2
        have d3 := cell_of hf 3
        have d4 := cell_of hf 4
        have d5 := cell_of hf 5
        have d6 := cell_of hf 6
        have d7 := cell_of hf 7
        simp at d0 d1 d2 d3 d4 d5 d6 d7
        obtain ⟨hE, hM⟩ := dec_good hk (by decide) HCH.out he hle hok
        rw [hE, hM]
        exact bodyPost_ret (v := .tuple #[.agg #[(.int .i64 6), (.int .u32 (num t1 : Nat)), (.string ⟨t3.toArray⟩), (.int .i64 0), (.int .i64 0), (.int .u32 0), (.int .i64 0), (.slice none 0 0)], .int .i64 0]) (by simp [results, Try.results15, go_sem, d0, d1, d2, d3, d4, d5, d6, d7]) rfl ⟨(.slice none 0 0), rfl, Ob.nil _ _ _, hf2 (below_tr HB0.out (hB)) (Nat.le_refl _)⟩
      · rw [okErr, if_neg hok]
        have c0 := cell_of hm 0
        have c1 := cell_of hm 1
        have c2 := cell_of hm 2
        have c3 := cell_of hm 3
        have c4 := cell_of hm 4
        have c5 := cell_of hm 5
        have c6 := cell_of hm 6
        have c7 := cell_of hm 7
        simp at c0 c1 c2 c3 c4 c5 c6 c7
        have f0 := frozen_of hm 0
        have f1 := frozen_of hm 1
        have f2 := frozen_of hm 2
        have f3 := frozen_of hm 3
        have f4 := frozen_of hm 4
        have f5 := frozen_of hm 5
        have f6 := frozen_of hm 6
        have f7 := frozen_of hm 7
        have d0 := cell_of hZ 0
        have d1 := cell_of hZ 1
        have d2 := cell_of hZ 2
        have d3 := cell_of hZ 3
        have d4 := cell_of hZ 4
        have d5 := cell_of hZ 5
        have d6 := cell_of hZ 6
        have d7 := cell_of hZ 7
        simp at d0 d1 d2 d3 d4 d5 d6 d7
        have g0 := frozen_of hZ 0
        have g1 := frozen_of hZ 1
        have g2 := frozen_of hZ 2
        have g3 := frozen_of hZ 3
        have g4 := frozen_of hZ 4
        have g5 := frozen_of hZ 5
        have g6 := frozen_of hZ 6
        have g7 := frozen_of hZ 7
        go_wp2
        clear c0 c1 c2 c3 c4 c5 c6 c7 f0 f1 f2 f3 f4 f5 f6 f7 d0 d1 d2 d3 d4 d5 d6 d7 g0 g1 g2 g3 g4 g5 g6 g7
        obtain ⟨hf, hf2, hf3⟩ := eight hZ (.int .i64 0) (.int .u32 0) (.string ⟨#[]⟩) (.int .i64 0) (.int .i64 0) (.int .u32 0) (.int .i64 0) (.slice none 0 0)
        generalize (World.setCell _ ⟨w.heap.size, 7, none⟩ (.slice none 0 0)) = wf at *
        have d0 := cell_of hf 0
        have d1 := cell_of hf 1
        have d2 := cell_of hf 2
        have d3 := cell_of hf 3
        have d4 := cell_of hf 4
        have d5 := cell_of hf 5
        have d6 := cell_of hf 6
        have d7 := cell_of hf 7
        simp at d0 d1 d2 d3 d4 d5 d6 d7
        obtain ⟨hE, hM⟩ := dec_bad hk (by decide) HCH.out he (.inr hok)
        rw [hE, hM]
        exact bodyPost_ret (v := .tuple #[.agg #[(.int .i64 0), (.int .u32 0), (.string ⟨#[]⟩), (.int .i64 0), (.int .i64 0), (.int .u32 0), (.int .i64 0), (.slice none 0 0)], .int .i64 210]) (by simp [results, Try.results15, go_sem, d0, d1, d2, d3, d4, d5, d6, d7]) rfl ⟨(.slice none 0 0), rfl, Ob.nil _ _ _, hf2 (below_tr HB0.out (hB)) (Nat.le_refl _)⟩
  · have he' : (r4.err != 0) = true := by simpa using he
    have c0 := cell_of hm 0
    have c1 := cell_of hm 1
    have c2 := cell_of hm 2
    have c3 := cell_of hm 3
    have c4 := cell_of hm 4
    have c5 := cell_of hm 5
    have c6 := cell_of hm 6
    have c7 := cell_of hm 7
    simp at c0 c1 c2 c3 c4 c5 c6 c7
    have f0 := frozen_of hm 0
    have f1 := frozen_of hm 1
    have f2 := frozen_of hm 2
    have f3 := frozen_of hm 3
    have f4 := frozen_of hm 4
    have f5 := frozen_of hm 5
    have f6 := frozen_of hm 6
    have f7 := frozen_of hm 7
    have d0 := cell_of hZ 0
    have d1 := cell_of hZ 1
    have d2 := cell_of hZ 2
    have d3 := cell_of hZ 3
    have d4 := cell_of hZ 4
    have d5 := cell_of hZ 5
    have d6 := cell_of hZ 6
    have d7 := cell_of hZ 7
    simp at d0 d1 d2 d3 d4 d5 d6 d7
    have g0 := frozen_of hZ 0
    have g1 := frozen_of hZ 1
    have g2 := frozen_of hZ 2
    have g3 := frozen_of hZ 3
    have g4 := frozen_of hZ 4
    have g5 := frozen_of hZ 5
    have g6 := frozen_of hZ 6
    have g7 := frozen_of hZ 7
    go_wp2
    clear c0 c1 c2 c3 c4 c5 c6 c7 f0 f1 f2 f3 f4 f5 f6 f7 d0 d1 d2 d3 d4 d5 d6 d7 g0 g1 g2 g3 g4 g5 g6 g7
    obtain ⟨hf, hf2, hf3⟩ := eight hZ (.int .i64 0) (.int .u32 0) (.string ⟨#[]⟩) (.int .i64 0) (.int .i64 0) (.int .u32 0) (.int .i64 0) (.slice none 0 0)
    generalize (World.setCell _ ⟨w.heap.size, 7, none⟩ (.slice none 0 0)) = wf at *
    have d0 := cell_of hf 0
    have d1 := cell_of hf 1
    have d2 := cell_of hf 2
    have d3 := cell_of hf 3
    have d4 := cell_of hf 4
    have d5 := cell_of hf 5
    have d6 := cell_of hf 6
    have d7 := cell_of hf 7
    simp at d0 d1 d2 d3 d4 d5 d6 d7
    obtain ⟨hE, hM⟩ := dec_short hk (by decide) HCH.out he
    rw [hE, hM]
    exact bodyPost_ret (v := .tuple #[.agg #[(.int .i64 0), (.int .u32 0), (.string ⟨#[]⟩), (.int .i64 0), (.int .i64 0), (.int .u32 0), (.int .i64 0), (.slice none 0 0)], .int .i64 7]) (by simp [results, Try.results15, go_sem, d0, d1, d2, d3, d4, d5, d6, d7]) rfl ⟨(.slice none 0 0), rfl, Ob.nil _ _ _, hf2 (below_tr HB0.out (hB)) (Nat.le_refl _)⟩

end Go.Proofs.Ytmcldnfemlaeiaa
namespace Go.Proofs.Ytmcldnfemlaeiaa
open Go.RowKit K L
set_option linter.unusedVariables false
set_option linter.unusedSimpArgs false

set_option maxRecDepth 100000 in
set_option maxHeartbeats 4000000 in
theorem decode_7 (v : Value) (xs : List UInt8) (w : World) (F : Nat → Prop) (h : Bs w F v xs) (hl : xs.length ≤ 100000000) (hx : 0 < xs.length) (hk : kindOf xs = 7) :
    Calls Try.prog 15 #[v] w fun e w' => ∃ vb, e = .returned (.tuple #[.agg ((decM xs).cells vb).toArray, .int .i64 (decE xs)]) ∧ Ob w' w.heap.size 5 vb (decM xs).bytes ∧ Below w.heap.size w w' := by

  have hb := h
  obtain ⟨A, c, rfl, l1, l2, -, -⟩ := h.open_
  unfold maxLen at l2
  clear h
  go_enter Try.func15, Try.ntmps15
  go_wp2_with fail
  obtain ⟨hz, hB0, hb1, hsz⟩ := box_one w (.cells #[.int .i64 0, .int .u32 0, .string ⟨#[]⟩, .int .i64 0, .int .i64 0, .int .u32 0, .int .i64 0, .slice none 0 0] 25) _ _ _ hb
  clear hb
  generalize w.alloc (.cells #[.int .i64 0, .int .u32 0, .string ⟨#[]⟩, .int .i64 0, .int .i64 0, .int .u32 0, .int .i64 0, .slice none 0 0] 25) = W at *
  refine (read_any _ xs W F hb1 (by omega)).mono ?_
  rintro e w1 ⟨b, rfl, hbl, hR, hB1⟩
  go_wp2_with fail
  refine (u8_any b _ w1 hR).mono ?_
  rintro e w2 ⟨rfl, hR, hg⟩
  have hk1 : ((num (Rs.take ⟨xs, 0, 0⟩ 1).2 : Nat) : Int) = 7 := hk
  have hd : decR xs = chain 7 (Rs.take ⟨xs, 0, 0⟩ 1).1 := by rw [decR, hk]
  rw [hk1]
  have hp0 : (Rs.take ⟨xs, 0, 0⟩ 1).1.pos ≤ (Rs.take ⟨xs, 0, 0⟩ 1).1.xs.length := Rs.take_pos _ _ (Nat.zero_le _)

  generalize (Rs.take ⟨xs, 0, 0⟩ 1).1 = r1 at *
  clear hk1
  have hB2 : Below W.heap.size W w2 := below_gr hB1 hg hbl
  replace hz : w2.heap[w.heap.size]? = some _ := heap_bl hB2 hz
  have hbp := hR.lt
  have hWp := hB2.size
  go_wp2_with fail
  replace hR : IsR (w2.alloc (.cells #[.int .i64 7, .int .u32 0, .string ⟨#[]⟩, .int .i64 0, .int .i64 0, .int .u32 0, .int .i64 0, .slice none 0 0] 25)) b r1 := hR.below (below_al (Below.refl _ _) _)
  have hB : Below W.heap.size W (w2.alloc (.cells #[.int .i64 7, .int .u32 0, .string ⟨#[]⟩, .int .i64 0, .int .i64 0, .int .u32 0, .int .i64 0, .slice none 0 0] 25)) := below_al hB2 _
  have hZ : (w2.alloc (.cells #[.int .i64 7, .int .u32 0, .string ⟨#[]⟩, .int .i64 0, .int .i64 0, .int .u32 0, .int .i64 0, .slice none 0 0] 25)).heap[w.heap.size]? = some _ := heap_al hz _
  have hm := heap_alloc_new w2 (.cells #[.int .i64 7, .int .u32 0, .string ⟨#[]⟩, .int .i64 0, .int .i64 0, .int .u32 0, .int .i64 0, .slice none 0 0] 25)
  have hps : w2.heap.size < (w2.alloc (.cells #[.int .i64 7, .int .u32 0, .string ⟨#[]⟩, .int .i64 0, .int .i64 0, .int .u32 0, .int .i64 0, .slice none 0 0] 25)).heap.size := by rw [World.size_alloc]; omega
  generalize w2.alloc (.cells #[.int .i64 7, .int .u32 0, .string ⟨#[]⟩, .int .i64 0, .int .i64 0, .int .u32 0, .int .i64 0, .slice none 0 0] 25) = w3 at *
  generalize w2.heap.size = p at *
  clear hB2 hz hg hB1
  have HB0 := Lib.hid hB0
  clear hB0
  refine (fields_is _ 32 rfl _).mono ?_
  rintro e w' ⟨rfl, rfl⟩
  go_wp2_with fail
  refine (u32_any b r1 _ hR).mono ?_
  rintro e w4 ⟨rfl, hR, hg⟩
  replace hm := gr_heap hg hm (by omega)
  replace hZ := gr_heap hg hZ (by omega)
  replace hB := below_gr hB hg hbl
  replace hps := Nat.lt_of_lt_of_le hps hg.size
  clear hg
  have n1 : num (Rs.take r1 4).2 < 4294967296 := Rs.take_num4 r1
  have hp := Rs.take_pos r1 4 hp0

  generalize hTa : (Rs.take r1 4).1 = r2 at *
  generalize hTb : (Rs.take r1 4).2 = t1 at *
  replace hp0 := hp
  have A1 := Lib.hid hTa
  have B1 := Lib.hid hTb
  clear hTa hTb hp
  have c0 := cell_of hm 0
  have c1 := cell_of hm 1
  have c2 := cell_of hm 2
  have c3 := cell_of hm 3
  have c4 := cell_of hm 4
  have c5 := cell_of hm 5
  have c6 := cell_of hm 6
  have c7 := cell_of hm 7
  simp at c0 c1 c2 c3 c4 c5 c6 c7
  have f0 := frozen_of hm 0
  have f1 := frozen_of hm 1
  have f2 := frozen_of hm 2
  have f3 := frozen_of hm 3
  have f4 := frozen_of hm 4
  have f5 := frozen_of hm 5
  have f6 := frozen_of hm 6
  have f7 := frozen_of hm 7
  have d0 := cell_of hZ 0
  have d1 := cell_of hZ 1
  have d2 := cell_of hZ 2
  have d3 := cell_of hZ 3
  have d4 := cell_of hZ 4
  have d5 := cell_of hZ 5
  have d6 := cell_of hZ 6
  have d7 := cell_of hZ 7
  simp at d0 d1 d2 d3 d4 d5 d6 d7
  have g0 := frozen_of hZ 0
  have g1 := frozen_of hZ 1
  have g2 := frozen_of hZ 2
  have g3 := frozen_of hZ 3
  have g4 := frozen_of hZ 4
  have g5 := frozen_of hZ 5
  have g6 := frozen_of hZ 6
  have g7 := frozen_of hZ 7
  go_wp2_with fail
  clear c0 c1 c2 c3 c4 c5 c6 c7 f0 f1 f2 f3 f4 f5 f6 f7 d0 d1 d2 d3 d4 d5 d6 d7 g0 g1 g2 g3 g4 g5 g6 g7
  obtain ⟨hm', hR', hB', hZ', hs'⟩ := put_cell hm 1 (.int .u32 (num t1 : Nat)) hR hbp hB hWp hZ (by omega)
  simp only [List.setIfInBounds_toArray, List.set_cons_succ, List.set_cons_zero] at hm'
  generalize World.setCell _ ⟨p, 1, none⟩ (.int .u32 (num t1 : Nat)) = w5 at *
  replace hps : p < w5.heap.size := by omega
  clear hm hR hB hZ hs'
  have hm := hm'
  have hR := hR'
  have hB := hB'
  have hZ := hZ'
  clear hm' hR' hB' hZ'
  refine (has_any 32 1 (by decide) (by decide) _).mono ?_
  rw [show fhas 32 1 = false from by decide]
  rintro e w' ⟨rfl, rfl⟩
  go_wp2_with fail
  refine (has_any 32 2 (by decide) (by decide) _).mono ?_
  rw [show fhas 32 2 = false from by decide]
  rintro e w' ⟨rfl, rfl⟩
  go_wp2_with fail
  refine (has_any 32 4 (by decide) (by decide) _).mono ?_
  rw [show fhas 32 4 = false from by decide]
  rintro e w' ⟨rfl, rfl⟩
  go_wp2_with fail
  refine (has_any 32 8 (by decide) (by decide) _).mono ?_
  rw [show fhas 32 8 = false from by decide]
  rintro e w' ⟨rfl, rfl⟩
  go_wp2_with fail
  refine (has_any 32 16 (by decide) (by decide) _).mono ?_
  rw [show fhas 32 16 = false from by decide]
  rintro e w' ⟨rfl, rfl⟩
  go_wp2_with fail
  refine (has_any 32 32 (by decide) (by decide) _).mono ?_
  rw [show fhas 32 32 = true from by decide]
  rintro e w' ⟨rfl, rfl⟩
  go_wp2_with fail
  refine (u16_any b r2 _ hR).mono ?_
  rintro e w4 ⟨rfl, hR, hg⟩
  replace hm := gr_heap hg hm (by omega)
  replace hZ := gr_heap hg hZ (by omega)
  replace hB := below_gr hB hg hbl
  replace hps := Nat.lt_of_lt_of_le hps hg.size
  clear hg
  have n2 : num (Rs.take r2 2).2 < 65536 := Rs.take_num2 r2
  have hp := Rs.take_pos r2 2 hp0

  generalize hTa : (Rs.take r2 2).1 = r3 at *
  generalize hTb : (Rs.take r2 2).2 = t2 at *
  replace hp0 := hp
  have A2 := Lib.hid hTa
  have B2 := Lib.hid hTb
  clear hTa hTb hp
  go_wp2_with fail
  have hraw : Bs W (· < W.heap.size) (.slice none 0 0) [] := Sl.nil _ _ _
  refine (raw_any b r3 (num t2 : Nat) _ hR (by omega)).mono ?_
  clear hraw
  have hpw := hps
  rintro e w4 ⟨vb, rfl, ho, hR, hg⟩
  replace hm := gr_heap hg hm (by omega)
  replace hZ := gr_heap hg hZ (by omega)
  replace hB := below_gr hB hg hbl
  replace hps := Nat.lt_of_lt_of_le hps hg.size
  clear hg
  have hp := Rs.take_pos r3 (num t2 : Nat) hp0
  generalize hTa : (Rs.take r3 (num t2 : Nat)).1 = r4 at *
  generalize hTb : (Rs.take r3 (num t2 : Nat)).2 = t3 at *
  replace hp0 := hp
  have A3 := Lib.hid hTa
  have B3 := Lib.hid hTb
  clear hTa hTb hp
  have hbs := ho.bs
  obtain ⟨A7, c7', rfl, -, -, -, -⟩ := hbs.open_
  clear hbs
  have c0 := cell_of hm 0
  have c1 := cell_of hm 1
  have c2 := cell_of hm 2
  have c3 := cell_of hm 3
  have c4 := cell_of hm 4
  have c5 := cell_of hm 5
  have c6 := cell_of hm 6
  have c7 := cell_of hm 7
  simp at c0 c1 c2 c3 c4 c5 c6 c7
  have f0 := frozen_of hm 0
  have f1 := frozen_of hm 1
  have f2 := frozen_of hm 2
  have f3 := frozen_of hm 3
  have f4 := frozen_of hm 4
  have f5 := frozen_of hm 5
  have f6 := frozen_of hm 6
  have f7 := frozen_of hm 7
  have d0 := cell_of hZ 0
  have d1 := cell_of hZ 1
  have d2 := cell_of hZ 2
  have d3 := cell_of hZ 3
  have d4 := cell_of hZ 4
  have d5 := cell_of hZ 5
  have d6 := cell_of hZ 6
  have d7 := cell_of hZ 7
  simp at d0 d1 d2 d3 d4 d5 d6 d7
  have g0 := frozen_of hZ 0
  have g1 := frozen_of hZ 1
  have g2 := frozen_of hZ 2
  have g3 := frozen_of hZ 3
  have g4 := frozen_of hZ 4
  have g5 := frozen_of hZ 5
  have g6 := frozen_of hZ 6
  have g7 := frozen_of hZ 7
  go_wp2_with fail
  clear c0 c1 c2 c3 c4 c5 c6 c7 f0 f1 f2 f3 f4 f5 f6 f7 d0 d1 d2 d3 d4 d5 d6 d7 g0 g1 g2 g3 g4 g5 g6 g7
  have hOb := ob_other ho p 7 (.slice A7 t3.length c7') hpw
  clear ho
  obtain ⟨hm', hR', hB', hZ', hs'⟩ := put_cell hm 7 (.slice A7 t3.length c7') hR hbp hB hWp hZ (by omega)
  simp only [List.setIfInBounds_toArray, List.set_cons_succ, List.set_cons_zero] at hm'
  generalize World.setCell _ ⟨p, 7, none⟩ (.slice A7 t3.length c7') = w5 at *
  replace hps : p < w5.heap.size := by omega
  clear hm hR hB hZ hs'
  have hm := hm'
  have hR := hR'
  have hB := hB'
  have hZ := hZ'
  clear hm' hR' hB' hZ'
  have hch : decR xs = (⟨7, num t1, [], (0 : Nat), (0 : Nat), 0, (0 : Nat), t3⟩, r4) := by
    rw [hd]
    simp [chain, show fldN 7 = false from rfl, show fldS 7 = false from rfl, show fldO 7 = false from rfl, show fldU 7 = false from rfl, show fldC 7 = false from rfl, show fldB 7 = true from rfl, A1.out, B1.out, A2.out, B2.out, A3.out, B3.out, show num [] = 0 from rfl]
  have HCH := Lib.hid hch
  clear hch hd
  refine (err_any b r4 _ hR).mono ?_
  rintro e w' ⟨rfl, rfl⟩
  by_cases he : r4.err = 0
  · rw [he]
    have c0 := cell_of hm 0
    have c1 := cell_of hm 1
    have c2 := cell_of hm 2
    have c3 := cell_of hm 3
    have c4 := cell_of hm 4
    have c5 := cell_of hm 5
    have c6 := cell_of hm 6
    have c7 := cell_of hm 7
    simp at c0 c1 c2 c3 c4 c5 c6 c7
    have f0 := frozen_of hm 0
    have f1 := frozen_of hm 1
    have f2 := frozen_of hm 2
    have f3 := frozen_of hm 3
    have f4 := frozen_of hm 4
    have f5 := frozen_of hm 5
    have f6 := frozen_of hm 6
    have f7 := frozen_of hm 7
    have d0 := cell_of hZ 0
    have d1 := cell_of hZ 1
    have d2 := cell_of hZ 2
    have d3 := cell_of hZ 3
    have d4 := cell_of hZ 4
    have d5 := cell_of hZ 5
    have d6 := cell_of hZ 6
    have d7 := cell_of hZ 7
    simp at d0 d1 d2 d3 d4 d5 d6 d7
    have g0 := frozen_of hZ 0
    have g1 := frozen_of hZ 1
    have g2 := frozen_of hZ 2
    have g3 := frozen_of hZ 3
    have g4 := frozen_of hZ 4
    have g5 := frozen_of hZ 5
    have g6 := frozen_of hZ 6
    have g7 := frozen_of hZ 7
    go_wp2_with fail
    clear c0 c1 c2 c3 c4 c5 c6 c7 f0 f1 f2 f3 f4 f5 f6 f7 d0 d1 d2 d3 d4 d5 d6 d7 g0 g1 g2 g3 g4 g5 g6 g7
    refine (left_any b r4 _ hR).mono ?_
    rintro e w' ⟨rfl, n, rfl⟩
    replace hm : (w5.drewN n).heap[p]? = _ := hm
    replace hZ : (w5.drewN n).heap[w.heap.size]? = _ := hZ
    replace hB : Below W.heap.size W (w5.drewN n) := below_dn hB n
    have hOb' : Ob (w5.drewN n) _ _ (.slice A7 t3.length c7') t3 := World.ownsRow.kept hOb (grown_drewN w5 n none) (by cases Value.ownBlock (.slice A7 t3.length c7') <;> simp)
    generalize w5.drewN n = w6 at *
    by_cases hle : r4.pos < r4.xs.length
    · have hle' : (0 : Int) < (r4.xs.length : Int) - (r4.pos : Int) := by omega
      have c0 := cell_of hm 0
      have c1 := cell_of hm 1
      have c2 := cell_of hm 2
      have c3 := cell_of hm 3
      have c4 := cell_of hm 4
      have c5 := cell_of hm 5
      have c6 := cell_of hm 6
      have c7 := cell_of hm 7
      simp at c0 c1 c2 c3 c4 c5 c6 c7
      have f0 := frozen_of hm 0
      have f1 := frozen_of hm 1
      have f2 := frozen_of hm 2
      have f3 := frozen_of hm 3
      have f4 := frozen_of hm 4
      have f5 := frozen_of hm 5
      have f6 := frozen_of hm 6
      have f7 := frozen_of hm 7
      have d0 := cell_of hZ 0
      have d1 := cell_of hZ 1
      have d2 := cell_of hZ 2
      have d3 := cell_of hZ 3
      have d4 := cell_of hZ 4
      have d5 := cell_of hZ 5
      have d6 := cell_of hZ 6
      have d7 := cell_of hZ 7
      simp at d0 d1 d2 d3 d4 d5 d6 d7
      have g0 := frozen_of hZ 0
      have g1 := frozen_of hZ 1
      have g2 := frozen_of hZ 2
      have g3 := frozen_of hZ 3
      have g4 := frozen_of hZ 4
      have g5 := frozen_of hZ 5
      have g6 := frozen_of hZ 6
      have g7 := frozen_of hZ 7
      go_wp2
      clear c0 c1 c2 c3 c4 c5 c6 c7 f0 f1 f2 f3 f4 f5 f6 f7 d0 d1 d2 d3 d4 d5 d6 d7 g0 g1 g2 g3 g4 g5 g6 g7
      obtain ⟨hf, hf2, hf3⟩ := eight hZ (.int .i64 0) (.int .u32 0) (.string ⟨#[]⟩) (.int .i64 0) (.int .i64 0) (.int .u32 0) (.int .i64 0) (.slice none 0 0)
      generalize (World.setCell _ ⟨w.heap.size, 7, none⟩ (.slice none 0 0)) = wf at *
      have d0 := cell_of hf 0
      have d1 := cell_of hf 1
      have d2 := cell_of hf 2
      have d3 := cell_of hf 3
      have d4 := cell_of hf 4
      have d5 := cell_of hf 5
      have d6 := cell_of hf 6
      have d7 := cell_of hf 7
      simp at d0 d1 d2 d3 d4 d5 d6 d7
      obtain ⟨hE, hM⟩ := dec_bad hk (by decide) HCH.out he (.inl hle)
      rw [hE, hM]
      exact bodyPost_ret (v := .tuple #[.agg #[(.int .i64 0), (.int .u32 0), (.string ⟨#[]⟩), (.int .i64 0), (.int .i64 0), (.int .u32 0), (.int .i64 0), (.slice none 0 0)], .int .i64 210]) (by simp [results, Try.results15, go_sem, d0, d1, d2, d3, d4, d5, d6, d7]) rfl ⟨(.slice none 0 0), rfl, Ob.nil _ _ _, hf2 (below_tr HB0.out (hB)) (Nat.le_refl _)⟩
    · have hle' : ¬ ((0 : Int) < (r4.xs.length : Int) - (r4.pos : Int)) := by omega
      have c0 := cell_of hm 0
      have c1 := cell_of hm 1
      have c2 := cell_of hm 2
      have c3 := cell_of hm 3
      have c4 := cell_of hm 4
      have c5 := cell_of hm 5
      have c6 := cell_of hm 6
      have c7 := cell_of hm 7
      simp at c0 c1 c2 c3 c4 c5 c6 c7
      have f0 := frozen_of hm 0
      have f1 := frozen_of hm 1
      have f2 := frozen_of hm 2
      have f3 := frozen_of hm 3
      have f4 := frozen_of hm 4
      have f5 := frozen_of hm 5
      have f6 := frozen_of hm 6
      have f7 := frozen_of hm 7
      have d0 := cell_of hZ 0
      have d1 := cell_of hZ 1
      have d2 := cell_of hZ 2
      have d3 := cell_of hZ 3
      have d4 := cell_of hZ 4
      have d5 := cell_of hZ 5
      have d6 := cell_of hZ 6
      have d7 := cell_of hZ 7
      simp at d0 d1 d2 d3 d4 d5 d6 d7
      have g0 := frozen_of hZ 0
      have g1 := frozen_of hZ 1
      have g2 := frozen_of hZ 2
      have g3 := frozen_of hZ 3
      have g4 := frozen_of hZ 4
      have g5 := frozen_of hZ 5
      have g6 := frozen_of hZ 6
      have g7 := frozen_of hZ 7
      go_wp2_with fail
      clear c0 c1 c2 c3 c4 c5 c6 c7 f0 f1 f2 f3 f4 f5 f6 f7 d0 d1 d2 d3 d4 d5 d6 d7 g0 g1 g2 g3 g4 g5 g6 g7
      refine (check_any ⟨7, num t1, [], (0 : Nat), (0 : Nat), 0, (0 : Nat), t3⟩ (.slice A7 t3.length c7') w6 _ (hOb'.bs) (by simp)).mono ?_
      rintro e w7 ⟨rfl, hB7⟩
      replace hm := heap_bl hB7 hm
      replace hZ := heap_bl hB7 hZ
      replace hB := below_tr hB hB7
      replace hOb' := G.ob_fresh hOb' hB7
      clear hR
      by_cases hok : Msg.ok ⟨7, num t1, [], (0 : Nat), (0 : Nat), 0, (0 : Nat), t3⟩
      · rw [okErr, if_pos hok]
        have c0 := cell_of hm 0
        have c1 := cell_of hm 1
        have c2 := cell_of hm 2
        have c3 := cell_of hm 3
        have c4 := cell_of hm 4
        have c5 := cell_of hm 5
        have c6 := cell_of hm 6
        have c7 := cell_of hm 7
        simp at c0 c1 c2 c3 c4 c5 c6 c7
        have f0 := frozen_of hm 0
        have f1 := frozen_of hm 1
        have f2 := frozen_of hm 2
        have f3 := frozen_of hm 3
        have f4 := frozen_of hm 4
        have f5 := frozen_of hm 5
        have f6 := frozen_of hm 6
        have f7 := frozen_of hm 7
        have d0 := cell_of hZ 0
        have d1 := cell_of hZ 1
        have d2 := cell_of hZ 2
        have d3 := cell_of hZ 3
        have d4 := cell_of hZ 4
        have d5 := cell_of hZ 5
        have d6 := cell_of hZ 6
        have d7 := cell_of hZ 7
        simp at d0 d1 d2 d3 d4 d5 d6 d7
        have g0 := frozen_of hZ 0
        have g1 := frozen_of hZ 1
        have g2 := frozen_of hZ 2
        have g3 := frozen_of hZ 3
        have g4 := frozen_of hZ 4
        have g5 := frozen_of hZ 5
        have g6 := frozen_of hZ 6
        have g7 := frozen_of hZ 7
        go_wp2
        clear c0 c1 c2 c3 c4 c5 c6 c7 f0 f1 f2 f3 f4 f5 f6 f7 d0 d1 d2 d3 d4 d5 d6 d7 g0 g1 g2 g3 g4 g5 g6 g7
        obtain ⟨hf, hf2, hf3⟩ := eight hZ (.int .i64 7) (.int .u32 (num t1 : Nat)) (.string ⟨#[]⟩) (.int .i64 0) (.int .i64 0) (.int .u32 0) (.int .i64 0) (.slice A7 t3.length c7')
        generalize (World.setCell _ ⟨w.heap.size, 7, none⟩ (.slice A7 t3.length c7')) = wf at *
        have d0 := cell_of hf 0
        have d1 := cell_of hf 1
        have d2 := cell_of hf 2
        have d3 := cell_of hf 3
        have d4 := cell_of hf 4
        have d5 := cell_of hf 5
        have d6 := cell_of hf 6
        have d7 := cell_of hf 7
        simp at d0 d1 d2 d3 d4 d5 d6 d7
        obtain ⟨hE, hM⟩ := dec_good hk (by decide) HCH.out he hle hok
        rw [hE, hM]
        exact bodyPost_ret (v := .tuple #[.agg #[(.int .i64 7), (.int .u32 (num t1 : Nat)), (.string ⟨#[]⟩), (.int .i64 0), (.int .i64 0), (.int .u32 0), (.int .i64 0), (.slice A7 t3.length c7')], .int .i64 0]) (by simp [results, Try.results15, go_sem, d0, d1, d2, d3, d4, d5, d6, d7]) rfl ⟨(.slice A7 t3.length c7'), rfl, (hf3 hOb' (by omega)).low (by omega), hf2 (below_tr HB0.out (hB)) (Nat.le_refl _)⟩
      · rw [okErr, if_neg hok]
        have c0 := cell_of hm 0
        have c1 := cell_of hm 1
        have c2 := cell_of hm 2
        have c3 := cell_of hm 3
        have c4 := cell_of hm 4
        have c5 := cell_of hm 5
        have c6 := cell_of hm 6
        have c7 := cell_of hm 7
        simp at c0 c1 c2 c3 c4 c5 c6 c7
        have f0 := frozen_of hm 0
        have f1 := frozen_of hm 1
        have f2 := frozen_of hm 2
        have f3 := frozen_of hm 3
        have f4 := frozen_of hm 4
        have f5 := frozen_of hm 5
        have f6 := frozen_of hm 6
        have f7 := frozen_of hm 7
        have d0 := cell_of hZ 0
        have d1 := cell_of hZ 1
        have d2 := cell_of hZ 2
        have d3 := cell_of hZ 3
        have d4 := cell_of hZ 4
        have d5 := cell_of hZ 5
        have d6 := cell_of hZ 6
        have d7 := cell_of hZ 7
        simp at d0 d1 d2 d3 d4 d5 d6 d7
        have g0 := frozen_of hZ 0
        have g1 := frozen_of hZ 1
        have g2 := frozen_of hZ 2
        have g3 := frozen_of hZ 3
        have g4 := frozen_of hZ 4
        have g5 := frozen_of hZ 5
        have g6 := frozen_of hZ 6
        have g7 := frozen_of hZ 7
        go_wp2
        clear c0 c1 c2 c3 c4 c5 c6 c7 f0 f1 f2 f3 f4 f5 f6 f7 d0 d1 d2 d3 d4 d5 d6 d7 g0 g1 g2 g3 g4 g5 g6 g7
        obtain ⟨hf, hf2, hf3⟩ := eight hZ (.int .i64 0) (.int .u32 0) (.string ⟨#[]⟩) (.int .i64 0) (.int .i64 0) (.int .u32 0) (.int .i64 0) (.slice none 0 0)
        generalize (World.setCell _ ⟨w.heap.size, 7, none⟩ (.slice none 0 0)) = wf at *
        have d0 := cell_of hf 0
        have d1 := cell_of hf 1
        have d2 := cell_of hf 2
        have d3 := cell_of hf 3
        have d4 := cell_of hf 4
        have d5 := cell_of hf 5
        have d6 := cell_of hf 6
        have d7 := cell_of hf 7
        simp at d0 d1 d2 d3 d4 d5 d6 d7
        obtain ⟨hE, hM⟩ := dec_bad hk (by decide) HCH.out he (.inr hok)
        rw [hE, hM]
        exact bodyPost_ret (v := .tuple #[.agg #[(.int .i64 0), (.int .u32 0), (.string ⟨#[]⟩), (.int .i64 0), (.int .i64 0), (.int .u32 0), (.int .i64 0), (.slice none 0 0)], .int .i64 210]) (by simp [results, Try.results15, go_sem, d0, d1, d2, d3, d4, d5, d6, d7]) rfl ⟨(.slice none 0 0), rfl, Ob.nil _ _ _, hf2 (below_tr HB0.out (hB)) (Nat.le_refl _)⟩
  · have he' : (r4.err != 0) = true := by simpa using he
    have c0 := cell_of hm 0
    have c1 := cell_of hm 1
    have c2 := cell_of hm 2
    have c3 := cell_of hm 3
    have c4 := cell_of hm 4
    have c5 := cell_of hm 5
    have c6 := cell_of hm 6
    have c7 := cell_of hm 7
    simp at c0 c1 c2 c3 c4 c5 c6 c7
    have f0 := frozen_of hm 0
    have f1 := frozen_of hm 1
    have f2 := frozen_of hm 2
    have f3 := frozen_of hm 3
    have f4 := frozen_of hm 4
    have f5 := frozen_of hm 5
    have f6 := frozen_of hm 6
    have f7 := frozen_of hm 7
    have d0 := cell_of hZ 0
    have d1 := cell_of hZ 1
    have d2 := cell_of hZ 2
    have d3 := cell_of hZ 3
    have d4 := cell_of hZ 4
    have d5 := cell_of hZ 5
    have d6 := cell_of hZ 6
    have d7 := cell_of hZ 7
    simp at d0 d1 d2 d3 d4 d5 d6 d7
    have g0 := frozen_of hZ 0
    have g1 := frozen_of hZ 1
    have g2 := frozen_of hZ 2
    have g3 := frozen_of hZ 3
    have g4 := frozen_of hZ 4
    have g5 := frozen_of hZ 5
    have g6 := frozen_of hZ 6
    have g7 := frozen_of hZ 7
    go_wp2
    clear c0 c1 c2 c3 c4 c5 c6 c7 f0 f1 f2 f3 f4 f5 f6 f7 d0 d1 d2 d3 d4 d5 d6 d7 g0 g1 g2 g3 g4 g5 g6 g7
    obtain ⟨hf, hf2, hf3⟩ := eight hZ (.int .i64 0) (.int .u32 0) (.string ⟨#[]⟩) (.int .i64 0) (.int .i64 0) (.int .u32 0) (.int .i64 0) (.slice none 0 0)
    generalize (World.setCell _ ⟨w.heap.size, 7, none⟩ (.slice none 0 0)) = wf at *
    have d0 := cell_of hf 0
    have d1 := cell_of hf 1
    have d2 := cell_of hf 2
    have d3 := cell_of hf 3
    have d4 := cell_of hf 4
    have d5 := cell_of hf 5
    have d6 := cell_of hf 6
    have d7 := cell_of hf 7
    simp at d0 d1 d2 d3 d4 d5 d6 d7
    obtain ⟨hE, hM⟩ := dec_short hk (by decide) HCH.out he
    rw [hE, hM]
    exact bodyPost_ret (v := .tuple #[.agg #[(.int .i64 0), (.int .u32 0), (.string ⟨#[]⟩), (.int .i64 0), (.int .i64 0), (.int .u32 0), (.int .i64 0), (.slice none 0 0)], .int .i64 7]) (by simp [results, Try.results15, go_sem, d0, d1, d2, d3, d4, d5, d6, d7]) rfl ⟨(.slice none 0 0), rfl, Ob.nil _ _ _, hf2 (below_tr HB0.out (hB)) (Nat.le_refl _)⟩

end Go.Proofs.Ytmcldnfemlaeiaa
namespace Go.Proofs.Ytmcldnfemlaeiaa
open Go.RowKit K L
set_option linter.unusedVariables false
set_option linter.unusedSimpArgs false

set_option maxRecDepth 100000 in
set_option maxHeartbeats 4000000 in
theorem decode_8 (v : Value) (xs : List UInt8) (w : World) (F : Nat → Prop) (h : Bs w F v xs) (hl : xs.length ≤ 100000000) (hx : 0 < xs.length) (hk : kindOf xs = 8) :
    Calls Try.prog 15 #[v] w fun e w' => ∃ vb, e = .returned (.tuple #[.agg ((decM xs).cells vb).toArray, .int .i64 (decE xs)]) ∧ Ob w' w.heap.size 5 vb (decM xs).bytes ∧ Below w.heap.size w w' := by

  have hb := h
  obtain ⟨A, c, rfl, l1, l2, -, -⟩ := h.open_
  unfold maxLen at l2
  clear h
  go_enter Try.func15, Try.ntmps15
  go_wp2_with fail
  obtain ⟨hz, hB0, hb1, hsz⟩ := box_one w (.cells #[.int .i64 0, .int .u32 0, .string ⟨#[]⟩, .int .i64 0, .int .i64 0, .int .u32 0, .int .i64 0, .slice none 0 0] 25) _ _ _ hb
  clear hb
  generalize w.alloc (.cells #[.int .i64 0, .int .u32 0, .string ⟨#[]⟩, .int .i64 0, .int .i64 0, .int .u32 0, .int .i64 0, .slice none 0 0] 25) = W at *
  refine (read_any _ xs W F hb1 (by omega)).mono ?_
  rintro e w1 ⟨b, rfl, hbl, hR, hB1⟩
  go_wp2_with fail
  refine (u8_any b _ w1 hR).mono ?_
  rintro e w2 ⟨rfl, hR, hg⟩
  have hk1 : ((num (Rs.take ⟨xs, 0, 0⟩ 1).2 : Nat) : Int) = 8 := hk
  have hd : decR xs = chain 8 (Rs.take ⟨xs, 0, 0⟩ 1).1 := by rw [decR, hk]
  rw [hk1]
  have hp0 : (Rs.take ⟨xs, 0, 0⟩ 1).1.pos ≤ (Rs.take ⟨xs, 0, 0⟩ 1).1.xs.length := Rs.take_pos _ _ (Nat.zero_le _)

  generalize (Rs.take ⟨xs, 0, 0⟩ 1).1 = r1 at *
  clear hk1
  have hB2 : Below W.heap.size W w2 := below_gr hB1 hg hbl
  replace hz : w2.heap[w.heap.size]? = some _ := heap_bl hB2 hz
  have hbp := hR.lt
  have hWp := hB2.size
  go_wp2_with fail
  replace hR : IsR (w2.alloc (.cells #[.int .i64 8, .int .u32 0, .string ⟨#[]⟩, .int .i64 0, .int .i64 0, .int .u32 0, .int .i64 0, .slice none 0 0] 25)) b r1 := hR.below (below_al (Below.refl _ _) _)
  have hB : Below W.heap.size W (w2.alloc (.cells #[.int .i64 8, .int .u32 0, .string ⟨#[]⟩, .int .i64 0, .int .i64 0, .int .u32 0, .int .i64 0, .slice none 0 0] 25)) := below_al hB2 _
  have hZ : (w2.alloc (.cells #[.int .i64 8, .int .u32 0, .string ⟨#[]⟩, .int .i64 0, .int .i64 0, .int .u32 0, .int .i64 0, .slice none 0 0] 25)).heap[w.heap.size]? = some _ := heap_al hz _
  have hm := heap_alloc_new w2 (.cells #[.int .i64 8, .int .u32 0, .string ⟨#[]⟩, .int .i64 0, .int .i64 0, .int .u32 0, .int .i64 0, .slice none 0 0] 25)
  have hps : w2.heap.size < (w2.alloc (.cells #[.int .i64 8, .int .u32 0, .string ⟨#[]⟩, .int .i64 0, .int .i64 0, .int .u32 0, .int .i64 0, .slice none 0 0] 25)).heap.size := by rw [World.size_alloc]; omega
  generalize w2.alloc (.cells #[.int .i64 8, .int .u32 0, .string ⟨#[]⟩, .int .i64 0, .int .i64 0, .int .u32 0, .int .i64 0, .slice none 0 0] 25) = w3 at *
  generalize w2.heap.size = p at *
  clear hB2 hz hg hB1
  have HB0 := Lib.hid hB0
  clear hB0
  refine (fields_is _ 48 rfl _).mono ?_
  rintro e w' ⟨rfl, rfl⟩
  go_wp2_with fail
  refine (u32_any b r1 _ hR).mono ?_
  rintro e w4 ⟨rfl, hR, hg⟩
  replace hm := gr_heap hg hm (by omega)
  replace hZ := gr_heap hg hZ (by omega)
  replace hB := below_gr hB hg hbl
  replace hps := Nat.lt_of_lt_of_le hps hg.size
  clear hg
  have n1 : num (Rs.take r1 4).2 < 4294967296 := Rs.take_num4 r1
  have hp := Rs.take_pos r1 4 hp0

  generalize hTa : (Rs.take r1 4).1 = r2 at *
  generalize hTb : (Rs.take r1 4).2 = t1 at *
  replace hp0 := hp
  have A1 := Lib.hid hTa
  have B1 := Lib.hid hTb
  clear hTa hTb hp
  have c0 := cell_of hm 0
  have c1 := cell_of hm 1
  have c2 := cell_of hm 2
  have c3 := cell_of hm 3
  have c4 := cell_of hm 4
  have c5 := cell_of hm 5
  have c6 := cell_of hm 6
  have c7 := cell_of hm 7
  simp at c0 c1 c2 c3 c4 c5 c6 c7
  have f0 := frozen_of hm 0
  have f1 := frozen_of hm 1
  have f2 := frozen_of hm 2
  have f3 := frozen_of hm 3
  have f4 := frozen_of hm 4
  have f5 := frozen_of hm 5
  have f6 := frozen_of hm 6
  have f7 := frozen_of hm 7
  have d0 := cell_of hZ 0
  have d1 := cell_of hZ 1
  have d2 := cell_of hZ 2
  have d3 := cell_of hZ 3
  have d4 := cell_of hZ 4
  have d5 := cell_of hZ 5
  have d6 := cell_of hZ 6
  have d7 := cell_of hZ 7
  simp at d0 d1 d2 d3 d4 d5 d6 d7
  have g0 := frozen_of hZ 0
  have g1 := frozen_of hZ 1
  have g2 := frozen_of hZ 2
  have g3 := frozen_of hZ 3
  have g4 := frozen_of hZ 4
  have g5 := frozen_of hZ 5
  have g6 := frozen_of hZ 6
  have g7 := frozen_of hZ 7
  go_wp2_with fail
  clear c0 c1 c2 c3 c4 c5 c6 c7 f0 f1 f2 f3 f4 f5 f6 f7 d0 d1 d2 d3 d4 d5 d6 d7 g0 g1 g2 g3 g4 g5 g6 g7
  obtain ⟨hm', hR', hB', hZ', hs'⟩ := put_cell hm 1 (.int .u32 (num t1 : Nat)) hR hbp hB hWp hZ (by omega)
  simp only [List.setIfInBounds_toArray, List.set_cons_succ, List.set_cons_zero] at hm'
  generalize World.setCell _ ⟨p, 1, none⟩ (.int .u32 (num t1 : Nat)) = w5 at *
  replace hps : p < w5.heap.size := by omega
  clear hm hR hB hZ hs'
  have hm := hm'
  have hR := hR'
  have hB := hB'
  have hZ := hZ'
  clear hm' hR' hB' hZ'
  refine (has_any 48 1 (by decide) (by decide) _).mono ?_
  rw [show fhas 48 1 = false from by decide]
  rintro e w' ⟨rfl, rfl⟩
  go_wp2_with fail
  refine (has_any 48 2 (by decide) (by decide) _).mono ?_
  rw [show fhas 48 2 = false from by decide]
  rintro e w' ⟨rfl, rfl⟩
  go_wp2_with fail
  refine (has_any 48 4 (by decide) (by decide) _).mono ?_
  rw [show fhas 48 4 = false from by decide]
  rintro e w' ⟨rfl, rfl⟩
  go_wp2_with fail
  refine (has_any 48 8 (by decide) (by decide) _).mono ?_
  rw [show fhas 48 8 = false from by decide]
  rintro e w' ⟨rfl, rfl⟩
  go_wp2_with fail
  refine (has_any 48 16 (by decide) (by decide) _).mono ?_
  rw [show fhas 48 16 = true from by decide]
  rintro e w' ⟨rfl, rfl⟩
  go_wp2_with fail
  refine (u8_any b r2 _ hR).mono ?_
  rintro e w4 ⟨rfl, hR, hg⟩
  replace hm := gr_heap hg hm (by omega)
  replace hZ := gr_heap hg hZ (by omega)
  replace hB := below_gr hB hg hbl
  replace hps := Nat.lt_of_lt_of_le hps hg.size
  clear hg
  have n2 : num (Rs.take r2 1).2 < 256 := Rs.take_num1 r2
  have hp := Rs.take_pos r2 1 hp0

  generalize hTa : (Rs.take r2 1).1 = r3 at *
  generalize hTb : (Rs.take r2 1).2 = t2 at *
  replace hp0 := hp
  have A2 := Lib.hid hTa
  have B2 := Lib.hid hTb
  clear hTa hTb hp
  have c0 := cell_of hm 0
  have c1 := cell_of hm 1
  have c2 := cell_of hm 2
  have c3 := cell_of hm 3
  have c4 := cell_of hm 4
  have c5 := cell_of hm 5
  have c6 := cell_of hm 6
  have c7 := cell_of hm 7
  simp at c0 c1 c2 c3 c4 c5 c6 c7
  have f0 := frozen_of hm 0
  have f1 := frozen_of hm 1
  have f2 := frozen_of hm 2
  have f3 := frozen_of hm 3
  have f4 := frozen_of hm 4
  have f5 := frozen_of hm 5
  have f6 := frozen_of hm 6
  have f7 := frozen_of hm 7
  have d0 := cell_of hZ 0
  have d1 := cell_of hZ 1
  have d2 := cell_of hZ 2
  have d3 := cell_of hZ 3
  have d4 := cell_of hZ 4
  have d5 := cell_of hZ 5
  have d6 := cell_of hZ 6
  have d7 := cell_of hZ 7
  simp at d0 d1 d2 d3 d4 d5 d6 d7
  have g0 := frozen_of hZ 0
  have g1 := frozen_of hZ 1
  have g2 := frozen_of hZ 2
  have g3 := frozen_of hZ 3
  have g4 := frozen_of hZ 4
  have g5 := frozen_of hZ 5
  have g6 := frozen_of hZ 6
  have g7 := frozen_of hZ 7
  go_wp2_with fail
  clear c0 c1 c2 c3 c4 c5 c6 c7 f0 f1 f2 f3 f4 f5 f6 f7 d0 d1 d2 d3 d4 d5 d6 d7 g0 g1 g2 g3 g4 g5 g6 g7
  obtain ⟨hm', hR', hB', hZ', hs'⟩ := put_cell hm 6 (.int .i64 (num t2 : Nat)) hR hbp hB hWp hZ (by omega)
  simp only [List.setIfInBounds_toArray, List.set_cons_succ, List.set_cons_zero] at hm'
  generalize World.setCell _ ⟨p, 6, none⟩ (.int .i64 (num t2 : Nat)) = w5 at *
  replace hps : p < w5.heap.size := by omega
  clear hm hR hB hZ hs'
  have hm := hm'
  have hR := hR'
  have hB := hB'
  have hZ := hZ'
  clear hm' hR' hB' hZ'
  refine (has_any 48 32 (by decide) (by decide) _).mono ?_
  rw [show fhas 48 32 = true from by decide]
  rintro e w' ⟨rfl, rfl⟩
  go_wp2_with fail
  refine (u16_any b r3 _ hR).mono ?_
  rintro e w4 ⟨rfl, hR, hg⟩
  replace hm := gr_heap hg hm (by omega)
  replace hZ := gr_heap hg hZ (by omega)
  replace hB := below_gr hB hg hbl
  replace hps := Nat.lt_of_lt_of_le hps hg.size
  clear hg
  have n3 : num (Rs.take r3 2).2 < 65536 := Rs.take_num2 r3
  have hp := Rs.take_pos r3 2 hp0

  generalize hTa : (Rs.take r3 2).1 = r4 at *
  generalize hTb : (Rs.take r3 2).2 = t3 at *
  replace hp0 := hp
  have A3 := Lib.hid hTa
  have B3 := Lib.hid hTb
  clear hTa hTb hp
  go_wp2_with fail
  have hraw : Bs W (· < W.heap.size) (.slice none 0 0) [] := Sl.nil _ _ _
  refine (raw_any b r4 (num t3 : Nat) _ hR (by omega)).mono ?_
  clear hraw
  have hpw := hps
  rintro e w4 ⟨vb, rfl, ho, hR, hg⟩
  replace hm := gr_heap hg hm (by omega)
  replace hZ := gr_heap hg hZ (by omega)
  replace hB := below_gr hB hg hbl
  replace hps := Nat.lt_of_lt_of_le hps hg.size
  clear hg
  have hp := Rs.take_pos r4 (num t3 : Nat) hp0
  generalize hTa : (Rs.take r4 (num t3 : Nat)).1 = r5 at *
  generalize hTb : (Rs.take r4 (num t3 : Nat)).2 = t4 at *
  replace hp0 := hp
  have A4 := Lib.hid hTa
  have B4 := Lib.hid hTb
  clear hTa hTb hp
  have hbs := ho.bs
  obtain ⟨A7, c7', rfl, -, -, -, -⟩ := hbs.open_
  clear hbs
  have c0 := cell_of hm 0
  have c1 := cell_of hm 1
  have c2 := cell_of hm 2
  have c3 := cell_of hm 3
  have c4 := cell_of hm 4
  have c5 := cell_of hm 5
  have c6 := cell_of hm 6
  have c7 := cell_of hm 7
  simp at c0 c1 c2 c3 c4 c5 c6 c7
  have f0 := frozen_of hm 0
  have f1 := frozen_of hm 1
  have f2 := frozen_of hm 2
  have f3 := frozen_of hm 3
  have f4 := frozen_of hm 4
  have f5 := frozen_of hm 5
  have f6 := frozen_of hm 6
  have f7 := frozen_of hm 7
  have d0 := cell_of hZ 0
  have d1 := cell_of hZ 1
  have d2 := cell_of hZ 2
  have d3 := cell_of hZ 3
  have d4 := cell_of hZ 4
  have d5 := cell_of hZ 5
  have d6 := cell_of hZ 6
  have d7 := cell_of hZ 7
  simp at d0 d1 d2 d3 d4 d5 d6 d7
  have g0 := frozen_of hZ 0
  have g1 := frozen_of hZ 1
  have g2 := frozen_of hZ 2
  have g3 := frozen_of hZ 3
  have g4 := frozen_of hZ 4
  have g5 := frozen_of hZ 5
  have g6 := frozen_of hZ 6
  have g7 := frozen_of hZ 7
  go_wp2_with fail
  clear c0 c1 c2 c3 c4 c5 c6 c7 f0 f1 f2 f3 f4 f5 f6 f7 d0 d1 d2 d3 d4 d5 d6 d7 g0 g1 g2 g3 g4 g5 g6 g7
  have hOb := ob_other ho p 7 (.slice A7 t4.length c7') hpw
  clear ho
  obtain ⟨hm', hR', hB', hZ', hs'⟩ := put_cell hm 7 (.slice A7 t4.length c7') hR hbp hB hWp hZ (by omega)
  simp only [List.setIfInBounds_toArray, List.set_cons_succ, List.set_cons_zero] at hm'
  generalize World.setCell _ ⟨p, 7, none⟩ (.slice A7 t4.length c7') = w5 at *
  replace hps : p < w5.heap.size := by omega
  clear hm hR hB hZ hs'
  have hm := hm'
  have hR := hR'
  have hB := hB'
  have hZ := hZ'
  clear hm' hR' hB' hZ'
  have hch : decR xs = (⟨8, num t1, [], (0 : Nat), (0 : Nat), 0, (num t2 : Nat), t4⟩, r5) := by
    rw [hd]
    simp [chain, show fldN 8 = false from rfl, show fldS 8 = false from rfl, show fldO 8 = false from rfl, show fldU 8 = false from rfl, show fldC 8 = true from rfl, show fldB 8 = true from rfl, A1.out, B1.out, A2.out, B2.out, A3.out, B3.out, A4.out, B4.out, show num [] = 0 from rfl]
  have HCH := Lib.hid hch
  clear hch hd
  refine (err_any b r5 _ hR).mono ?_
  rintro e w' ⟨rfl, rfl⟩
  by_cases he : r5.err = 0
  · rw [he]
    have c0 := cell_of hm 0
    have c1 := cell_of hm 1
    have c2 := cell_of hm 2
    have c3 := cell_of hm 3
    have c4 := cell_of hm 4
    have c5 := cell_of hm 5
    have c6 := cell_of hm 6
    have c7 := cell_of hm 7
    simp at c0 c1 c2 c3 c4 c5 c6 c7
    have f0 := frozen_of hm 0
    have f1 := frozen_of hm 1
    have f2 := frozen_of hm 2
    have f3 := frozen_of hm 3
    have f4 := frozen_of hm 4
    have f5 := frozen_of hm 5
    have f6 := frozen_of hm 6
    have f7 := frozen_of hm 7
    have d0 := cell_of hZ 0
    have d1 := cell_of hZ 1
    have d2 := cell_of hZ 2
    have d3 := cell_of hZ 3
    have d4 := cell_of hZ 4
    have d5 := cell_of hZ 5
    have d6 := cell_of hZ 6
    have d7 := cell_of hZ 7
    simp at d0 d1 d2 d3 d4 d5 d6 d7
    have g0 := frozen_of hZ 0
    have g1 := frozen_of hZ 1
    have g2 := frozen_of hZ 2
    have g3 := frozen_of hZ 3
    have g4 := frozen_of hZ 4
    have g5 := frozen_of hZ 5
    have g6 := frozen_of hZ 6
    have g7 := frozen_of hZ 7
    go_wp2_with fail
    clear c0 c1 c2 c3 c4 c5 c6 c7 f0 f1 f2 f3 f4 f5 f6 f7 d0 d1 d2 d3 d4 d5 d6 d7 g0 g1 g2 g3 g4 g5 g6 g7
    refine (left_any b r5 _ hR).mono ?_
    rintro e w' ⟨rfl, n, rfl⟩
    replace hm : (w5.drewN n).heap[p]? = _ := hm
    replace hZ : (w5.drewN n).heap[w.heap.size]? = _ := hZ
    replace hB : Below W.heap.size W (w5.drewN n) := below_dn hB n
    have hOb' : Ob (w5.drewN n) _ _ (.slice A7 t4.length c7') t4 := World.ownsRow.kept hOb (grown_drewN w5 n none) (by cases Value.ownBlock (.slice A7 t4.length c7') <;> simp)
    generalize w5.drewN n = w6 at *
    by_cases hle : r5.pos < r5.xs.length
    · have hle' : (0 : Int) < (r5.xs.length : Int) - (r5.pos : Int) := by omega
      have c0 := cell_of hm 0
      have c1 := cell_of hm 1
      have c2 := cell_of hm 2
      have c3 := cell_of hm 3
      have c4 := cell_of hm 4
      have c5 := cell_of hm 5
      have c6 := cell_of hm 6
      have c7 := cell_of hm 7
      simp at c0 c1 c2 c3 c4 c5 c6 c7
      have f0 := frozen_of hm 0
      have f1 := frozen_of hm 1
      have f2 := frozen_of hm 2
      have f3 := frozen_of hm 3
      have f4 := frozen_of hm 4
      have f5 := frozen_of hm 5
      have f6 := frozen_of hm 6
      have f7 := frozen_of hm 7
      have d0 := cell_of hZ 0
      have d1 := cell_of hZ 1
      have d2 := cell_of hZ 2
      have d3 := cell_of hZ 3
      have d4 := cell_of hZ 4
      have d5 := cell_of hZ 5
      have d6 := cell_of hZ 6
      have d7 := cell_of hZ 7
      simp at d0 d1 d2 d3 d4 d5 d6 d7
      have g0 := frozen_of hZ 0
      have g1 := frozen_of hZ 1
      have g2 := frozen_of hZ 2
      have g3 := frozen_of hZ 3
      have g4 := frozen_of hZ 4
      have g5 := frozen_of hZ 5
      have g6 := frozen_of hZ 6
      have g7 := frozen_of hZ 7
      go_wp2
      clear c0 c1 c2 c3 c4 c5 c6 c7 f0 f1 f2 f3 f4 f5 f6 f7 d0 d1 d2 d3 d4 d5 d6 d7 g0 g1 g2 g3 g4 g5 g6 g7
      obtain ⟨hf, hf2, hf3⟩ := eight hZ (.int .i64 0) (.int .u32 0) (.string ⟨#[]⟩) (.int .i64 0) (.int .i64 0) (.int .u32 0) (.int .i64 0) (.slice none 0 0)
      generalize (World.setCell _ ⟨w.heap.size, 7, none⟩ (.slice none 0 0)) = wf at *
      have d0 := cell_of hf 0
      have d1 := cell_of hf 1
      have d2 := cell_of hf 2
      have d3 := cell_of hf 3
      have d4 := cell_of hf 4
      have d5 := cell_of hf 5
      have d6 := cell_of hf 6
      have d7 := cell_of hf 7
      simp at d0 d1 d2 d3 d4 d5 d6 d7
      obtain ⟨hE, hM⟩ := dec_bad hk (by decide) HCH.out he (.inl hle)
      rw [hE, hM]
      exact bodyPost_ret (v := .tuple #[.agg #[(.int .i64 0), (.int .u32 0), (.string ⟨#[]⟩), (.int .i64 0), (.int .i64 0), (.int .u32 0), (.int .i64 0), (.slice none 0 0)], .int .i64 210]) (by simp [results, Try.results15, go_sem, d0, d1, d2, d3, d4, d5, d6, d7]) rfl ⟨(.slice none 0 0), rfl, Ob.nil _ _ _, hf2 (below_tr HB0.out (hB)) (Nat.le_refl _)⟩
    · have hle' : ¬ ((0 : Int) < (r5.xs.length : Int) - (r5.pos : Int)) := by omega
      have c0 := cell_of hm 0
      have c1 := cell_of hm 1
      have c2 := cell_of hm 2
      have c3 := cell_of hm 3
      have c4 := cell_of hm 4
      have c5 := cell_of hm 5
      have c6 := cell_of hm 6
      have c7 := cell_of hm 7
      simp at c0 c1 c2 c3 c4 c5 c6 c7
      have f0 := frozen_of hm 0
      have f1 := frozen_of hm 1
      have f2 := frozen_of hm 2
      have f3 := frozen_of hm 3
      have f4 := frozen_of hm 4
      have f5 := frozen_of hm 5
      have f6 := frozen_of hm 6
      have f7 := frozen_of hm 7
      have d0 := cell_of hZ 0
      have d1 := cell_of hZ 1
      have d2 := cell_of hZ 2
      have d3 := cell_of hZ 3
      have d4 := cell_of hZ 4
      have d5 := cell_of hZ 5
      have d6 := cell_of hZ 6
      have d7 := cell_of hZ 7
      simp at d0 d1 d2 d3 d4 d5 d6 d7
      have g0 := frozen_of hZ 0
      have g1 := frozen_of hZ 1
      have g2 := frozen_of hZ 2
      have g3 := frozen_of hZ 3
      have g4 := frozen_of hZ 4
      have g5 := frozen_of hZ 5
      have g6 := frozen_of hZ 6
      have g7 := frozen_of hZ 7
      go_wp2_with fail
      clear c0 c1 c2 c3 c4 c5 c6 c7 f0 f1 f2 f3 f4 f5 f6 f7 d0 d1 d2 d3 d4 d5 d6 d7 g0 g1 g2 g3 g4 g5 g6 g7
      refine (check_any ⟨8, num t1, [], (0 : Nat), (0 : Nat), 0, (num t2 : Nat), t4⟩ (.slice A7 t4.length c7') w6 _ (hOb'.bs) (by simp)).mono ?_
      rintro e w7 ⟨rfl, hB7⟩
      replace hm := heap_bl hB7 hm
      replace hZ := heap_bl hB7 hZ
      replace hB := below_tr hB hB7
      replace hOb' := G.ob_fresh hOb' hB7
      clear hR
      by_cases hok : Msg.ok ⟨8, num t1, [], (0 : Nat), (0 : Nat), 0, (num t2 : Nat), t4⟩
      · rw [okErr, if_pos hok]
        have c0 := cell_of hm 0
        have c1 := cell_of hm 1
        have c2 := cell_of hm 2
        have c3 := cell_of hm 3
        have c4 := cell_of hm 4
        have c5 := cell_of hm 5
        have c6 := cell_of hm 6
        have c7 := cell_of hm 7
        simp at c0 c1 c2 c3 c4 c5 c6 c7
        have f0 := frozen_of hm 0
        have f1 := frozen_of hm 1
        have f2 := frozen_of hm 2
        have f3 := frozen_of hm 3
        have f4 := frozen_of hm 4
        have f5 := frozen_of hm 5
        have f6 := frozen_of hm 6
        have f7 := frozen_of hm 7
        have d0 := cell_of hZ 0
        have d1 := cell_of hZ 1
        have d2 := cell_of hZ 2
        have d3 := cell_of hZ 3
        have d4 := cell_of hZ 4
        have d5 := cell_of hZ 5
        have d6 := cell_of hZ 6
        have d7 := cell_of hZ 7
        simp at d0 d1 d2 d3 d4 d5 d6 d7
        have g0 := frozen_of hZ 0
        have g1 := frozen_of hZ 1
        have g2 := frozen_of hZ 2
        have g3 := frozen_of hZ 3
        have g4 := frozen_of hZ 4
        have g5 := frozen_of hZ 5
        have g6 := frozen_of hZ 6
        have g7 := frozen_of hZ 7
        go_wp2
        clear c0 c1 c2 c3 c4 c5 c6 c7 f0 f1 f2 f3 f4 f5 f6 f7 d0 d1 d2 d3 d4 d5 d6 d7 g0 g1 g2 g3 g4 g5 g6 g7
        obtain ⟨hf, hf2, hf3⟩ := eight hZ (.int .i64 8) (.int .u32 (num t1 : Nat)) (.string ⟨#[]⟩) (.int .i64 0) (.int .i64 0) (.int .u32 0) (.int .i64 (num t2 : Nat)) (.slice A7 t4.length c7')
        generalize (World.setCell _ ⟨w.heap.size, 7, none⟩ (.slice A7 t4.length c7')) = wf at *
        have d0 := cell_of hf 0
        have d1 := cell_of hf 1
        have d2 := cell_of hf 2
        have d3 := cell_of hf 3
        have d4 := cell_of hf 4
        have d5 := cell_of hf 5
        have d6 := cell_of hf 6
        have d7 := cell_of hf 7
        simp at d0 d1 d2 d3 d4 d5 d6 d7
        obtain ⟨hE, hM⟩ := dec_good hk (by decide) HCH.out he hle hok
        rw [hE, hM]
        exact bodyPost_ret (v := .tuple #[.agg #[(.int .i64 8), (.int .u32 (num t1 : Nat)), (.string ⟨#[]⟩), (.int .i64 0), (.int .i64 0), (.int .u32 0), (.int .i64 (num t2 : Nat)), (.slice A7 t4.length c7')], .int .i64 0]) (by simp [results, Try.results15, go_sem, d0, d1, d2, d3, d4, d5, d6, d7]) rfl ⟨(.slice A7 t4.length c7'), rfl, (hf3 hOb' (by omega)).low (by omega), hf2 (below_tr HB0.out (hB)) (Nat.le_refl _)⟩
      · rw [okErr, if_neg hok]
        have c0 := cell_of hm 0
        have c1 := cell_of hm 1
        have c2 := cell_of hm 2
        have c3 := cell_of hm 3
        have c4 := cell_of hm 4
        have c5 := cell_of hm 5
        have c6 := cell_of hm 6
        have c7 := cell_of hm 7
        simp at c0 c1 c2 c3 c4 c5 c6 c7
        have f0 := frozen_of hm 0
        have f1 := frozen_of hm 1
        have f2 := frozen_of hm 2
        have f3 := frozen_of hm 3
        have f4 := frozen_of hm 4
        have f5 := frozen_of hm 5
        have f6 := frozen_of hm 6
        have f7 := frozen_of hm 7
        have d0 := cell_of hZ 0
        have d1 := cell_of hZ 1
        have d2 := cell_of hZ 2
        have d3 := cell_of hZ 3
        have d4 := cell_of hZ 4
        have d5 := cell_of hZ 5
        have d6 := cell_of hZ 6
        have d7 := cell_of hZ 7
        simp at d0 d1 d2 d3 d4 d5 d6 d7
        have g0 := frozen_of hZ 0
        have g1 := frozen_of hZ 1
        have g2 := frozen_of hZ 2
        have g3 := frozen_of hZ 3
        have g4 := frozen_of hZ 4
        have g5 := frozen_of hZ 5
        have g6 := frozen_of hZ 6
        have g7 := frozen_of hZ 7
        go_wp2
        clear c0 c1 c2 c3 c4 c5 c6 c7 f0 f1 f2 f3 f4 f5 f6 f7 d0 d1 d2 d3 d4 d5 d6 d7 g0 g1 g2 g3 g4 g5 g6 g7
        obtain ⟨hf, hf2, hf3⟩ := eight hZ (.int .i64 0) (.int .u32 0) (.string ⟨#[]⟩) (.int .i64 0) (.int .i64 0) (.int .u32 0) (.int .i64 0) (.slice none 0 0)
        generalize (World.setCell _ ⟨w.heap.size, 7, none⟩ (.slice none 0 0)) = wf at *
        have d0 := cell_of hf 0
        have d1 := cell_of hf 1
        have d2 := cell_of hf 2
        have d3 := cell_of hf 3
        have d4 := cell_of hf 4
        have d5 := cell_of hf 5
        have d6 := cell_of hf 6
        have d7 := cell_of hf 7
        simp at d0 d1 d2 d3 d4 d5 d6 d7
        obtain ⟨hE, hM⟩ := dec_bad hk (by decide) HCH.out he (.inr hok)
        rw [hE, hM]
        exact bodyPost_ret (v := .tuple #[.agg #[(.int .i64 0), (.int .u32 0), (.string ⟨#[]⟩), (.int .i64 0), (.int .i64 0), (.int .u32 0), (.int .i64 0), (.slice none 0 0)], .int .i64 210]) (by simp [results, Try.results15, go_sem, d0, d1, d2, d3, d4, d5, d6, d7]) rfl ⟨(.slice none 0 0), rfl, Ob.nil _ _ _, hf2 (below_tr HB0.out (hB)) (Nat.le_refl _)⟩
  · have he' : (r5.err != 0) = true := by simpa using he
    have c0 := cell_of hm 0
    have c1 := cell_of hm 1
    have c2 := cell_of hm 2
    have c3 := cell_of hm 3
    have c4 := cell_of hm 4
    have c5 := cell_of hm 5
    have c6 := cell_of hm 6
    have c7 := cell_of hm 7
    simp at c0 c1 c2 c3 c4 c5 c6 c7
    have f0 := frozen_of hm 0
    have f1 := frozen_of hm 1
    have f2 := frozen_of hm 2
    have f3 := frozen_of hm 3
    have f4 := frozen_of hm 4
    have f5 := frozen_of hm 5
    have f6 := frozen_of hm 6
    have f7 := frozen_of hm 7
    have d0 := cell_of hZ 0
    have d1 := cell_of hZ 1
    have d2 := cell_of hZ 2
    have d3 := cell_of hZ 3
    have d4 := cell_of hZ 4
    have d5 := cell_of hZ 5
    have d6 := cell_of hZ 6
    have d7 := cell_of hZ 7
    simp at d0 d1 d2 d3 d4 d5 d6 d7
    have g0 := frozen_of hZ 0
    have g1 := frozen_of hZ 1
    have g2 := frozen_of hZ 2
    have g3 := frozen_of hZ 3
    have g4 := frozen_of hZ 4
    have g5 := frozen_of hZ 5
    have g6 := frozen_of hZ 6
    have g7 := frozen_of hZ 7
    go_wp2
    clear c0 c1 c2 c3 c4 c5 c6 c7 f0 f1 f2 f3 f4 f5 f6 f7 d0 d1 d2 d3 d4 d5 d6 d7 g0 g1 g2 g3 g4 g5 g6 g7
    obtain ⟨hf, hf2, hf3⟩ := eight hZ (.int .i64 0) (.int .u32 0) (.string ⟨#[]⟩) (.int .i64 0) (.int .i64 0) (.int .u32 0) (.int .i64 0) (.slice none 0 0)
    generalize (World.setCell _ ⟨w.heap.size, 7, none⟩ (.slice none 0 0)) = wf at *
    have d0 := cell_of hf 0
    have d1 := cell_of hf 1
    have d2 := cell_of hf 2
    have d3 := cell_of hf 3
    have d4 := cell_of hf 4
    have d5 := cell_of hf 5
    have d6 := cell_of hf 6
    have d7 := cell_of hf 7
    simp at d0 d1 d2 d3 d4 d5 d6 d7
    obtain ⟨hE, hM⟩ := dec_short hk (by decide) HCH.out he
    rw [hE, hM]
    exact bodyPost_ret (v := .tuple #[.agg #[(.int .i64 0), (.int .u32 0), (.string ⟨#[]⟩), (.int .i64 0), (.int .i64 0), (.int .u32 0), (.int .i64 0), (.slice none 0 0)], .int .i64 7]) (by simp [results, Try.results15, go_sem, d0, d1, d2, d3, d4, d5, d6, d7]) rfl ⟨(.slice none 0 0), rfl, Ob.nil _ _ _, hf2 (below_tr HB0.out (hB)) (Nat.le_refl _)⟩

end Go.Proofs.Ytmcldnfemlaeiaa
