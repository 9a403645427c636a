/- Law 11's walk: copied. No condition beyond sizes. -/
import Derived.Test.YtmcldnfemlaeiaaPduD
namespace Go.Proofs.Ytmcldnfemlaeiaa
open Go.RowKit K L
set_option linter.unusedVariables false
set_option linter.unusedSimpArgs false

set_option maxRecDepth 100000 in
set_option maxHeartbeats 4000000 in
theorem copied_any (m : Msg) (vb : Value) (w : World) (F : Nat → Prop) (h : Bs w F vb m.bytes) (hl : m.bytes.length ≤ 1048576) :
    Calls Try.prog 10 #[.agg (m.cells vb).toArray] w fun e w' => ∃ v, e = .returned (.agg (m.cells v).toArray) ∧ Ob w' w.heap.size 5 v m.bytes ∧ Below w.heap.size w w' := by
  have hb := h
  obtain ⟨A, c, rfl, l1, l2, -, -⟩ := h.open_
  unfold maxLen at l2
  clear h
  obtain ⟨kind, number, name, size, off, sum, code, bytes⟩ := m
  unfold Msg.cells
  dsimp only at hb hl l1 ⊢
  go_enter Try.func10, Try.ntmps10
  obtain ⟨h1, h2, h3, hB⟩ := three w (.cells #[.int .i64 kind, .int .u32 (number : Nat), .string ⟨name.toArray⟩, .int .i64 size, .int .i64 off, .int .u32 (sum : Nat), .int .i64 code, .slice A bytes.length c] 25) (.cells #[.int .i64 0, .int .u32 0, .string ⟨#[]⟩, .int .i64 0, .int .i64 0, .int .u32 0, .int .i64 0, .slice none 0 0] 25) (.cells #[] 5)
  have hown : (((w.alloc (.cells #[.int .i64 kind, .int .u32 (number : Nat), .string ⟨name.toArray⟩, .int .i64 size, .int .i64 off, .int .u32 (sum : Nat), .int .i64 code, .slice A bytes.length c] 25)).alloc (.cells #[.int .i64 0, .int .u32 0, .string ⟨#[]⟩, .int .i64 0, .int .i64 0, .int .u32 0, .int .i64 0, .slice none 0 0] 25)).alloc (.cells #[] 5)).ownsRow (w.heap.size + 1 + 1) 5 1 (.slice (some ⟨w.heap.size + 1 + 1, 0, none⟩) 0 0) 0 [] := by
    have := World.ownsRow_lit (base := w.heap.size + 1 + 1) (e := 5) (size := 1) ((w.alloc (.cells #[.int .i64 kind, .int .u32 (number : Nat), .string ⟨name.toArray⟩, .int .i64 size, .int .i64 off, .int .u32 (sum : Nat), .int .i64 code, .slice A bytes.length c] 25)).alloc (.cells #[.int .i64 0, .int .u32 0, .string ⟨#[]⟩, .int .i64 0, .int .i64 0, .int .u32 0, .int .i64 0, .slice none 0 0] 25)) #[] 0 (by simp only [World.size_alloc]; omega) (by simp [maxLen]) rfl
    simpa only [World.size_alloc] using this
  have HOWN := Lib.hid hown
  have H1 := Lib.hid h1
  have H2 := Lib.hid h2
  have HB := Lib.hid hB
  clear hown h1 h2 h3 hB
  have hafter : ∀ (v' : Value) (w1 : World), w1.ownsRow (w.heap.size + 1 + 1) 5 1 v' (0 + bytes.length) ([] ++ bvs bytes) → (((w.alloc (.cells #[.int .i64 kind, .int .u32 (number : Nat), .string ⟨name.toArray⟩, .int .i64 size, .int .i64 off, .int .u32 (sum : Nat), .int .i64 code, .slice A bytes.length c] 25)).alloc (.cells #[.int .i64 0, .int .u32 0, .string ⟨#[]⟩, .int .i64 0, .int .i64 0, .int .u32 0, .int .i64 0, .slice none 0 0] 25)).alloc (.cells #[] 5)).grownBy w1 (Value.ownBlock (.slice (some ⟨w.heap.size + 1 + 1, 0, none⟩) 0 0)) →
      ∃ A7 c7', v' = .slice A7 bytes.length c7' ∧ Ob w1 (w.heap.size + 1 + 1) 5 v' bytes ∧ w1.heap[w.heap.size]? = some (.cells #[.int .i64 kind, .int .u32 (number : Nat), .string ⟨name.toArray⟩, .int .i64 size, .int .i64 off, .int .u32 (sum : Nat), .int .i64 code, .slice A bytes.length c] 25) ∧ w1.heap[w.heap.size + 1]? = some (.cells #[.int .i64 0, .int .u32 0, .string ⟨#[]⟩, .int .i64 0, .int .i64 0, .int .u32 0, .int .i64 0, .slice none 0 0] 25) ∧ Below w.heap.size w w1 := by
    intro v' w1 ho hg
    have hob : Ob w1 (w.heap.size + 1 + 1) 5 v' bytes := Ob.more (xs := []) ho rfl
    have hbs := hob.bs
    obtain ⟨A7, c7', rfl, -, -, -, -⟩ := hbs.open_
    have hg' : World.grownBy _ w1 (some (w.heap.size + 1 + 1)) := hg
    exact ⟨A7, c7', rfl, hob, gr_heap hg' H1.out (by omega), gr_heap hg' H2.out (by omega), below_gr HB.out hg' (by omega)⟩
  have HAF := Lib.hid hafter
  clear hafter
  go_wp2_with (at_builtin; go_must (refine app Try.el8 rfl _ _ rfl (w.heap.size + 1 + 1) HOWN.out (hb.below HB.out) rfl rfl (one_bvs bytes) (by omega) (by omega) (by simp only [World.size_alloc]; omega) ?_); intro v' w1 ho hg; obtain ⟨A7, c7', rfl, ho', hm, hZ, hB'⟩ := HAF.out v' w1 ho hg; clear ho hg; have c0 := cell_of hm 0; have c1 := cell_of hm 1; have c2 := cell_of hm 2; have c3 := cell_of hm 3; have c4 := cell_of hm 4; have c5 := cell_of hm 5; have c6 := cell_of hm 6; have c7 := cell_of hm 7; have f7 := frozen_of hm 7; simp at c0 c1 c2 c3 c4 c5 c6 c7; have d0 := cell_of hZ 0; have g0 := frozen_of hZ 0; have d1 := cell_of hZ 1; have g1 := frozen_of hZ 1; have d2 := cell_of hZ 2; have g2 := frozen_of hZ 2; have d3 := cell_of hZ 3; have g3 := frozen_of hZ 3; have d4 := cell_of hZ 4; have g4 := frozen_of hZ 4; have d5 := cell_of hZ 5; have g5 := frozen_of hZ 5; have d6 := cell_of hZ 6; have g6 := frozen_of hZ 6; have d7 := cell_of hZ 7; have g7 := frozen_of hZ 7; simp at d0 d1 d2 d3 d4 d5 d6 d7)
  have hZ2 := heap_sc hZ ⟨w.heap.size, 7, none⟩ (.slice A7 bytes.length c7') (by simp)
  have hO2 := ob_other ho' w.heap.size 7 (.slice A7 bytes.length c7') (by omega)
  have hB2 := below_sc hB' (p := ⟨w.heap.size, 7, none⟩) (Nat.le_refl _) (.slice A7 bytes.length c7')
  clear c0 c1 c2 c3 c4 c5 c6 c7 f7 d0 d1 d2 d3 d4 d5 d6 d7 g0 g1 g2 g3 g4 g5 g6 g7 hm hZ ho' hB'
  generalize w1.setCell ⟨w.heap.size, 7, none⟩ (.slice A7 bytes.length c7') = w2 at *
  obtain ⟨hf, hf2, hf3⟩ := eight hZ2 (.int .i64 kind) (.int .u32 (number : Nat)) (.string ⟨name.toArray⟩) (.int .i64 size) (.int .i64 off) (.int .u32 (sum : Nat)) (.int .i64 code) (.slice A7 bytes.length c7')
  generalize (World.setCell _ ⟨w.heap.size + 1, 7, none⟩ (.slice A7 bytes.length c7')) = wf at *
  have d0 := cell_of hf 0
  have d1 := cell_of hf 1
  have d2 := cell_of hf 2
  have d3 := cell_of hf 3
  have d4 := cell_of hf 4
  have d5 := cell_of hf 5
  have d6 := cell_of hf 6
  have d7 := cell_of hf 7
  simp at d0 d1 d2 d3 d4 d5 d6 d7
  exact bodyPost_ret (v := .agg #[.int .i64 kind, .int .u32 (number : Nat), .string ⟨name.toArray⟩, .int .i64 size, .int .i64 off, .int .u32 (sum : Nat), .int .i64 code, .slice A7 bytes.length c7']) (by simp [results, Try.results10, go_sem, d0, d1, d2, d3, d4, d5, d6, d7]) rfl ⟨_, rfl, (hf3 hO2 (by omega)).low (by omega), hf2 hB2 (by omega)⟩

end Go.Proofs.Ytmcldnfemlaeiaa
