/- Layer 11's walks: Decode at all bytes; Encode at every message. No condition beyond sizes. -/
import Derived.Test.YtmcldnfemlaeiaaPduD0
import Derived.Test.YtmcldnfemlaeiaaPduDz
import Derived.Test.YtmcldnfemlaeiaaPduEz
namespace Go.Proofs.Ytmcldnfemlaeiaa
open Go.RowKit K L
set_option linter.unusedVariables false
set_option linter.unusedSimpArgs false

set_option maxRecDepth 100000 in
set_option maxHeartbeats 4000000 in
theorem decode_none (v : Value) (xs : List UInt8) (w : World) (F : Nat → Prop) (h : Bs w F v xs) (hl : xs.length ≤ 100000000) (hx : 0 < xs.length) (hk : fbits (kindOf xs) = 0) :
    Calls Try.prog 15 #[v] w fun e w' => ∃ vb, e = .returned (.tuple #[.agg ((decM xs).cells vb).toArray, .int .i64 (decE xs)]) ∧ Ob w' w.heap.size 5 vb (decM xs).bytes ∧ Below w.heap.size w w' := by
  have hb := h
  obtain ⟨A, c, rfl, l1, l2, -, -⟩ := h.open_
  unfold maxLen at l2
  clear h
  go_enter Try.func15, Try.ntmps15
  go_wp2_with fail
  obtain ⟨hz, hB0, hb1, hsz⟩ := box_one w (.cells #[.int .i64 0, .int .u32 0, .string ⟨#[]⟩, .int .i64 0, .int .i64 0, .int .u32 0, .int .i64 0, .slice none 0 0] 25) _ _ _ hb
  clear hb
  generalize w.alloc (.cells #[.int .i64 0, .int .u32 0, .string ⟨#[]⟩, .int .i64 0, .int .i64 0, .int .u32 0, .int .i64 0, .slice none 0 0] 25) = W at *
  refine (read_any _ xs W F hb1 (by omega)).mono ?_
  rintro e w1 ⟨b, rfl, hbl, hR, hB1⟩
  go_wp2_with fail
  refine (u8_any b _ w1 hR).mono ?_
  rintro e w2 ⟨rfl, hR, hg⟩
  have hkk : fbits ((num (Rs.take ⟨xs, 0, 0⟩ 1).2 : Nat) : Int) = 0 := hk
  have hn := Rs.take_num1 ⟨xs, 0, 0⟩
  generalize num (Rs.take ⟨xs, 0, 0⟩ 1).2 = kn at *
  have hB2 : Below W.heap.size W w2 := below_gr hB1 hg hbl
  replace hz : w2.heap[w.heap.size]? = some _ := heap_bl hB2 hz
  have hWp := hB2.size
  go_wp2_with fail
  have hB : Below W.heap.size W (w2.alloc (.cells #[.int .i64 kn, .int .u32 0, .string ⟨#[]⟩, .int .i64 0, .int .i64 0, .int .u32 0, .int .i64 0, .slice none 0 0] 25)) := below_al hB2 _
  have hZ : (w2.alloc (.cells #[.int .i64 kn, .int .u32 0, .string ⟨#[]⟩, .int .i64 0, .int .i64 0, .int .u32 0, .int .i64 0, .slice none 0 0] 25)).heap[w.heap.size]? = some _ := heap_al hz _
  generalize w2.alloc (.cells #[.int .i64 kn, .int .u32 0, .string ⟨#[]⟩, .int .i64 0, .int .i64 0, .int .u32 0, .int .i64 0, .slice none 0 0] 25) = w3 at *
  refine (fields_is _ 0 hkk _).mono ?_
  rintro e w' ⟨rfl, rfl⟩
  have hx' : (0 : Int) < (xs.length : Int) := by omega
  have d0 := cell_of hZ 0
  have d1 := cell_of hZ 1
  have d2 := cell_of hZ 2
  have d3 := cell_of hZ 3
  have d4 := cell_of hZ 4
  have d5 := cell_of hZ 5
  have d6 := cell_of hZ 6
  have d7 := cell_of hZ 7
  simp at d0 d1 d2 d3 d4 d5 d6 d7
  have g0 := frozen_of hZ 0
  have g1 := frozen_of hZ 1
  have g2 := frozen_of hZ 2
  have g3 := frozen_of hZ 3
  have g4 := frozen_of hZ 4
  have g5 := frozen_of hZ 5
  have g6 := frozen_of hZ 6
  have g7 := frozen_of hZ 7
  go_wp2
  clear d0 d1 d2 d3 d4 d5 d6 d7 g0 g1 g2 g3 g4 g5 g6 g7
  obtain ⟨hf, hf2, hf3⟩ := eight hZ (.int .i64 0) (.int .u32 0) (.string ⟨#[]⟩) (.int .i64 0) (.int .i64 0) (.int .u32 0) (.int .i64 0) (.slice none 0 0)
  generalize (World.setCell _ ⟨w.heap.size, 7, none⟩ (.slice none 0 0)) = wf at *
  have d0 := cell_of hf 0
  have d1 := cell_of hf 1
  have d2 := cell_of hf 2
  have d3 := cell_of hf 3
  have d4 := cell_of hf 4
  have d5 := cell_of hf 5
  have d6 := cell_of hf 6
  have d7 := cell_of hf 7
  simp at d0 d1 d2 d3 d4 d5 d6 d7
  obtain ⟨hE, hM⟩ := dec_none hx hk
  rw [hE, hM]
  exact bodyPost_ret (v := .tuple #[.agg #[.int .i64 0, .int .u32 0, .string ⟨#[]⟩, .int .i64 0, .int .i64 0, .int .u32 0, .int .i64 0, .slice none 0 0], .int .i64 210]) (by simp [results, Try.results15, go_sem, d0, d1, d2, d3, d4, d5, d6, d7]) rfl ⟨.slice none 0 0, rfl, Ob.nil _ _ _, hf2 (below_tr hB0 hB) (Nat.le_refl _)⟩

theorem decode_any (v : Value) (xs : List UInt8) (w : World) (F : Nat → Prop) (h : Bs w F v xs) (hl : xs.length ≤ 100000000) :
    Calls Try.prog 15 #[v] w fun e w' => ∃ vb, e = .returned (.tuple #[.agg ((decM xs).cells vb).toArray, .int .i64 (decE xs)]) ∧ Ob w' w.heap.size 5 vb (decM xs).bytes ∧ Below w.heap.size w w' := by
  by_cases hx : xs = []
  · exact decode_0 v xs w F h hl hx (by rw [hx]; decide)
  replace hx : 0 < xs.length := by cases xs <;> simp at hx ⊢
  by_cases h1 : kindOf xs = 1
  · exact decode_1 v xs w F h hl hx h1
  by_cases h2 : kindOf xs = 2
  · exact decode_2 v xs w F h hl hx h2
  by_cases h3 : kindOf xs = 3
  · exact decode_3 v xs w F h hl hx h3
  by_cases h4 : kindOf xs = 4
  · exact decode_4 v xs w F h hl hx h4
  by_cases h5 : kindOf xs = 5
  · exact decode_5 v xs w F h hl hx h5
  by_cases h6 : kindOf xs = 6
  · exact decode_6 v xs w F h hl hx h6
  by_cases h7 : kindOf xs = 7
  · exact decode_7 v xs w F h hl hx h7
  by_cases h8 : kindOf xs = 8
  · exact decode_8 v xs w F h hl hx h8
  exact decode_none v xs w F h hl hx (fbits_0 _ h1 h2 h3 h4 h5 h6 h7 h8)

theorem kind_any (m : Msg) (hok : m.ok) : m.kind = 1 ∨ m.kind = 2 ∨ m.kind = 3 ∨ m.kind = 4 ∨ m.kind = 5 ∨ m.kind = 6 ∨ m.kind = 7 ∨ m.kind = 8 := by
  have := hok.1; omega

theorem encode_good (m : Msg) (vb : Value) (w : World) (F : Nat → Prop) (h : Bs w F vb m.bytes) (hok : m.ok) (hn : m.number < 4294967296) (hu : m.sum < 4294967296) :
    Calls Try.prog 9 #[.agg (m.cells vb).toArray] w fun e w' => ∃ v, e = .returned (.tuple #[v, .int .i64 0]) ∧ Ob w' w.heap.size 5 v m.enc ∧ Below w.heap.size w w' := by
  rcases kind_any m hok with h1 | h1 | h1 | h1 | h1 | h1 | h1 | h1
  · exact encode_1 m vb w F h h1 hok hn hu
  · exact encode_2 m vb w F h h1 hok hn hu
  · exact encode_3 m vb w F h h1 hok hn hu
  · exact encode_4 m vb w F h h1 hok hn hu
  · exact encode_5 m vb w F h h1 hok hn hu
  · exact encode_6 m vb w F h h1 hok hn hu
  · exact encode_7 m vb w F h h1 hok hn hu
  · exact encode_8 m vb w F h h1 hok hn hu

set_option maxHeartbeats 1000000 in
theorem encode_bad (m : Msg) (vb : Value) (w : World) (F : Nat → Prop) (h : Bs w F vb m.bytes) (hl : m.name.length ≤ 1000000000) (hok : ¬ m.ok) :
    Calls Try.prog 9 #[.agg (m.cells vb).toArray] w fun e w' => e = .returned (.tuple #[.slice none 0 0, .int .i64 210]) ∧ Below w.heap.size w w' := by
  obtain ⟨kind, number, name, size, off, sum, code, bytes⟩ := m
  have hc := fun w => check_any ⟨kind, number, name, size, off, sum, code, bytes⟩ vb w
  rw [okErr, if_neg hok] at hc
  have hb := h
  obtain ⟨A, c, rfl, l1, l2, -, -⟩ := h.open_
  unfold maxLen at l2
  have HC := Lib.hid hc
  clear hc h hok
  unfold Msg.cells at HC ⊢
  dsimp only at HC hl hb ⊢
  go_enter Try.func9, Try.ntmps9
  go_wp2_with fail
  obtain ⟨hm, hB, hb1, hsz⟩ := box_one w (.cells #[.int .i64 kind, .int .u32 (number : Nat), .string ⟨name.toArray⟩, .int .i64 size, .int .i64 off, .int .u32 (sum : Nat), .int .i64 code, .slice A bytes.length c] 25) _ _ _ hb
  generalize w.alloc (.cells #[.int .i64 kind, .int .u32 (number : Nat), .string ⟨name.toArray⟩, .int .i64 size, .int .i64 off, .int .u32 (sum : Nat), .int .i64 code, .slice A bytes.length c] 25) = W at *
  refine (HC.out _ _ hb1 hl).mono ?_
  rintro e w1 ⟨rfl, hB1⟩
  clear hm hb1 HC
  go_wp2
  go_ret2
  exact ⟨rfl, below_tr hB hB1⟩

end Go.Proofs.Ytmcldnfemlaeiaa
