/- Layer 11's reference: the walk of its Decode. No condition beyond sizes. -/
import Derived.Test.YtmcldnfemlaeiaaPduQ
import Derived.Test.YtmcldnfemlaeiaaRef1
import Derived.Test.YtmcldnfemlaeiaaG2
namespace Go.Proofs.Ytmcldnfemlaeiaa
open Go.RowKit K L
set_option linter.unusedVariables false
set_option linter.unusedSimpArgs false

set_option maxRecDepth 100000 in
set_option maxHeartbeats 4000000 in
theorem rdec_0 (v : Value) (xs : List UInt8) (w : World) (F : Nat → Prop) (h : Bs w F v xs) (hx : xs.length = 0) :
    Calls Try.prog 16 #[v] w fun e w' => ∃ vb, e = .returned (.tuple #[.agg ((refOut xs).1.cells vb).toArray, .int .i64 (refOut xs).2]) ∧ (∃ F, Bs w' F vb (refOut xs).1.bytes) ∧ Below w.heap.size w w' := by
  have hr : refOut xs = (noMsg, 7) := by unfold refOut; rw [if_pos hx]
  have HR := Lib.hid hr
  obtain ⟨A, c, rfl, l1, l2, -, -⟩ := h.open_
  unfold maxLen at l2
  clear h hr
  have hd : ((xs.length : Int) == 0) = true := by rw [beq_iff_eq]; omega
  have hz : (w.alloc (.cells #[.int .i64 0, .int .u32 0, .string ⟨#[]⟩, .int .i64 0, .int .i64 0, .int .u32 0, .int .i64 0, .slice none 0 0] 25)).heap[w.heap.size]? = some (.cells #[.int .i64 0, .int .u32 0, .string ⟨#[]⟩, .int .i64 0, .int .i64 0, .int .u32 0, .int .i64 0, .slice none 0 0] 25) := heap_alloc_new _ _
  have HZ := Lib.hid hz
  have d0 := cell_of hz 0
  have d1 := cell_of hz 1
  have d2 := cell_of hz 2
  have d3 := cell_of hz 3
  have d4 := cell_of hz 4
  have d5 := cell_of hz 5
  have d6 := cell_of hz 6
  have d7 := cell_of hz 7
  simp at d0 d1 d2 d3 d4 d5 d6 d7
  have g0 := frozen_of hz 0
  have g1 := frozen_of hz 1
  have g2 := frozen_of hz 2
  have g3 := frozen_of hz 3
  have g4 := frozen_of hz 4
  have g5 := frozen_of hz 5
  have g6 := frozen_of hz 6
  have g7 := frozen_of hz 7
  clear hz
  go_enter Try.func16, Try.ntmps16
  go_wp2
  rw [HR.out]
  exact bodyPost_ret (v := .tuple #[.agg #[.int .i64 0, .int .u32 0, .string ⟨#[]⟩, .int .i64 0, .int .i64 0, .int .u32 0, .int .i64 0, .slice none 0 0], .int .i64 7]) (by simp [results, Try.results16, go_sem, d0, d1, d2, d3, d4, d5, d6, d7]) rfl ⟨.slice none 0 0, rfl, ⟨fun _ => True, Sl.nil _ _ _⟩, below_al (Below.refl _ _) _⟩

theorem G.st_skip {P : Program} {o : Oper} {a : Act} {w w' : World} {K : Act → World → Prop} {Q : Exit → Act → World → Prop} (h : (execOp a.eval o).run P w = .ok .skip w') (hk : K (a.put o.dst undef) w') : o.wp P a w K Q := by
  unfold Oper.wp; rw [h]; exact hk

theorem bs_cut {w : World} {F : Nat → Prop} {b o c : Nat} {xs : List UInt8} (h : Bs w F (.slice (some ⟨b, o, none⟩) xs.length c) xs) (p m : Nat) (hm : p + m ≤ xs.length) (hc : c ≠ p) : Bs w F (.slice (some ⟨b, o + p, none⟩) m (c - p)) ((xs.drop p).take m) := by
  have h1 := h.sub p m hm
  rw [if_neg hc] at h1
  have : (⟨b, o, none⟩ : Addr).add p = ⟨b, o + p, none⟩ := by unfold Addr.add; split <;> simp_all
  rw [Option.map_some, this] at h1
  exact h1
theorem bs_cut0 {w : World} {F : Nat → Prop} (b o : Nat) (hb : F b) : Bs w F (.slice (some ⟨b, o, none⟩) 0 0) [] :=
  ⟨by simp [bvs], some ⟨b, o, none⟩, 0, rfl, Nat.le_refl _, by simp [maxLen], (fun h => by cases h), fun h => absurd h (by simp)⟩
theorem num_take (xs : List UInt8) (p n : Nat) (h : p + n ≤ xs.length) : num ((xs.drop p).take n) < 256 ^ n := by
  have h1 := num_lt ((xs.drop p).take n)
  rwa [List.length_take_of_le (by rw [List.length_drop]; omega)] at h1

theorem bs_head {w : World} {F : Nat → Prop} {v : Value} {x : UInt8} {l : List UInt8} (h : Bs w F v (x :: l)) : ∃ b o c, v = .slice (some ⟨b, o, none⟩) (x :: l).length c ∧ (x :: l).length ≤ c ∧ c ≤ maxLen ∧ F b ∧ b < w.heap.size ∧ w.cell? ⟨b, o, none⟩ = some (.int .u8 (x.toNat : Int)) := by
  have hb := h
  obtain ⟨A, c, rfl, l1, l2, -, -⟩ := h.open_
  obtain ⟨b, o, rfl, h1, h2, h3⟩ := Sl.cells hb (by simp) (by decide)
  exact ⟨b, o, c, rfl, l1, l2, h1, h2, h3 0 _ rfl⟩

set_option maxRecDepth 100000 in
set_option maxHeartbeats 8000000 in
theorem rdec_1 (v : Value) (x : UInt8) (l : List UInt8) (w : World) (F : Nat → Prop) (h : Bs w F v (x :: l)) (hl : (x :: l).length ≤ 100000000) (hk : ¬ (1 ≤ (x.toNat : Int) ∧ (x.toNat : Int) ≤ 8)) :
    Calls Try.prog 16 #[v] w fun e w' => ∃ vb, e = .returned (.tuple #[.agg ((refOut (x :: l)).1.cells vb).toArray, .int .i64 (refOut (x :: l)).2]) ∧ (∃ F, Bs w' F vb (refOut (x :: l)).1.bytes) ∧ Below w.heap.size w w' := by
  have hr : refOut (x :: l) = (noMsg, 210) := by
    have h0 : ((x :: l)[0]?.getD 0 : UInt8) = x := rfl
    unfold refOut
    rw [h0, if_neg (by simp), if_pos hk]
  have HR := Lib.hid hr
  clear hr
  obtain ⟨b8, o8, c, rfl, l1, l2, -, hb8, c8⟩ := bs_head h
  replace l2 : c ≤ 9223372036854775807 := by simpa [maxLen] using l2
  have HB := Lib.hid h
  have hlen : 0 < (x :: l).length := by simp
  clear h
  generalize hxs : x :: l = xs at *
  have hx8 := x.toNat_lt
  have hd : ((xs.length : Int) == 0) = false := by rw [beq_eq_false_iff_ne]; omega
  have hz : (w.alloc (.cells #[.int .i64 0, .int .u32 0, .string ⟨#[]⟩, .int .i64 0, .int .i64 0, .int .u32 0, .int .i64 0, .slice none 0 0] 25)).heap[w.heap.size]? = some (.cells #[.int .i64 0, .int .u32 0, .string ⟨#[]⟩, .int .i64 0, .int .i64 0, .int .u32 0, .int .i64 0, .slice none 0 0] 25) := heap_alloc_new _ _
  have c8a := cell_al c8 (.cells #[.int .i64 0, .int .u32 0, .string ⟨#[]⟩, .int .i64 0, .int .i64 0, .int .u32 0, .int .i64 0, .slice none 0 0] 25)
  have hB0 : Below w.heap.size w (w.alloc (.cells #[.int .i64 0, .int .u32 0, .string ⟨#[]⟩, .int .i64 0, .int .i64 0, .int .u32 0, .int .i64 0, .slice none 0 0] 25)) := below_al (Below.refl _ _) _
  go_enter Try.func16, Try.ntmps16
  go_wp2_with fail
  refine (rfields_0 x.toNat (by omega) _).mono ?_
  rintro e w1 ⟨rfl, hB1⟩
  have hz1 := heap_bl hB1 hz
  have HB0 := Lib.hid (below_tr hB0 hB1)
  have c81 : w1.cell? ⟨b8, o8, none⟩ = some (.int .u8 (x.toNat : Int)) := (World.cell?_of_block (hB1.block b8 (by rw [World.size_alloc]; omega))).trans c8a
  have hsz1 := HB0.out.size
  have HZ := Lib.hid hz1
  have HBX := Lib.hid (HB.out.below HB0.out)
  have HBL := Lib.hid (HB.out.lt.belowB HB0.out)
  clear hz hB0 hB1 c8 c8a hxs HB
  have d0 := cell_of hz1 0
  have d1 := cell_of hz1 1
  have d2 := cell_of hz1 2
  have d3 := cell_of hz1 3
  have d4 := cell_of hz1 4
  have d5 := cell_of hz1 5
  have d6 := cell_of hz1 6
  have d7 := cell_of hz1 7
  simp at d0 d1 d2 d3 d4 d5 d6 d7
  have g0 := frozen_of hz1 0
  have g1 := frozen_of hz1 1
  have g2 := frozen_of hz1 2
  have g3 := frozen_of hz1 3
  have g4 := frozen_of hz1 4
  have g5 := frozen_of hz1 5
  have g6 := frozen_of hz1 6
  have g7 := frozen_of hz1 7
  clear hz1
  go_wp2
  clear d0 d1 d2 d3 d4 d5 d6 d7 g0 g1 g2 g3 g4 g5 g6 g7
  obtain ⟨hf, hf2, hf3⟩ := eight HZ.out (.int .i64 0) (.int .u32 0) (.string ⟨#[]⟩) (.int .i64 0) (.int .i64 0) (.int .u32 0) (.int .i64 0) (.slice none 0 0)
  generalize (World.setCell _ ⟨w.heap.size, 7, none⟩ (.slice none 0 0)) = wf at *
  have d0 := cell_of hf 0
  have d1 := cell_of hf 1
  have d2 := cell_of hf 2
  have d3 := cell_of hf 3
  have d4 := cell_of hf 4
  have d5 := cell_of hf 5
  have d6 := cell_of hf 6
  have d7 := cell_of hf 7
  simp at d0 d1 d2 d3 d4 d5 d6 d7
  rw [HR.out]
  exact bodyPost_ret (v := .tuple #[.agg #[.int .i64 0, .int .u32 0, .string ⟨#[]⟩, .int .i64 0, .int .i64 0, .int .u32 0, .int .i64 0, .slice none 0 0], .int .i64 210]) (by simp [results, Try.results16, go_sem, d0, d1, d2, d3, d4, d5, d6, d7]) rfl ⟨.slice none 0 0, rfl, ⟨fun _ => True, Sl.nil _ _ _⟩, hf2 (HB0.out) (Nat.le_refl _)⟩

set_option maxRecDepth 100000 in
set_option maxHeartbeats 8000000 in
theorem rdec_2 (v : Value) (x : UInt8) (l : List UInt8) (w : World) (F : Nat → Prop) (h : Bs w F v (x :: l)) (hl : (x :: l).length ≤ 100000000) (hk : 1 ≤ (x.toNat : Int) ∧ (x.toNat : Int) ≤ 8) (h5 : (x :: l).length < 5) :
    Calls Try.prog 16 #[v] w fun e w' => ∃ vb, e = .returned (.tuple #[.agg ((refOut (x :: l)).1.cells vb).toArray, .int .i64 (refOut (x :: l)).2]) ∧ (∃ F, Bs w' F vb (refOut (x :: l)).1.bytes) ∧ Below w.heap.size w w' := by
  have hr : refOut (x :: l) = (noMsg, 7) := by
    have h0 : ((x :: l)[0]?.getD 0 : UInt8) = x := rfl
    unfold refOut
    rw [h0, if_neg (by simp), if_neg (not_not_intro hk), if_pos h5]
  have HR := Lib.hid hr
  clear hr
  have hfn : (fstr x.toNat).length ≠ 0 := by unfold fstr; repeat' split
                                             all_goals first | (simp; done) | (exfalso; omega)
  have hF := rfields_any x.toNat hk
  generalize hfs : fstr (x.toNat : Int) = fs at *
  have hne := str_ne2 hfn
  have hne2 : fs.isEmpty = false := by cases fs <;> simp at hfn ⊢
  have HF := Lib.hid hF
  clear hF hfs hfn
  obtain ⟨b8, o8, c, rfl, l1, l2, -, hb8, c8⟩ := bs_head h
  replace l2 : c ≤ 9223372036854775807 := by simpa [maxLen] using l2
  have HB := Lib.hid h
  have hlen : 0 < (x :: l).length := by simp
  clear h
  generalize hxs : x :: l = xs at *
  have hx8 := x.toNat_lt
  have hd : ((xs.length : Int) == 0) = false := by rw [beq_eq_false_iff_ne]; omega
  have hz : (w.alloc (.cells #[.int .i64 0, .int .u32 0, .string ⟨#[]⟩, .int .i64 0, .int .i64 0, .int .u32 0, .int .i64 0, .slice none 0 0] 25)).heap[w.heap.size]? = some (.cells #[.int .i64 0, .int .u32 0, .string ⟨#[]⟩, .int .i64 0, .int .i64 0, .int .u32 0, .int .i64 0, .slice none 0 0] 25) := heap_alloc_new _ _
  have c8a := cell_al c8 (.cells #[.int .i64 0, .int .u32 0, .string ⟨#[]⟩, .int .i64 0, .int .i64 0, .int .u32 0, .int .i64 0, .slice none 0 0] 25)
  have hB0 : Below w.heap.size w (w.alloc (.cells #[.int .i64 0, .int .u32 0, .string ⟨#[]⟩, .int .i64 0, .int .i64 0, .int .u32 0, .int .i64 0, .slice none 0 0] 25)) := below_al (Below.refl _ _) _
  go_enter Try.func16, Try.ntmps16
  go_wp2_with fail
  refine (HF.out _).mono ?_
  rintro e w1 ⟨rfl, hB1⟩
  have hz1 := heap_bl hB1 hz
  have HB0 := Lib.hid (below_tr hB0 hB1)
  have c81 : w1.cell? ⟨b8, o8, none⟩ = some (.int .u8 (x.toNat : Int)) := (World.cell?_of_block (hB1.block b8 (by rw [World.size_alloc]; omega))).trans c8a
  have hsz1 := HB0.out.size
  have HZ := Lib.hid hz1
  have HBX := Lib.hid (HB.out.below HB0.out)
  have HBL := Lib.hid (HB.out.lt.belowB HB0.out)
  clear hz hB0 hB1 c8 c8a hxs HB
  have d0 := cell_of hz1 0
  have d1 := cell_of hz1 1
  have d2 := cell_of hz1 2
  have d3 := cell_of hz1 3
  have d4 := cell_of hz1 4
  have d5 := cell_of hz1 5
  have d6 := cell_of hz1 6
  have d7 := cell_of hz1 7
  simp at d0 d1 d2 d3 d4 d5 d6 d7
  have g0 := frozen_of hz1 0
  have g1 := frozen_of hz1 1
  have g2 := frozen_of hz1 2
  have g3 := frozen_of hz1 3
  have g4 := frozen_of hz1 4
  have g5 := frozen_of hz1 5
  have g6 := frozen_of hz1 6
  have g7 := frozen_of hz1 7
  clear hz1
  have hd5 : decide ((xs.length : Int) < 5) = true := by rw [decide_eq_true_eq]; omega
  go_wp2
  clear d0 d1 d2 d3 d4 d5 d6 d7 g0 g1 g2 g3 g4 g5 g6 g7
  obtain ⟨hf, hf2, hf3⟩ := eight HZ.out (.int .i64 0) (.int .u32 0) (.string ⟨#[]⟩) (.int .i64 0) (.int .i64 0) (.int .u32 0) (.int .i64 0) (.slice none 0 0)
  generalize (World.setCell _ ⟨w.heap.size, 7, none⟩ (.slice none 0 0)) = wf at *
  have d0 := cell_of hf 0
  have d1 := cell_of hf 1
  have d2 := cell_of hf 2
  have d3 := cell_of hf 3
  have d4 := cell_of hf 4
  have d5 := cell_of hf 5
  have d6 := cell_of hf 6
  have d7 := cell_of hf 7
  simp at d0 d1 d2 d3 d4 d5 d6 d7
  rw [HR.out]
  exact bodyPost_ret (v := .tuple #[.agg #[.int .i64 0, .int .u32 0, .string ⟨#[]⟩, .int .i64 0, .int .i64 0, .int .u32 0, .int .i64 0, .slice none 0 0], .int .i64 7]) (by simp [results, Try.results16, go_sem, d0, d1, d2, d3, d4, d5, d6, d7]) rfl ⟨.slice none 0 0, rfl, ⟨fun _ => True, Sl.nil _ _ _⟩, hf2 (HB0.out) (Nat.le_refl _)⟩

set_option maxRecDepth 100000 in
set_option maxHeartbeats 8000000 in
theorem rdec_3 (v : Value) (x : UInt8) (l : List UInt8) (w : World) (F : Nat → Prop) (h : Bs w F v (x :: l)) (hl : (x :: l).length ≤ 100000000) (hk : 1 ≤ (x.toNat : Int) ∧ (x.toNat : Int) ≤ 8) (h5 : 5 ≤ (x :: l).length) :
    Calls Try.prog 16 #[v] w fun e w' => ∃ vb, e = .returned (.tuple #[.agg ((refOut (x :: l)).1.cells vb).toArray, .int .i64 (refOut (x :: l)).2]) ∧ (∃ F, Bs w' F vb (refOut (x :: l)).1.bytes) ∧ Below w.heap.size w w' := by
  obtain ⟨OUT, hr⟩ : ∃ o, refOut (x :: l) = o := ⟨_, rfl⟩
  obtain ⟨nm, hnm⟩ : ∃ n, num (((x :: l).drop 1).take 4) = n := ⟨_, rfl⟩
  have hnl : nm < 4294967296 := by
    have h := num_lt (((x :: l).drop 1).take 4)
    rw [hnm] at h
    refine Nat.lt_of_lt_of_le h (Nat.le_trans (Nat.pow_le_pow_right (by decide) (List.length_take_le ..)) (by decide))
  have hr2 : OUT = match rrun (x :: l) (fstr x.toNat) (⟨x.toNat, nm, [], 0, 0, 0, 0, []⟩, 5) with
    | none => (noMsg, 7)
    | some s => if s.2 < (x :: l).length ∨ ¬ s.1.ok then (noMsg, 210) else (s.1, 0) := by
    have h0 : ((x :: l)[0]?.getD 0 : UInt8) = x := rfl
    rw [← hr, ← hnm]
    unfold refOut
    rw [h0, if_neg (by simp), if_neg (not_not_intro hk), if_neg (by omega)]
    rfl
  rw [hr]
  have hfn : (fstr x.toNat).length ≠ 0 := by unfold fstr; repeat' split
                                             all_goals first | (simp; done) | (exfalso; omega)
  have hlet := fstr_letters x.toNat
  have hfl := fstr_len x.toNat
  have hF := rfields_any x.toNat hk
  generalize hfs : fstr (x.toNat : Int) = fs at *
  have hne := str_ne2 hfn
  have hne2 : fs.isEmpty = false := by cases fs <;> simp at hfn ⊢
  have HF := Lib.hid hF
  have HLET := Lib.hid hlet
  have HR2 := Lib.hid hr2
  have HNM := Lib.hid hnm
  clear hF hfs hfn hlet hr hr2 hnm
  obtain ⟨b8, o8, c, rfl, l1, l2, -, hb8, c8⟩ := bs_head h
  replace l2 : c ≤ 9223372036854775807 := by simpa [maxLen] using l2
  have HB := Lib.hid h
  have hlen : 0 < (x :: l).length := by simp
  clear h
  generalize hxs : x :: l = xs at *
  have hx8 := x.toNat_lt
  have hd : ((xs.length : Int) == 0) = false := by rw [beq_eq_false_iff_ne]; omega
  have hz : (w.alloc (.cells #[.int .i64 0, .int .u32 0, .string ⟨#[]⟩, .int .i64 0, .int .i64 0, .int .u32 0, .int .i64 0, .slice none 0 0] 25)).heap[w.heap.size]? = some (.cells #[.int .i64 0, .int .u32 0, .string ⟨#[]⟩, .int .i64 0, .int .i64 0, .int .u32 0, .int .i64 0, .slice none 0 0] 25) := heap_alloc_new _ _
  have c8a := cell_al c8 (.cells #[.int .i64 0, .int .u32 0, .string ⟨#[]⟩, .int .i64 0, .int .i64 0, .int .u32 0, .int .i64 0, .slice none 0 0] 25)
  have hB0 : Below w.heap.size w (w.alloc (.cells #[.int .i64 0, .int .u32 0, .string ⟨#[]⟩, .int .i64 0, .int .i64 0, .int .u32 0, .int .i64 0, .slice none 0 0] 25)) := below_al (Below.refl _ _) _
  go_enter Try.func16, Try.ntmps16
  go_wp2_with fail
  refine (HF.out _).mono ?_
  rintro e w1 ⟨rfl, hB1⟩
  have hz1 := heap_bl hB1 hz
  have HB0 := Lib.hid (below_tr hB0 hB1)
  have c81 : w1.cell? ⟨b8, o8, none⟩ = some (.int .u8 (x.toNat : Int)) := (World.cell?_of_block (hB1.block b8 (by rw [World.size_alloc]; omega))).trans c8a
  have hsz1 := HB0.out.size
  have HZ := Lib.hid hz1
  have HBX := Lib.hid (HB.out.below HB0.out)
  have HBL := Lib.hid (HB.out.lt.belowB HB0.out)
  clear hz hB0 hB1 c8 c8a hxs HB
  have d0 := cell_of hz1 0
  have d1 := cell_of hz1 1
  have d2 := cell_of hz1 2
  have d3 := cell_of hz1 3
  have d4 := cell_of hz1 4
  have d5 := cell_of hz1 5
  have d6 := cell_of hz1 6
  have d7 := cell_of hz1 7
  simp at d0 d1 d2 d3 d4 d5 d6 d7
  have g0 := frozen_of hz1 0
  have g1 := frozen_of hz1 1
  have g2 := frozen_of hz1 2
  have g3 := frozen_of hz1 3
  have g4 := frozen_of hz1 4
  have g5 := frozen_of hz1 5
  have g6 := frozen_of hz1 6
  have g7 := frozen_of hz1 7
  clear hz1
  have hd5 : decide ((xs.length : Int) < 5) = false := by rw [decide_eq_false_iff_not]; omega
  go_wp2
  clear d0 d1 d2 d3 d4 d5 d6 d7 g0 g1 g2 g3 g4 g5 g6 g7
  have hwx : IntKind.i64.wrap (x.toNat : Int) = (x.toNat : Int) := by simp [IntKind.wrap, IntKind.bits, IntKind.signed]; omega
  have hwn : IntKind.u32.wrap (nm : Int) = (nm : Int) := by simp [IntKind.wrap, IntKind.bits, IntKind.signed]; omega
  have hsub := HBX.out.sub 1 4 (by omega)
  rw [if_neg (by omega)] at hsub
  have hc5 : (5 : Int) ≤ (c : Int) := by omega
  have hc1 : ¬ c = 1 := by omega
  have HSUB := Lib.hid hsub
  clear hsub
  have hBe : G.Bears [⟨fun (_ : World) (v : Value) => v = .slice (some ⟨b8, o8, none⟩) xs.length c, none⟩, ⟨fun (_ : World) (v : Value) => v = .pointer (some ⟨b8, o8, none⟩), none⟩, ⟨fun (_ : World) (v : Value) => v = .int .u8 (x.toNat : Int), none⟩, ⟨fun (_ : World) (v : Value) => v = .int .i64 (x.toNat : Int), none⟩, ⟨fun (_ : World) (v : Value) => v = .slice (some ⟨b8, o8, none⟩) xs.length c, none⟩, ⟨fun (_ : World) (v : Value) => v = .slice (some ⟨b8, o8 + 1, none⟩) 4 (c - 1), none⟩, ⟨fun (_ : World) (v : Value) => v = .int .u64 (nm : Nat), none⟩, ⟨fun (_ : World) (v : Value) => v = .int .u32 (nm : Nat), none⟩, ⟨fun (_ : World) (v : Value) => v = .agg #[.int .i64 x.toNat, .int .u32 (nm : Nat), .string ⟨#[]⟩, .int .i64 0, .int .i64 0, .int .u32 0, .int .i64 0, .slice none 0 0], none⟩, ⟨fun (_ : World) (v : Value) => v = .pointer (some ⟨w1.heap.size, 0, none⟩), none⟩, ⟨fun _ _ => True, none⟩] := ⟨fun w w' v h hb => h, fun w w' v h hb => h, fun w w' v h hb => h, fun w w' v h hb => h, fun w w' v h hb => h, fun w w' v h hb => h, fun w w' v h hb => h, fun w w' v h hb => h, fun w w' v h hb => h, fun w w' v h hb => h, fun w w' v h hb => by first | trivial | exact G.ob_fresh h hb | exact G.keep_bs h hb, trivial⟩
  refine G.region_two (by kernel_rfl) (by kernel_rfl) (fun L wq => Below w1.heap.size w1 wq ∧ (L 10 = true → wq.heap[w1.heap.size]? = some (.cells #[.int .i64 x.toNat, .int .u32 (nm : Nat), .string ⟨#[]⟩, .int .i64 0, .int .i64 0, .int .u32 0, .int .i64 0, .slice none 0 0] 25 (0, 0))) ∧ (L 10 = false → L 9 = true → wq = w1.drew.alloc (.cells #[.int .i64 0, .int .u32 0, .string ⟨#[]⟩, .int .i64 0, .int .i64 0, .int .u32 0, .int .i64 0, .slice none 0 0] 25)) ∧ (L 9 = false → wq = w1.drew)) (G.of2 [⟨fun (_ : World) (v : Value) => v = .slice (some ⟨b8, o8, none⟩) xs.length c, none⟩, ⟨fun (_ : World) (v : Value) => v = .pointer (some ⟨b8, o8, none⟩), none⟩, ⟨fun (_ : World) (v : Value) => v = .int .u8 (x.toNat : Int), none⟩, ⟨fun (_ : World) (v : Value) => v = .int .i64 (x.toNat : Int), none⟩, ⟨fun (_ : World) (v : Value) => v = .slice (some ⟨b8, o8, none⟩) xs.length c, none⟩, ⟨fun (_ : World) (v : Value) => v = .slice (some ⟨b8, o8 + 1, none⟩) 4 (c - 1), none⟩, ⟨fun (_ : World) (v : Value) => v = .int .u64 (nm : Nat), none⟩, ⟨fun (_ : World) (v : Value) => v = .int .u32 (nm : Nat), none⟩, ⟨fun (_ : World) (v : Value) => v = .agg #[.int .i64 x.toNat, .int .u32 (nm : Nat), .string ⟨#[]⟩, .int .i64 0, .int .i64 0, .int .u32 0, .int .i64 0, .slice none 0 0], none⟩, ⟨fun (_ : World) (v : Value) => v = .pointer (some ⟨w1.heap.size, 0, none⟩), none⟩, ⟨fun _ _ => True, none⟩]) (fun L hL => ⟨(Below.refl _ _).drew, fun h => absurd h (by rw [hL 10 (by decide)]; decide), fun _ h => absurd h (by rw [hL 9 (by decide)]; decide), fun _ => rfl⟩) ?_ (G.each_ops ?_) ?_
  · intro i o hi hd L w v
    have hlt := (Array.getElem?_eq_some_iff.1 hi).1
    rcases i with _ | _ | _ | _ | _ | _ | _ | _ | _ | _ | _ | i
    all_goals first | trivial | (exfalso; revert hd; rw [← Option.some.inj hi]; decide) | (exfalso; revert hlt; simp; done) | (exfalso; simp at hlt; omega)
  · refine ⟨?_, ?_, ?_, ?_, ?_, ?_, ?_, ?_, ?_, ?_, ?_, trivial⟩
    all_goals intro L a wq hLi hd hcl hU hI hS hp
    all_goals (have c8 : wq.cell? ⟨b8, o8, none⟩ = some (.int .u8 (x.toNat : Int)) := (World.cell?_of_block (hI.1.block b8 (by omega))).trans c81)
    · refine G.wanted_yes (G.wanted_plain rfl) ?_
      have e0 : a.tmps[0]?.getD undef = .slice (some ⟨b8, o8, none⟩) xs.length c := hS.at_ 0 rfl
      exact G.st_val (v := .slice (some ⟨b8, o8, none⟩) xs.length c) (w' := wq) (by simp [execOp, go_sem, e0, c8, hwx, hwn] <;> omega) ⟨_, rfl, (by simpa [G.more] using hI), rfl, G.of2_own ⟨fun hL => absurd hL (by rw [hLi]; decide), fun _ u h => h, fun _ u h => h, fun _ u h => h, fun _ u h => h, fun _ u h => h, fun _ u h => h, fun _ u h => h, fun _ u h => h, fun _ u h => h, fun _ u h => h, trivial⟩⟩
    · refine G.wanted_yes (G.wanted_plain rfl) ?_
      have e26 : a.tmps[26]?.getD undef = .slice (some ⟨b8, o8, none⟩) xs.length c := hp 0 _ rfl (hd ⟨0, .data⟩ (by simp) rfl)
      exact G.st_val (v := .pointer (some ⟨b8, o8, none⟩)) (w' := wq) (by simp [execOp, go_sem, e26]; intro hxe; exact absurd hlen (by simp [hxe])) ⟨_, rfl, (by simpa [G.more] using hI), rfl, G.of2_own ⟨fun _ u h => h, fun hL => absurd hL (by rw [hLi]; decide), fun _ u h => h, fun _ u h => h, fun _ u h => h, fun _ u h => h, fun _ u h => h, fun _ u h => h, fun _ u h => h, fun _ u h => h, fun _ u h => h, trivial⟩⟩
    · refine G.wanted_yes (G.wanted_plain rfl) ?_
      have e27 : a.tmps[27]?.getD undef = .pointer (some ⟨b8, o8, none⟩) := hp 1 _ rfl (hd ⟨1, .data⟩ (by simp) rfl)
      exact G.st_val (v := .int .u8 (x.toNat : Int)) (w' := wq) (by simp [execOp, go_sem, e27, c8, hwx, hwn] <;> omega) ⟨_, rfl, (by simpa [G.more] using hI), rfl, G.of2_own ⟨fun _ u h => h, fun _ u h => h, fun hL => absurd hL (by rw [hLi]; decide), fun _ u h => h, fun _ u h => h, fun _ u h => h, fun _ u h => h, fun _ u h => h, fun _ u h => h, fun _ u h => h, fun _ u h => h, trivial⟩⟩
    · refine G.wanted_yes (G.wanted_plain rfl) ?_
      have e28 : a.tmps[28]?.getD undef = .int .u8 (x.toNat : Int) := hp 2 _ rfl (hd ⟨2, .data⟩ (by simp) rfl)
      exact G.st_val (v := .int .i64 (x.toNat : Int)) (w' := wq) (by simp [execOp, go_sem, e28, c8, hwx, hwn] <;> omega) ⟨_, rfl, (by simpa [G.more] using hI), rfl, G.of2_own ⟨fun _ u h => h, fun _ u h => h, fun _ u h => h, fun hL => absurd hL (by rw [hLi]; decide), fun _ u h => h, fun _ u h => h, fun _ u h => h, fun _ u h => h, fun _ u h => h, fun _ u h => h, fun _ u h => h, trivial⟩⟩
    · refine G.wanted_yes (G.wanted_plain rfl) ?_
      have e0 : a.tmps[0]?.getD undef = .slice (some ⟨b8, o8, none⟩) xs.length c := hS.at_ 0 rfl
      exact G.st_val (v := .slice (some ⟨b8, o8, none⟩) xs.length c) (w' := wq) (by simp [execOp, go_sem, e0, c8, hwx, hwn] <;> omega) ⟨_, rfl, (by simpa [G.more] using hI), rfl, G.of2_own ⟨fun _ u h => h, fun _ u h => h, fun _ u h => h, fun _ u h => h, fun hL => absurd hL (by rw [hLi]; decide), fun _ u h => h, fun _ u h => h, fun _ u h => h, fun _ u h => h, fun _ u h => h, fun _ u h => h, trivial⟩⟩
    · refine G.wanted_yes (G.wanted_plain rfl) ?_
      have e30 : a.tmps[30]?.getD undef = .slice (some ⟨b8, o8, none⟩) xs.length c := hp 4 _ rfl (hd ⟨4, .data⟩ (by simp) rfl)
      exact G.st_val (v := .slice (some ⟨b8, o8 + 1, none⟩) 4 (c - 1)) (w' := wq) (by simp [execOp, go_sem, e30, hc5, hc1, Result.andThen]) ⟨_, rfl, (by simpa [G.more] using hI), rfl, G.of2_own ⟨fun _ u h => h, fun _ u h => h, fun _ u h => h, fun _ u h => h, fun _ u h => h, fun hL => absurd hL (by rw [hLi]; decide), fun _ u h => h, fun _ u h => h, fun _ u h => h, fun _ u h => h, fun _ u h => h, trivial⟩⟩
    · refine G.wanted_yes (G.wanted_plain rfl) ?_
      have e31 : a.tmps[31]?.getD undef = .slice (some ⟨b8, o8 + 1, none⟩) 4 (c - 1) := hp 5 _ rfl (hd ⟨5, .data⟩ (by simp) rfl)
      exact G.st_call (f := 36) (args := #[.slice (some ⟨b8, o8 + 1, none⟩) 4 (c - 1)]) (by simp [execOp, go_sem, e31]) ((refnum_any _ _ wq _ (HSUB.out.below hI.1) (by simp; omega)).mono fun e w' ⟨he, hw⟩ => by subst hw; rw [HNM.out] at he; exact ⟨_, he, _, rfl, (by simpa [G.more] using hI), rfl, G.of2_own ⟨fun _ u h => h, fun _ u h => h, fun _ u h => h, fun _ u h => h, fun _ u h => h, fun _ u h => h, fun hL => absurd hL (by rw [hLi]; decide), fun _ u h => h, fun _ u h => h, fun _ u h => h, fun _ u h => h, trivial⟩⟩)
    · refine G.wanted_yes (G.wanted_plain rfl) ?_
      have e32 : a.tmps[32]?.getD undef = .int .u64 (nm : Nat) := hp 6 _ rfl (hd ⟨6, .data⟩ (by simp) rfl)
      exact G.st_val (v := .int .u32 (nm : Nat)) (w' := wq) (by simp [execOp, go_sem, e32, c8, hwx, hwn] <;> omega) ⟨_, rfl, (by simpa [G.more] using hI), rfl, G.of2_own ⟨fun _ u h => h, fun _ u h => h, fun _ u h => h, fun _ u h => h, fun _ u h => h, fun _ u h => h, fun _ u h => h, fun hL => absurd hL (by rw [hLi]; decide), fun _ u h => h, fun _ u h => h, fun _ u h => h, trivial⟩⟩
    · refine G.wanted_yes (G.wanted_plain rfl) ?_
      have e29 : a.tmps[29]?.getD undef = .int .i64 (x.toNat : Int) := hp 3 _ rfl (hd ⟨3, .data⟩ (by simp) rfl)
      have e33 : a.tmps[33]?.getD undef = .int .u32 (nm : Nat) := hp 7 _ rfl (hd ⟨7, .data⟩ (by simp) rfl)
      exact G.st_val (v := .agg #[.int .i64 x.toNat, .int .u32 (nm : Nat), .string ⟨#[]⟩, .int .i64 0, .int .i64 0, .int .u32 0, .int .i64 0, .slice none 0 0]) (w' := wq) (by simp [execOp, go_sem, e29, e33, c8, hwx, hwn] <;> omega) ⟨_, rfl, (by simpa [G.more] using hI), rfl, G.of2_own ⟨fun _ u h => h, fun _ u h => h, fun _ u h => h, fun _ u h => h, fun _ u h => h, fun _ u h => h, fun _ u h => h, fun _ u h => h, fun hL => absurd hL (by rw [hLi]; decide), fun _ u h => h, fun _ u h => h, trivial⟩⟩
    · refine G.wanted_yes (G.wanted_plain rfl) ?_
      have h0 := hI.2.2.2 hLi; subst h0; exact G.st_val (v := .pointer (some ⟨w1.heap.size, 0, none⟩)) (w' := w1.drew.alloc (.cells #[.int .i64 0, .int .u32 0, .string ⟨#[]⟩, .int .i64 0, .int .i64 0, .int .u32 0, .int .i64 0, .slice none 0 0] 25)) (by simp [execOp, go_sem]) ⟨_, rfl, ⟨(Below.refl _ _).drew.alloc (Nat.le_refl _) _, fun h10 => absurd (hcl 10 _ rfl (by simpa [G.more] using h10) ⟨9, .data⟩ (by simp) rfl) (by rw [hLi]; decide), fun _ _ => rfl, fun h => absurd h (by simp [G.more])⟩, rfl, G.of2_own ⟨fun _ u h => h, fun _ u h => h, fun _ u h => h, fun _ u h => h, fun _ u h => h, fun _ u h => h, fun _ u h => h, fun _ u h => h, fun _ u h => h, fun hL => absurd hL (by rw [hLi]; decide), fun _ u h => h, trivial⟩⟩
    · refine G.wanted_yes (G.wanted_plain rfl) ?_
      have e5 : a.tmps[5]?.getD undef = .pointer (some ⟨w1.heap.size, 0, none⟩) := hp 9 _ rfl (hd ⟨9, .data⟩ (by simp) rfl)
      have e34 : a.tmps[34]?.getD undef = .agg #[.int .i64 x.toNat, .int .u32 (nm : Nat), .string ⟨#[]⟩, .int .i64 0, .int .i64 0, .int .u32 0, .int .i64 0, .slice none 0 0] := hp 8 _ rfl (hd ⟨8, .data⟩ (by simp) rfl)
      have h9 : L 9 = true := hd ⟨9, .data⟩ (by simp) rfl; have h0 := hI.2.2.1 hLi h9; subst h0; have hz9 : (w1.drew.alloc (.cells #[.int .i64 0, .int .u32 0, .string ⟨#[]⟩, .int .i64 0, .int .i64 0, .int .u32 0, .int .i64 0, .slice none 0 0] 25)).heap[w1.heap.size]? = some _ := heap_alloc_new _ _; obtain ⟨z1, z2, z3⟩ := eight hz9 (.int .i64 x.toNat) (.int .u32 (nm : Nat)) (.string ⟨#[]⟩) (.int .i64 0) (.int .i64 0) (.int .u32 0) (.int .i64 0) (.slice none 0 0); refine G.st_skip (w' := (((((((((w1.drew.alloc (.cells #[.int .i64 0, .int .u32 0, .string ⟨#[]⟩, .int .i64 0, .int .i64 0, .int .u32 0, .int .i64 0, .slice none 0 0] 25)).setCell ⟨w1.heap.size, 0, none⟩ (.int .i64 x.toNat)).setCell ⟨w1.heap.size, 1, none⟩ (.int .u32 (nm : Nat))).setCell ⟨w1.heap.size, 2, none⟩ (.string ⟨#[]⟩)).setCell ⟨w1.heap.size, 3, none⟩ (.int .i64 0)).setCell ⟨w1.heap.size, 4, none⟩ (.int .i64 0)).setCell ⟨w1.heap.size, 5, none⟩ (.int .u32 0)).setCell ⟨w1.heap.size, 6, none⟩ (.int .i64 0)).setCell ⟨w1.heap.size, 7, none⟩ (.slice none 0 0))) (by simp [execOp, go_sem, e5, e34]) ⟨undef, rfl, ⟨z2 ((Below.refl _ _).drew.alloc (Nat.le_refl _) _) (Nat.le_refl _), fun _ => z1, fun h => absurd h (by simp [G.more]), fun h => absurd h (by simp [G.more, h9])⟩, trivial, G.of2_own ⟨fun _ u h => h, fun _ u h => h, fun _ u h => h, fun _ u h => h, fun _ u h => h, fun _ u h => h, fun _ u h => h, fun _ u h => h, fun _ u h => h, fun _ u h => h, fun hL => absurd hL (by rw [hLi]; decide), trivial⟩⟩
  · intro L a wq hL hI hS hp
    have e26 : G.slot a (some 26) = .slice (some ⟨b8, o8, none⟩) xs.length c := hp 0 _ rfl
    have e27 : G.slot a (some 27) = .pointer (some ⟨b8, o8, none⟩) := hp 1 _ rfl
    have e28 : G.slot a (some 28) = .int .u8 (x.toNat : Int) := hp 2 _ rfl
    have e29 : G.slot a (some 29) = .int .i64 (x.toNat : Int) := hp 3 _ rfl
    have e30 : G.slot a (some 30) = .slice (some ⟨b8, o8, none⟩) xs.length c := hp 4 _ rfl
    have e31 : G.slot a (some 31) = .slice (some ⟨b8, o8 + 1, none⟩) 4 (c - 1) := hp 5 _ rfl
    have e32 : G.slot a (some 32) = .int .u64 (nm : Nat) := hp 6 _ rfl
    have e33 : G.slot a (some 33) = .int .u32 (nm : Nat) := hp 7 _ rfl
    have e34 : G.slot a (some 34) = .agg #[.int .i64 x.toNat, .int .u32 (nm : Nat), .string ⟨#[]⟩, .int .i64 0, .int .i64 0, .int .u32 0, .int .i64 0, .slice none 0 0] := hp 8 _ rfl
    have e5 : G.slot a (some 5) = .pointer (some ⟨w1.heap.size, 0, none⟩) := hp 9 _ rfl
    have ha := G.act_of hS
    simp only [List.foldl_cons, List.foldl_nil, Act.put, List.setIfInBounds_toArray, List.set_cons_succ, List.set_cons_zero, e26, e27, e28, e29, e30, e31, e32, e33, e34, e5] at ha
    clear hp hS hBe e26 e27 e28 e29 e30 e31 e32 e33 e34 e5
    subst ha
    have hB2 := hI.1
    have hX := hI.2.1 (hL 10 (by decide))
    have hbx := HBL.out
    have HBW := Lib.hid hbx
    have hS0 : (⟨x.toNat, nm, [], 0, 0, 0, 0, []⟩ : Msg) = ⟨x.toNat, nm, [], 0, 0, 0, 0, []⟩ := rfl
    generalize hs0 : ((⟨x.toNat, nm, [], 0, 0, 0, 0, []⟩ : Msg), 5) = s0 at HR2
    clear hI hL hS0 HBX HSUB HNM
    go_wp2
    go_loopw [6, 7, 8, 9] (fun at_ i _ _ wr => ∃ (k p : Nat) (m : Msg) (vb : Value), k ≤ fs.length ∧ i = .int .i64 k ∧ at_ = .int .i64 p ∧ p ≤ xs.length ∧ rrun xs (fs.take k) s0 = some (m, p) ∧ Bs w1 (· < w.heap.size) vb m.bytes ∧ m.name.length ≤ xs.length ∧ wr.heap[w1.heap.size]? = some (.cells (m.cells vb).toArray 25 (0, 0)) ∧ Below w1.heap.size w1 wr) (fun _ i _ _ _ => fs.length - (intOf i).toNat)
    case atStart => exact ⟨0, 5, ⟨x.toNat, nm, [], 0, 0, 0, 0, []⟩, .slice none 0 0, Nat.zero_le _, rfl, rfl, h5, by rw [← hs0]; rfl, Sl.nil _ _ _, Nat.zero_le _, hX, hB2⟩
    case round =>
      clear hs0 hX hB2
      obtain ⟨k, p, m, vb, hk', rfl, rfl, hp, hrun, hbs, hnam, hX, hB⟩ := hrel
      have HZr := Lib.hid (heap_bl hB HZ.out)
      have HX := Lib.hid hX
      have HBr := Lib.hid hB
      have hszr := hB.size
      have HVB := Lib.hid hbs
      clear hX hB hbs HZ
      by_cases hlt : k < fs.length
      · have hsn : rrun xs (fs.take (k + 1)) s0 = rstep xs fs[k] (m, p) := by rw [take_snoc fs k hlt, rrun_snoc, hrun]; rfl
        have hcc := HLET.out fs[k] (List.getElem_mem hlt)
        obtain ⟨q, hq⟩ : ∃ q, fs[k] = q := ⟨_, rfl⟩
        rw [hq] at hsn hcc
        have hq1 : ((⟨fs.toArray⟩ : ByteArray)[k]'(by simpa [ByteArray.size] using hlt)) = q := hq
        clear hq hrun HLET
        have HSN := Lib.hid hsn
        clear hsn
        have hdead : rrun xs (fs.take (k + 1)) s0 = none → OUT = (noMsg, 7) := fun h => by rw [HR2.out, rrun_dead h]
        have HDEAD := Lib.hid hdead
        clear hdead HR2
        obtain ⟨kind, number, name, size, off, sum, code, bytes⟩ := m
        have hXc : wr.heap[w1.heap.size]? = some (.cells #[.int .i64 kind, .int .u32 (number : Nat), .string ⟨name.toArray⟩, .int .i64 size, .int .i64 off, .int .u32 (sum : Nat), .int .i64 code, vb] 25 (0, 0)) := HX.out
        clear HX
        have HX := Lib.hid hXc
        have c0 := cell_of hXc 0
        have c1 := cell_of hXc 1
        have c2 := cell_of hXc 2
        have c3 := cell_of hXc 3
        have c4 := cell_of hXc 4
        have c5 := cell_of hXc 5
        have c6 := cell_of hXc 6
        have c7 := cell_of hXc 7
        simp at c0 c1 c2 c3 c4 c5 c6 c7
        have f0 := frozen_of hXc 0
        have f1 := frozen_of hXc 1
        have f2 := frozen_of hXc 2
        have f3 := frozen_of hXc 3
        have f4 := frozen_of hXc 4
        have f5 := frozen_of hXc 5
        have f6 := frozen_of hXc 6
        have f7 := frozen_of hXc 7
        have hZc := HZr.out
        have d0 := cell_of hZc 0
        have d1 := cell_of hZc 1
        have d2 := cell_of hZc 2
        have d3 := cell_of hZc 3
        have d4 := cell_of hZc 4
        have d5 := cell_of hZc 5
        have d6 := cell_of hZc 6
        have d7 := cell_of hZc 7
        simp at d0 d1 d2 d3 d4 d5 d6 d7
        have g0 := frozen_of hZc 0
        have g1 := frozen_of hZc 1
        have g2 := frozen_of hZc 2
        have g3 := frozen_of hZc 3
        have g4 := frozen_of hZc 4
        have g5 := frozen_of hZc 5
        have g6 := frozen_of hZc 6
        have g7 := frozen_of hZc 7
        dsimp only at hnam
        clear hXc hZc
        rcases hcc with rfl | rfl | rfl | rfl | rfl | rfl
        · by_cases hs : xs.length - p < 1
          · have hd1 : decide ((xs.length : Int) - (p : Int) < 1) = true := by rw [decide_eq_true_eq]; omega
            have hR := HDEAD.out (by rw [HSN.out]; rw [rstep_n, if_pos hs])
            have HR := Lib.hid hR
            have HZ := HZr
            clear hR
            go_wp2
            clear d0 d1 d2 d3 d4 d5 d6 d7 g0 g1 g2 g3 g4 g5 g6 g7
            obtain ⟨hf, hf2, hf3⟩ := eight HZ.out (.int .i64 0) (.int .u32 0) (.string ⟨#[]⟩) (.int .i64 0) (.int .i64 0) (.int .u32 0) (.int .i64 0) (.slice none 0 0)
            generalize (World.setCell _ ⟨w.heap.size, 7, none⟩ (.slice none 0 0)) = wf at *
            have d0 := cell_of hf 0
            have d1 := cell_of hf 1
            have d2 := cell_of hf 2
            have d3 := cell_of hf 3
            have d4 := cell_of hf 4
            have d5 := cell_of hf 5
            have d6 := cell_of hf 6
            have d7 := cell_of hf 7
            simp at d0 d1 d2 d3 d4 d5 d6 d7
            rw [HR.out]
            exact bodyPost_ret (v := .tuple #[.agg #[.int .i64 0, .int .u32 0, .string ⟨#[]⟩, .int .i64 0, .int .i64 0, .int .u32 0, .int .i64 0, .slice none 0 0], .int .i64 7]) (by simp [results, Try.results16, go_sem, d0, d1, d2, d3, d4, d5, d6, d7]) rfl ⟨.slice none 0 0, rfl, ⟨fun _ => True, Sl.nil _ _ _⟩, hf2 (below_tr HB0.out HBr.out) (Nat.le_refl _)⟩
          have hd1 : decide ((xs.length : Int) - (p : Int) < 1) = false := by rw [decide_eq_false_iff_not]; omega
          have hsub := bs_cut HBW.out p 1 (by omega) (by omega)
          have HSUB := Lib.hid hsub
          have hxl := num_take xs p 1 (by omega)
          obtain ⟨z, hz⟩ : ∃ z, num ((xs.drop p).take 1) = z := ⟨_, rfl⟩
          have hsn2 := HSN.out
          rw [rstep_n, if_neg hs, hz] at hsn2
          have HSN2 := Lib.hid hsn2
          rw [hz] at hxl
          have hz' := Lib.hid hz
          clear hsub hsn2 hz HSN
          have hw1 : IntKind.i64.wrap (z : Int) = (z : Int) := by simp [IntKind.wrap, IntKind.bits, IntKind.signed]; omega
          go_wp2_with fail
          refine (refnum_any _ _ _ _ (HSUB.out.belowB (HBr.out.mono HB0.out.size)) (by simp; omega)).mono ?_
          rintro e w' ⟨rfl, rfl⟩
          rw [hz'.out]
          clear hz'
          by_cases hs2 : xs.length - (p + 1) < z
          · have hd2 : decide ((xs.length : Int) - ((p : Int) + 1) < (z : Int)) = true := by rw [decide_eq_true_eq]; omega
            have HSN := HSN2
            have hR := HDEAD.out (by rw [HSN.out]; rw [if_pos hs2])
            have HR := Lib.hid hR
            have HZ := HZr
            clear hR
            go_wp2
            clear d0 d1 d2 d3 d4 d5 d6 d7 g0 g1 g2 g3 g4 g5 g6 g7
            obtain ⟨hf, hf2, hf3⟩ := eight HZ.out (.int .i64 0) (.int .u32 0) (.string ⟨#[]⟩) (.int .i64 0) (.int .i64 0) (.int .u32 0) (.int .i64 0) (.slice none 0 0)
            generalize (World.setCell _ ⟨w.heap.size, 7, none⟩ (.slice none 0 0)) = wf at *
            have d0 := cell_of hf 0
            have d1 := cell_of hf 1
            have d2 := cell_of hf 2
            have d3 := cell_of hf 3
            have d4 := cell_of hf 4
            have d5 := cell_of hf 5
            have d6 := cell_of hf 6
            have d7 := cell_of hf 7
            simp at d0 d1 d2 d3 d4 d5 d6 d7
            rw [HR.out]
            exact bodyPost_ret (v := .tuple #[.agg #[.int .i64 0, .int .u32 0, .string ⟨#[]⟩, .int .i64 0, .int .i64 0, .int .u32 0, .int .i64 0, .slice none 0 0], .int .i64 7]) (by simp [results, Try.results16, go_sem, d0, d1, d2, d3, d4, d5, d6, d7]) rfl ⟨.slice none 0 0, rfl, ⟨fun _ => True, Sl.nil _ _ _⟩, hf2 (below_tr HB0.out HBr.out) (Nat.le_refl _)⟩
          have hd2 : decide ((xs.length : Int) - ((p : Int) + 1) < (z : Int)) = false := by rw [decide_eq_false_iff_not]; omega
          clear d0 g0 d1 g1 d2 g2 d3 g3 d4 g4 d5 g5 d6 g6 d7 g7
          have hsn3 := HSN2.out
          rw [if_neg hs2] at hsn3
          have HSN3 := Lib.hid hsn3
          have hle : p + 1 + z ≤ xs.length := by omega
          clear hsn3 HSN2 hs2 hs
          by_cases hcp : c = p + 1
          · have hz0 : z = 0 := by omega
            have hc0 : c - (p + 1) = 0 := by omega
            have hq0 : Bs w1 (· < w.heap.size) (.slice (some ⟨b8, o8, none⟩) z (c - (p + 1))) ((xs.drop (p + 1)).take z) := by rw [hc0, hz0, List.take_zero]; exact bs_cut0 b8 o8 (by omega)
            have HC := Lib.hid hq0
            have hT := eq_true hcp
            have HCP := Lib.hid hcp
            clear hq0 hc0 hz0 hcp
            have hrs := run_string wr (HC.out.belowB (HBr.out.mono HB0.out.size)) Try.underlying23 Try.underlying5 Try.underlying9
            go_wp2
            exact ⟨⟨k + 1, p + 1 + z, ⟨kind, number, ((xs.drop (p + 1)).take z), size, off, sum, code, bytes⟩, vb, by omega, by go_num, by go_num, by omega, HSN3.out, HVB.out, by simp <;> omega, heap_setCell_same _ w1.heap.size 2 _ _ _ HX.out, below_sc HBr.out (p := ⟨w1.heap.size, 2, none⟩) (Nat.le_refl _) _⟩, by simp only [intOf]; omega⟩
          · have HC := Lib.hid (bs_cut HBW.out (p + 1) z (by omega) hcp)
            have hrs := run_string wr (HC.out.belowB (HBr.out.mono HB0.out.size)) Try.underlying23 Try.underlying5 Try.underlying9
            go_wp2
            exact ⟨⟨k + 1, p + 1 + z, ⟨kind, number, ((xs.drop (p + 1)).take z), size, off, sum, code, bytes⟩, vb, by omega, by go_num, by go_num, by omega, HSN3.out, HVB.out, by simp <;> omega, heap_setCell_same _ w1.heap.size 2 _ _ _ HX.out, below_sc HBr.out (p := ⟨w1.heap.size, 2, none⟩) (Nat.le_refl _) _⟩, by simp only [intOf]; omega⟩
        · by_cases hs : xs.length - p < 2
          · have hd1 : decide ((xs.length : Int) - (p : Int) < 2) = true := by rw [decide_eq_true_eq]; omega
            have hR := HDEAD.out (by rw [HSN.out]; rw [rstep_s, if_pos hs])
            have HR := Lib.hid hR
            have HZ := HZr
            clear hR
            go_wp2
            clear d0 d1 d2 d3 d4 d5 d6 d7 g0 g1 g2 g3 g4 g5 g6 g7
            obtain ⟨hf, hf2, hf3⟩ := eight HZ.out (.int .i64 0) (.int .u32 0) (.string ⟨#[]⟩) (.int .i64 0) (.int .i64 0) (.int .u32 0) (.int .i64 0) (.slice none 0 0)
            generalize (World.setCell _ ⟨w.heap.size, 7, none⟩ (.slice none 0 0)) = wf at *
            have d0 := cell_of hf 0
            have d1 := cell_of hf 1
            have d2 := cell_of hf 2
            have d3 := cell_of hf 3
            have d4 := cell_of hf 4
            have d5 := cell_of hf 5
            have d6 := cell_of hf 6
            have d7 := cell_of hf 7
            simp at d0 d1 d2 d3 d4 d5 d6 d7
            rw [HR.out]
            exact bodyPost_ret (v := .tuple #[.agg #[.int .i64 0, .int .u32 0, .string ⟨#[]⟩, .int .i64 0, .int .i64 0, .int .u32 0, .int .i64 0, .slice none 0 0], .int .i64 7]) (by simp [results, Try.results16, go_sem, d0, d1, d2, d3, d4, d5, d6, d7]) rfl ⟨.slice none 0 0, rfl, ⟨fun _ => True, Sl.nil _ _ _⟩, hf2 (below_tr HB0.out HBr.out) (Nat.le_refl _)⟩
          have hd1 : decide ((xs.length : Int) - (p : Int) < 2) = false := by rw [decide_eq_false_iff_not]; omega
          have hsub := bs_cut HBW.out p 2 (by omega) (by omega)
          have HSUB := Lib.hid hsub
          have hxl := num_take xs p 2 (by omega)
          obtain ⟨z, hz⟩ : ∃ z, num ((xs.drop p).take 2) = z := ⟨_, rfl⟩
          have hsn2 := HSN.out
          rw [rstep_s, if_neg hs, hz] at hsn2
          have HSN2 := Lib.hid hsn2
          rw [hz] at hxl
          have hz' := Lib.hid hz
          clear hsub hsn2 hz HSN
          have hw1 : IntKind.i64.wrap (z : Int) = (z : Int) := by simp [IntKind.wrap, IntKind.bits, IntKind.signed]; omega
          go_wp2_with fail
          refine (refnum_any _ _ _ _ (HSUB.out.belowB (HBr.out.mono HB0.out.size)) (by simp; omega)).mono ?_
          rintro e w' ⟨rfl, rfl⟩
          rw [hz'.out]
          clear hz'
          clear d0 g0 d1 g1 d2 g2 d3 g3 d4 g4 d5 g5 d6 g6 d7 g7
          go_wp2
          exact ⟨⟨k + 1, p + 2, ⟨kind, number, name, (z : Nat), off, sum, code, bytes⟩, vb, by omega, by go_num, by go_num, by omega, HSN2.out, HVB.out, hnam, heap_setCell_same _ w1.heap.size 3 _ _ _ HX.out, below_sc HBr.out (p := ⟨w1.heap.size, 3, none⟩) (Nat.le_refl _) _⟩, by simp only [intOf]; omega⟩
        · by_cases hs : xs.length - p < 2
          · have hd1 : decide ((xs.length : Int) - (p : Int) < 2) = true := by rw [decide_eq_true_eq]; omega
            have hR := HDEAD.out (by rw [HSN.out]; rw [rstep_o, if_pos hs])
            have HR := Lib.hid hR
            have HZ := HZr
            clear hR
            go_wp2
            clear d0 d1 d2 d3 d4 d5 d6 d7 g0 g1 g2 g3 g4 g5 g6 g7
            obtain ⟨hf, hf2, hf3⟩ := eight HZ.out (.int .i64 0) (.int .u32 0) (.string ⟨#[]⟩) (.int .i64 0) (.int .i64 0) (.int .u32 0) (.int .i64 0) (.slice none 0 0)
            generalize (World.setCell _ ⟨w.heap.size, 7, none⟩ (.slice none 0 0)) = wf at *
            have d0 := cell_of hf 0
            have d1 := cell_of hf 1
            have d2 := cell_of hf 2
            have d3 := cell_of hf 3
            have d4 := cell_of hf 4
            have d5 := cell_of hf 5
            have d6 := cell_of hf 6
            have d7 := cell_of hf 7
            simp at d0 d1 d2 d3 d4 d5 d6 d7
            rw [HR.out]
            exact bodyPost_ret (v := .tuple #[.agg #[.int .i64 0, .int .u32 0, .string ⟨#[]⟩, .int .i64 0, .int .i64 0, .int .u32 0, .int .i64 0, .slice none 0 0], .int .i64 7]) (by simp [results, Try.results16, go_sem, d0, d1, d2, d3, d4, d5, d6, d7]) rfl ⟨.slice none 0 0, rfl, ⟨fun _ => True, Sl.nil _ _ _⟩, hf2 (below_tr HB0.out HBr.out) (Nat.le_refl _)⟩
          have hd1 : decide ((xs.length : Int) - (p : Int) < 2) = false := by rw [decide_eq_false_iff_not]; omega
          have hsub := bs_cut HBW.out p 2 (by omega) (by omega)
          have HSUB := Lib.hid hsub
          have hxl := num_take xs p 2 (by omega)
          obtain ⟨z, hz⟩ : ∃ z, num ((xs.drop p).take 2) = z := ⟨_, rfl⟩
          have hsn2 := HSN.out
          rw [rstep_o, if_neg hs, hz] at hsn2
          have HSN2 := Lib.hid hsn2
          rw [hz] at hxl
          have hz' := Lib.hid hz
          clear hsub hsn2 hz HSN
          have hw1 : IntKind.i64.wrap (z : Int) = (z : Int) := by simp [IntKind.wrap, IntKind.bits, IntKind.signed]; omega
          go_wp2_with fail
          refine (refnum_any _ _ _ _ (HSUB.out.belowB (HBr.out.mono HB0.out.size)) (by simp; omega)).mono ?_
          rintro e w' ⟨rfl, rfl⟩
          rw [hz'.out]
          clear hz'
          clear d0 g0 d1 g1 d2 g2 d3 g3 d4 g4 d5 g5 d6 g6 d7 g7
          go_wp2
          exact ⟨⟨k + 1, p + 2, ⟨kind, number, name, size, (z : Nat), sum, code, bytes⟩, vb, by omega, by go_num, by go_num, by omega, HSN2.out, HVB.out, hnam, heap_setCell_same _ w1.heap.size 4 _ _ _ HX.out, below_sc HBr.out (p := ⟨w1.heap.size, 4, none⟩) (Nat.le_refl _) _⟩, by simp only [intOf]; omega⟩
        · by_cases hs : xs.length - p < 4
          · have hd1 : decide ((xs.length : Int) - (p : Int) < 4) = true := by rw [decide_eq_true_eq]; omega
            have hR := HDEAD.out (by rw [HSN.out]; rw [rstep_u, if_pos hs])
            have HR := Lib.hid hR
            have HZ := HZr
            clear hR
            go_wp2
            clear d0 d1 d2 d3 d4 d5 d6 d7 g0 g1 g2 g3 g4 g5 g6 g7
            obtain ⟨hf, hf2, hf3⟩ := eight HZ.out (.int .i64 0) (.int .u32 0) (.string ⟨#[]⟩) (.int .i64 0) (.int .i64 0) (.int .u32 0) (.int .i64 0) (.slice none 0 0)
            generalize (World.setCell _ ⟨w.heap.size, 7, none⟩ (.slice none 0 0)) = wf at *
            have d0 := cell_of hf 0
            have d1 := cell_of hf 1
            have d2 := cell_of hf 2
            have d3 := cell_of hf 3
            have d4 := cell_of hf 4
            have d5 := cell_of hf 5
            have d6 := cell_of hf 6
            have d7 := cell_of hf 7
            simp at d0 d1 d2 d3 d4 d5 d6 d7
            rw [HR.out]
            exact bodyPost_ret (v := .tuple #[.agg #[.int .i64 0, .int .u32 0, .string ⟨#[]⟩, .int .i64 0, .int .i64 0, .int .u32 0, .int .i64 0, .slice none 0 0], .int .i64 7]) (by simp [results, Try.results16, go_sem, d0, d1, d2, d3, d4, d5, d6, d7]) rfl ⟨.slice none 0 0, rfl, ⟨fun _ => True, Sl.nil _ _ _⟩, hf2 (below_tr HB0.out HBr.out) (Nat.le_refl _)⟩
          have hd1 : decide ((xs.length : Int) - (p : Int) < 4) = false := by rw [decide_eq_false_iff_not]; omega
          have hsub := bs_cut HBW.out p 4 (by omega) (by omega)
          have HSUB := Lib.hid hsub
          have hxl := num_take xs p 4 (by omega)
          obtain ⟨z, hz⟩ : ∃ z, num ((xs.drop p).take 4) = z := ⟨_, rfl⟩
          have hsn2 := HSN.out
          rw [rstep_u, if_neg hs, hz] at hsn2
          have HSN2 := Lib.hid hsn2
          rw [hz] at hxl
          have hz' := Lib.hid hz
          clear hsub hsn2 hz HSN
          have hw1 : IntKind.i64.wrap (z : Int) = (z : Int) := by simp [IntKind.wrap, IntKind.bits, IntKind.signed]; omega
          have hw2 : IntKind.u32.wrap (z : Int) = (z : Int) := by simp [IntKind.wrap, IntKind.bits, IntKind.signed]; omega
          go_wp2_with fail
          refine (refnum_any _ _ _ _ (HSUB.out.belowB (HBr.out.mono HB0.out.size)) (by simp; omega)).mono ?_
          rintro e w' ⟨rfl, rfl⟩
          rw [hz'.out]
          clear hz'
          clear d0 g0 d1 g1 d2 g2 d3 g3 d4 g4 d5 g5 d6 g6 d7 g7
          go_wp2
          exact ⟨⟨k + 1, p + 4, ⟨kind, number, name, size, off, z, code, bytes⟩, vb, by omega, by go_num, by go_num, by omega, HSN2.out, HVB.out, hnam, heap_setCell_same _ w1.heap.size 5 _ _ _ HX.out, below_sc HBr.out (p := ⟨w1.heap.size, 5, none⟩) (Nat.le_refl _) _⟩, by simp only [intOf]; omega⟩
        · by_cases hs : xs.length - p < 1
          · have hd1 : decide ((xs.length : Int) - (p : Int) < 1) = true := by rw [decide_eq_true_eq]; omega
            have hR := HDEAD.out (by rw [HSN.out]; rw [rstep_c, if_pos hs])
            have HR := Lib.hid hR
            have HZ := HZr
            clear hR
            go_wp2
            clear d0 d1 d2 d3 d4 d5 d6 d7 g0 g1 g2 g3 g4 g5 g6 g7
            obtain ⟨hf, hf2, hf3⟩ := eight HZ.out (.int .i64 0) (.int .u32 0) (.string ⟨#[]⟩) (.int .i64 0) (.int .i64 0) (.int .u32 0) (.int .i64 0) (.slice none 0 0)
            generalize (World.setCell _ ⟨w.heap.size, 7, none⟩ (.slice none 0 0)) = wf at *
            have d0 := cell_of hf 0
            have d1 := cell_of hf 1
            have d2 := cell_of hf 2
            have d3 := cell_of hf 3
            have d4 := cell_of hf 4
            have d5 := cell_of hf 5
            have d6 := cell_of hf 6
            have d7 := cell_of hf 7
            simp at d0 d1 d2 d3 d4 d5 d6 d7
            rw [HR.out]
            exact bodyPost_ret (v := .tuple #[.agg #[.int .i64 0, .int .u32 0, .string ⟨#[]⟩, .int .i64 0, .int .i64 0, .int .u32 0, .int .i64 0, .slice none 0 0], .int .i64 7]) (by simp [results, Try.results16, go_sem, d0, d1, d2, d3, d4, d5, d6, d7]) rfl ⟨.slice none 0 0, rfl, ⟨fun _ => True, Sl.nil _ _ _⟩, hf2 (below_tr HB0.out HBr.out) (Nat.le_refl _)⟩
          have hd1 : decide ((xs.length : Int) - (p : Int) < 1) = false := by rw [decide_eq_false_iff_not]; omega
          have hsub := bs_cut HBW.out p 1 (by omega) (by omega)
          have HSUB := Lib.hid hsub
          have hxl := num_take xs p 1 (by omega)
          obtain ⟨z, hz⟩ : ∃ z, num ((xs.drop p).take 1) = z := ⟨_, rfl⟩
          have hsn2 := HSN.out
          rw [rstep_c, if_neg hs, hz] at hsn2
          have HSN2 := Lib.hid hsn2
          rw [hz] at hxl
          have hz' := Lib.hid hz
          clear hsub hsn2 hz HSN
          have hw1 : IntKind.i64.wrap (z : Int) = (z : Int) := by simp [IntKind.wrap, IntKind.bits, IntKind.signed]; omega
          go_wp2_with fail
          refine (refnum_any _ _ _ _ (HSUB.out.belowB (HBr.out.mono HB0.out.size)) (by simp; omega)).mono ?_
          rintro e w' ⟨rfl, rfl⟩
          rw [hz'.out]
          clear hz'
          clear d0 g0 d1 g1 d2 g2 d3 g3 d4 g4 d5 g5 d6 g6 d7 g7
          go_wp2
          exact ⟨⟨k + 1, p + 1, ⟨kind, number, name, size, off, sum, (z : Nat), bytes⟩, vb, by omega, by go_num, by go_num, by omega, HSN2.out, HVB.out, hnam, heap_setCell_same _ w1.heap.size 6 _ _ _ HX.out, below_sc HBr.out (p := ⟨w1.heap.size, 6, none⟩) (Nat.le_refl _) _⟩, by simp only [intOf]; omega⟩
        · by_cases hs : xs.length - p < 2
          · have hd1 : decide ((xs.length : Int) - (p : Int) < 2) = true := by rw [decide_eq_true_eq]; omega
            have hR := HDEAD.out (by rw [HSN.out]; rw [rstep_b, if_pos hs])
            have HR := Lib.hid hR
            have HZ := HZr
            clear hR
            go_wp2
            clear d0 d1 d2 d3 d4 d5 d6 d7 g0 g1 g2 g3 g4 g5 g6 g7
            obtain ⟨hf, hf2, hf3⟩ := eight HZ.out (.int .i64 0) (.int .u32 0) (.string ⟨#[]⟩) (.int .i64 0) (.int .i64 0) (.int .u32 0) (.int .i64 0) (.slice none 0 0)
            generalize (World.setCell _ ⟨w.heap.size, 7, none⟩ (.slice none 0 0)) = wf at *
            have d0 := cell_of hf 0
            have d1 := cell_of hf 1
            have d2 := cell_of hf 2
            have d3 := cell_of hf 3
            have d4 := cell_of hf 4
            have d5 := cell_of hf 5
            have d6 := cell_of hf 6
            have d7 := cell_of hf 7
            simp at d0 d1 d2 d3 d4 d5 d6 d7
            rw [HR.out]
            exact bodyPost_ret (v := .tuple #[.agg #[.int .i64 0, .int .u32 0, .string ⟨#[]⟩, .int .i64 0, .int .i64 0, .int .u32 0, .int .i64 0, .slice none 0 0], .int .i64 7]) (by simp [results, Try.results16, go_sem, d0, d1, d2, d3, d4, d5, d6, d7]) rfl ⟨.slice none 0 0, rfl, ⟨fun _ => True, Sl.nil _ _ _⟩, hf2 (below_tr HB0.out HBr.out) (Nat.le_refl _)⟩
          have hd1 : decide ((xs.length : Int) - (p : Int) < 2) = false := by rw [decide_eq_false_iff_not]; omega
          have hsub := bs_cut HBW.out p 2 (by omega) (by omega)
          have HSUB := Lib.hid hsub
          have hxl := num_take xs p 2 (by omega)
          obtain ⟨z, hz⟩ : ∃ z, num ((xs.drop p).take 2) = z := ⟨_, rfl⟩
          have hsn2 := HSN.out
          rw [rstep_b, if_neg hs, hz] at hsn2
          have HSN2 := Lib.hid hsn2
          rw [hz] at hxl
          have hz' := Lib.hid hz
          clear hsub hsn2 hz HSN
          have hw1 : IntKind.i64.wrap (z : Int) = (z : Int) := by simp [IntKind.wrap, IntKind.bits, IntKind.signed]; omega
          go_wp2_with fail
          refine (refnum_any _ _ _ _ (HSUB.out.belowB (HBr.out.mono HB0.out.size)) (by simp; omega)).mono ?_
          rintro e w' ⟨rfl, rfl⟩
          rw [hz'.out]
          clear hz'
          by_cases hs2 : xs.length - (p + 2) < z
          · have hd2 : decide ((xs.length : Int) - ((p : Int) + 2) < (z : Int)) = true := by rw [decide_eq_true_eq]; omega
            have HSN := HSN2
            have hR := HDEAD.out (by rw [HSN.out]; rw [if_pos hs2])
            have HR := Lib.hid hR
            have HZ := HZr
            clear hR
            go_wp2
            clear d0 d1 d2 d3 d4 d5 d6 d7 g0 g1 g2 g3 g4 g5 g6 g7
            obtain ⟨hf, hf2, hf3⟩ := eight HZ.out (.int .i64 0) (.int .u32 0) (.string ⟨#[]⟩) (.int .i64 0) (.int .i64 0) (.int .u32 0) (.int .i64 0) (.slice none 0 0)
            generalize (World.setCell _ ⟨w.heap.size, 7, none⟩ (.slice none 0 0)) = wf at *
            have d0 := cell_of hf 0
            have d1 := cell_of hf 1
            have d2 := cell_of hf 2
            have d3 := cell_of hf 3
            have d4 := cell_of hf 4
            have d5 := cell_of hf 5
            have d6 := cell_of hf 6
            have d7 := cell_of hf 7
            simp at d0 d1 d2 d3 d4 d5 d6 d7
            rw [HR.out]
            exact bodyPost_ret (v := .tuple #[.agg #[.int .i64 0, .int .u32 0, .string ⟨#[]⟩, .int .i64 0, .int .i64 0, .int .u32 0, .int .i64 0, .slice none 0 0], .int .i64 7]) (by simp [results, Try.results16, go_sem, d0, d1, d2, d3, d4, d5, d6, d7]) rfl ⟨.slice none 0 0, rfl, ⟨fun _ => True, Sl.nil _ _ _⟩, hf2 (below_tr HB0.out HBr.out) (Nat.le_refl _)⟩
          have hd2 : decide ((xs.length : Int) - ((p : Int) + 2) < (z : Int)) = false := by rw [decide_eq_false_iff_not]; omega
          clear d0 g0 d1 g1 d2 g2 d3 g3 d4 g4 d5 g5 d6 g6 d7 g7
          have hsn3 := HSN2.out
          rw [if_neg hs2] at hsn3
          have HSN3 := Lib.hid hsn3
          have hle : p + 2 + z ≤ xs.length := by omega
          clear hsn3 HSN2 hs2 hs
          by_cases hcp : c = p + 2
          · have hz0 : z = 0 := by omega
            have hc0 : c - (p + 2) = 0 := by omega
            have hq0 : Bs w1 (· < w.heap.size) (.slice (some ⟨b8, o8, none⟩) z (c - (p + 2))) ((xs.drop (p + 2)).take z) := by rw [hc0, hz0, List.take_zero]; exact bs_cut0 b8 o8 (by omega)
            have HC := Lib.hid hq0
            have hT := eq_true hcp
            have HCP := Lib.hid hcp
            clear hq0 hc0 hz0 hcp
            go_wp2
            exact ⟨⟨k + 1, p + 2 + z, ⟨kind, number, name, size, off, sum, code, ((xs.drop (p + 2)).take z)⟩, _, by omega, by go_num, by go_num, by omega, HSN3.out, (by have h := HC.out; have hl : ((xs.drop (p + 2)).take z).length = z := (by rw [List.length_take_of_le]; rw [List.length_drop]; omega); exact h), hnam, heap_setCell_same _ w1.heap.size 7 _ _ _ HX.out, below_sc HBr.out (p := ⟨w1.heap.size, 7, none⟩) (Nat.le_refl _) _⟩, by simp only [intOf]; omega⟩
          · have HC := Lib.hid (bs_cut HBW.out (p + 2) z (by omega) hcp)
            go_wp2
            exact ⟨⟨k + 1, p + 2 + z, ⟨kind, number, name, size, off, sum, code, ((xs.drop (p + 2)).take z)⟩, _, by omega, by go_num, by go_num, by omega, HSN3.out, (by have h := HC.out; have hl : ((xs.drop (p + 2)).take z).length = z := (by rw [List.length_take_of_le]; rw [List.length_drop]; omega); exact h), hnam, heap_setCell_same _ w1.heap.size 7 _ _ _ HX.out, below_sc HBr.out (p := ⟨w1.heap.size, 7, none⟩) (Nat.le_refl _) _⟩, by simp only [intOf]; omega⟩
      · obtain rfl : k = fs.length := by omega
        rw [List.take_length] at hrun
        have hout : OUT = if p < xs.length ∨ ¬ m.ok then (noMsg, 210) else (m, 0) := by rw [HR2.out, hrun]
        have HOUT := Lib.hid hout
        clear hout hrun HR2 HLET
        obtain ⟨kind, number, name, size, off, sum, code, bytes⟩ := m
        dsimp only at hnam
        obtain ⟨VA, VC, hvb, -⟩ := HVB.out.open_
        dsimp only at hvb
        subst hvb
        have hXc : wr.heap[w1.heap.size]? = some (.cells #[.int .i64 kind, .int .u32 (number : Nat), .string ⟨name.toArray⟩, .int .i64 size, .int .i64 off, .int .u32 (sum : Nat), .int .i64 code, .slice VA bytes.length VC] 25 (0, 0)) := HX.out
        clear HX
        have HX := Lib.hid hXc
        have c0 := cell_of hXc 0
        have c1 := cell_of hXc 1
        have c2 := cell_of hXc 2
        have c3 := cell_of hXc 3
        have c4 := cell_of hXc 4
        have c5 := cell_of hXc 5
        have c6 := cell_of hXc 6
        have c7 := cell_of hXc 7
        simp at c0 c1 c2 c3 c4 c5 c6 c7
        have f0 := frozen_of hXc 0
        have f1 := frozen_of hXc 1
        have f2 := frozen_of hXc 2
        have f3 := frozen_of hXc 3
        have f4 := frozen_of hXc 4
        have f5 := frozen_of hXc 5
        have f6 := frozen_of hXc 6
        have f7 := frozen_of hXc 7
        clear hXc
        by_cases hend : p < xs.length
        · have HR := Lib.hid (show OUT = (noMsg, 210) by rw [HOUT.out, if_pos (.inl hend)])
          have HZ := HZr
          have hZc := HZr.out
          have d0 := cell_of hZc 0
          have d1 := cell_of hZc 1
          have d2 := cell_of hZc 2
          have d3 := cell_of hZc 3
          have d4 := cell_of hZc 4
          have d5 := cell_of hZc 5
          have d6 := cell_of hZc 6
          have d7 := cell_of hZc 7
          simp at d0 d1 d2 d3 d4 d5 d6 d7
          have g0 := frozen_of hZc 0
          have g1 := frozen_of hZc 1
          have g2 := frozen_of hZc 2
          have g3 := frozen_of hZc 3
          have g4 := frozen_of hZc 4
          have g5 := frozen_of hZc 5
          have g6 := frozen_of hZc 6
          have g7 := frozen_of hZc 7
          clear hZc
          go_wp2
          clear d0 d1 d2 d3 d4 d5 d6 d7 g0 g1 g2 g3 g4 g5 g6 g7
          obtain ⟨hf, hf2, hf3⟩ := eight HZ.out (.int .i64 0) (.int .u32 0) (.string ⟨#[]⟩) (.int .i64 0) (.int .i64 0) (.int .u32 0) (.int .i64 0) (.slice none 0 0)
          generalize (World.setCell _ ⟨w.heap.size, 7, none⟩ (.slice none 0 0)) = wf at *
          have d0 := cell_of hf 0
          have d1 := cell_of hf 1
          have d2 := cell_of hf 2
          have d3 := cell_of hf 3
          have d4 := cell_of hf 4
          have d5 := cell_of hf 5
          have d6 := cell_of hf 6
          have d7 := cell_of hf 7
          simp at d0 d1 d2 d3 d4 d5 d6 d7
          rw [HR.out]
          exact bodyPost_ret (v := .tuple #[.agg #[.int .i64 0, .int .u32 0, .string ⟨#[]⟩, .int .i64 0, .int .i64 0, .int .u32 0, .int .i64 0, .slice none 0 0], .int .i64 210]) (by simp [results, Try.results16, go_sem, d0, d1, d2, d3, d4, d5, d6, d7]) rfl ⟨.slice none 0 0, rfl, ⟨fun _ => True, Sl.nil _ _ _⟩, hf2 (below_tr HB0.out HBr.out) (Nat.le_refl _)⟩
        by_cases hok : Msg.ok ⟨kind, number, name, size, off, sum, code, bytes⟩
        · have hokd : decide (Msg.ok ⟨kind, number, name, size, off, sum, code, bytes⟩) = true := decide_eq_true hok
          go_wp2_with fail
          refine (right_any ⟨kind, number, name, size, off, sum, code, bytes⟩ (.slice VA bytes.length VC) _ _ (HVB.out.belowB (HBr.out.mono HB0.out.size)) (by dsimp only; omega)).mono ?_
          rintro e w2 ⟨rfl, hB2⟩
          rw [hokd]
          have HB2 := Lib.hid hB2
          clear hB2 c0 f0 c1 f1 c2 f2 c3 f3 c4 f4 c5 f5 c6 f6 c7 f7
          have HZ := Lib.hid (heap_bl HB2.out HZr.out)
          have hZc := HZ.out
          have d0 := cell_of hZc 0
          have d1 := cell_of hZc 1
          have d2 := cell_of hZc 2
          have d3 := cell_of hZc 3
          have d4 := cell_of hZc 4
          have d5 := cell_of hZc 5
          have d6 := cell_of hZc 6
          have d7 := cell_of hZc 7
          simp at d0 d1 d2 d3 d4 d5 d6 d7
          have g0 := frozen_of hZc 0
          have g1 := frozen_of hZc 1
          have g2 := frozen_of hZc 2
          have g3 := frozen_of hZc 3
          have g4 := frozen_of hZc 4
          have g5 := frozen_of hZc 5
          have g6 := frozen_of hZc 6
          have g7 := frozen_of hZc 7
          have hX2 := heap_bl HB2.out HX.out
          have c0 := cell_of hX2 0
          have c1 := cell_of hX2 1
          have c2 := cell_of hX2 2
          have c3 := cell_of hX2 3
          have c4 := cell_of hX2 4
          have c5 := cell_of hX2 5
          have c6 := cell_of hX2 6
          have c7 := cell_of hX2 7
          simp at c0 c1 c2 c3 c4 c5 c6 c7
          have f0 := frozen_of hX2 0
          have f1 := frozen_of hX2 1
          have f2 := frozen_of hX2 2
          have f3 := frozen_of hX2 3
          have f4 := frozen_of hX2 4
          have f5 := frozen_of hX2 5
          have f6 := frozen_of hX2 6
          have f7 := frozen_of hX2 7
          have HR := Lib.hid (show OUT = (⟨kind, number, name, size, off, sum, code, bytes⟩, 0) by rw [HOUT.out, if_neg (by rintro (h | h); exact hend h; exact h hok)])
          clear hZc hX2
          go_wp2
          clear d0 d1 d2 d3 d4 d5 d6 d7 g0 g1 g2 g3 g4 g5 g6 g7
          obtain ⟨hf, hf2, hf3⟩ := eight HZ.out (.int .i64 kind) (.int .u32 (number : Nat)) (.string ⟨name.toArray⟩) (.int .i64 size) (.int .i64 off) (.int .u32 (sum : Nat)) (.int .i64 code) (.slice VA bytes.length VC)
          generalize (World.setCell _ ⟨w.heap.size, 7, none⟩ (.slice VA bytes.length VC)) = wf at *
          have d0 := cell_of hf 0
          have d1 := cell_of hf 1
          have d2 := cell_of hf 2
          have d3 := cell_of hf 3
          have d4 := cell_of hf 4
          have d5 := cell_of hf 5
          have d6 := cell_of hf 6
          have d7 := cell_of hf 7
          simp at d0 d1 d2 d3 d4 d5 d6 d7
          rw [HR.out]
          exact bodyPost_ret (v := .tuple #[.agg #[.int .i64 kind, .int .u32 (number : Nat), .string ⟨name.toArray⟩, .int .i64 size, .int .i64 off, .int .u32 (sum : Nat), .int .i64 code, .slice VA bytes.length VC], .int .i64 0]) (by simp [results, Try.results16, go_sem, d0, d1, d2, d3, d4, d5, d6, d7]) rfl ⟨.slice VA bytes.length VC, rfl, ⟨_, HVB.out.belowB (hf2 ((HBr.out.mono HB0.out.size).trans (HB2.out.mono (by have := HB0.out.size; have := HBr.out.size; omega))) (Nat.le_refl _))⟩, hf2 (below_tr (below_tr HB0.out HBr.out) HB2.out) (Nat.le_refl _)⟩
        · have hokd : decide (Msg.ok ⟨kind, number, name, size, off, sum, code, bytes⟩) = false := decide_eq_false hok
          go_wp2_with fail
          refine (right_any ⟨kind, number, name, size, off, sum, code, bytes⟩ (.slice VA bytes.length VC) _ _ (HVB.out.belowB (HBr.out.mono HB0.out.size)) (by dsimp only; omega)).mono ?_
          rintro e w2 ⟨rfl, hB2⟩
          rw [hokd]
          have HB2 := Lib.hid hB2
          clear hB2 c0 f0 c1 f1 c2 f2 c3 f3 c4 f4 c5 f5 c6 f6 c7 f7
          have HZ := Lib.hid (heap_bl HB2.out HZr.out)
          have hZc := HZ.out
          have d0 := cell_of hZc 0
          have d1 := cell_of hZc 1
          have d2 := cell_of hZc 2
          have d3 := cell_of hZc 3
          have d4 := cell_of hZc 4
          have d5 := cell_of hZc 5
          have d6 := cell_of hZc 6
          have d7 := cell_of hZc 7
          simp at d0 d1 d2 d3 d4 d5 d6 d7
          have g0 := frozen_of hZc 0
          have g1 := frozen_of hZc 1
          have g2 := frozen_of hZc 2
          have g3 := frozen_of hZc 3
          have g4 := frozen_of hZc 4
          have g5 := frozen_of hZc 5
          have g6 := frozen_of hZc 6
          have g7 := frozen_of hZc 7
          have HR := Lib.hid (show OUT = (noMsg, 210) by rw [HOUT.out, if_pos (.inr hok)])
          clear hZc
          go_wp2
          clear d0 d1 d2 d3 d4 d5 d6 d7 g0 g1 g2 g3 g4 g5 g6 g7
          obtain ⟨hf, hf2, hf3⟩ := eight HZ.out (.int .i64 0) (.int .u32 0) (.string ⟨#[]⟩) (.int .i64 0) (.int .i64 0) (.int .u32 0) (.int .i64 0) (.slice none 0 0)
          generalize (World.setCell _ ⟨w.heap.size, 7, none⟩ (.slice none 0 0)) = wf at *
          have d0 := cell_of hf 0
          have d1 := cell_of hf 1
          have d2 := cell_of hf 2
          have d3 := cell_of hf 3
          have d4 := cell_of hf 4
          have d5 := cell_of hf 5
          have d6 := cell_of hf 6
          have d7 := cell_of hf 7
          simp at d0 d1 d2 d3 d4 d5 d6 d7
          rw [HR.out]
          exact bodyPost_ret (v := .tuple #[.agg #[.int .i64 0, .int .u32 0, .string ⟨#[]⟩, .int .i64 0, .int .i64 0, .int .u32 0, .int .i64 0, .slice none 0 0], .int .i64 210]) (by simp [results, Try.results16, go_sem, d0, d1, d2, d3, d4, d5, d6, d7]) rfl ⟨.slice none 0 0, rfl, ⟨fun _ => True, Sl.nil _ _ _⟩, hf2 (below_tr (below_tr HB0.out HBr.out) HB2.out) (Nat.le_refl _)⟩
end Go.Proofs.Ytmcldnfemlaeiaa
