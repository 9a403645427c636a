/- Law 27's walk: large, story, wakes. No condition beyond sizes. -/
import Derived.Test.YtfdijgdojejimaaId10
namespace Go.Proofs.Ytfdijgdojejimaa
open Go.RowKit Go.Shelf K L
set_option linter.unusedVariables false
set_option linter.unusedSimpArgs false

def big1 (x : Fact) : Bool := decide (3000 < x.bytes.length) || decide (1000 < x.name.length)
def largeL (l : List Fact) : Bool := decide (200 < l.length) || l.any big1

set_option maxRecDepth 100000 in
set_option maxHeartbeats 4000000 in
theorem large_any (v : Value) (w : World) (es : List FE) (hle : es.length ≤ 1048576) (hL : Ls w v es) :
    Calls Try.prog 9 #[v] w fun e w' => e = .returned (.bool (largeL (es.map (·.1)))) ∧ Below w.heap.size w w' := by
  have hL' := hL
  obtain ⟨⟨-, A, c, rfl, l1, l2, -, -⟩, -⟩ := hL
  unfold maxLen at l2
  go_enter Try.func9, Try.ntmps9
  by_cases h2 : 200 < es.length
  · have hd : decide ((200 : Int) < (es.length : Int)) = true := by simp; omega
    go_wp2
    go_ret
    exact ⟨ret_bool (by unfold largeL; simp [h2]), Below.refl _ _⟩
  · have hd : decide ((200 : Int) < (es.length : Int)) = false := by simp; omega
    go_wp2
    go_loopw [10] (fun i wr => ∃ k : Nat, k ≤ es.length ∧ i = .int .i64 k ∧ Below w.heap.size w wr ∧ Hid (((es.take k).map (·.1)).any big1 = false)) (fun i _ => es.length - (intOf i).toNat)
    case atStart => exact ⟨0, Nat.zero_le _, rfl, Below.refl _ _, Lib.hid rfl⟩
    case round =>
      obtain ⟨k, hk, rfl, hb, HP⟩ := hrel
      by_cases hlt : k < es.length
      · obtain ⟨b, o, Ab, cb, rfl, hbl, hvb, c0, c1, c2, c3, c4, c5, c6⟩ := (hL'.below hb).at k hlt
        have hsn : (es.take (k + 1)).map (·.1) = (es.take k).map (·.1) ++ [es[k].1] := by rw [take_snoc es k hlt, List.map_append]; rfl
        have hall : big1 es[k].1 = true → (es.map (·.1)).any big1 = true := fun h => List.any_eq_true.2 ⟨_, List.mem_map.2 ⟨_, List.getElem_mem hlt, rfl⟩, h⟩
        have hbb := fun o => ((Below.refl wr.heap.size wr).alloc (Nat.le_refl _) o)
        generalize es[k].1 = x at *
        have HS := Lib.hid hsn
        have HA := Lib.hid hall
        have HBB := Lib.hid hbb
        clear hsn hall hvb hbb
        by_cases h3 : 3000 < x.bytes.length
        · have hd3 : decide ((3000 : Int) < (x.bytes.length : Int)) = true := by simp; omega
          have H3 := Lib.hid h3
          clear h3
          go_wp2
          go_ret
          exact ⟨ret_bool (by unfold largeL; rw [HA.out (by unfold big1; simp [H3.out])]; simp), below_tr hb (HBB.out _)⟩
        · have hd3 : decide ((3000 : Int) < (x.bytes.length : Int)) = false := by simp; omega
          have H3 := Lib.hid h3
          clear h3
          by_cases h4 : 1000 < x.name.length
          · have hd4 : decide ((1000 : Int) < (x.name.length : Int)) = true := by simp; omega
            have H4 := Lib.hid h4
            clear h4
            go_wp2
            go_ret
            exact ⟨ret_bool (by unfold largeL; rw [HA.out (by unfold big1; simp [H4.out])]; simp), below_tr hb (HBB.out _)⟩
          · have hd4 : decide ((1000 : Int) < (x.name.length : Int)) = false := by simp; omega
            have H4 := Lib.hid h4
            clear h4
            go_wp2
            refine ⟨⟨k + 1, by omega, by go_num, below_tr hb (HBB.out _), Lib.hid ?_⟩, by simp only [intOf]; omega⟩
            rw [HS.out, List.any_append, HP.out]
            unfold big1
            have h3 := H3.out
            have h4 := H4.out
            simp [h3, h4]
      · obtain rfl : k = es.length := by omega
        go_wp2
        go_ret
        have := HP.out
        rw [List.take_length] at this
        exact ⟨ret_bool (by unfold largeL; rw [this]; simp; omega), hb⟩

def storyL : List Fact := [⟨1, 1, 2, 1, [120], 0, [7]⟩, ⟨6, 2, 1, 1, [120], 0, [7]⟩, ⟨7, 1, 2, 1, [], 0, []⟩]
theorem story_judg : judg storyL = 3 := by decide +kernel
theorem story_judg2 : judg [⟨1, 1, 2, 1, [120], 0, [7]⟩, ⟨7, 1, 2, 1, [], 0, []⟩] = 1 := by decide +kernel
theorem story_files : (storyL.filter (fileOf 2)).length = 1 := by decide +kernel

set_option maxRecDepth 100000 in
set_option maxHeartbeats 4000000 in
theorem story_any (w : World) : Calls Try.prog 17 #[] w fun e w' => ∃ b A1 A2, e = .returned (.slice (some ⟨b, 0, none⟩) 3 3) ∧
    Ls w' (.slice (some ⟨b, 0, none⟩) 3 3) [(⟨1, 1, 2, 1, [120], 0, [7]⟩, .slice A1 1 1), (⟨6, 2, 1, 1, [120], 0, [7]⟩, .slice A2 1 1), (⟨7, 1, 2, 1, [], 0, []⟩, .slice none 0 0)] ∧ Below w.heap.size w w' := by
  go_enter Try.func17, Try.ntmps17
  go_wp2
  go_ret
  have b1 : Below w.heap.size w (w.alloc (.cells #[.int .u8 7] 5)) := (Below.refl _ _).alloc (Nat.le_refl _) _
  have p1 : Bs (w.alloc (.cells #[.int .u8 7] 5)) (· < (w.alloc (.cells #[.int .u8 7] 5)).heap.size) (.slice (some ⟨w.heap.size, 0, none⟩) 1 1) [7] := Sl.imp_lt (Sl.lit w [.int .u8 7] 5 1 1 rfl (by simp [maxLen])) (by decide)
  have s1 : (w.alloc (.cells #[.int .u8 7] 5)).heap.size = w.heap.size + 1 := by simp
  generalize w.alloc (.cells #[.int .u8 7] 5) = w1 at *
  have b2 : Below w1.heap.size w1 (w1.alloc (.cells #[.int .u8 7] 5)) := (Below.refl _ _).alloc (Nat.le_refl _) _
  have p2 : Bs (w1.alloc (.cells #[.int .u8 7] 5)) (· < (w1.alloc (.cells #[.int .u8 7] 5)).heap.size) (.slice (some ⟨w1.heap.size, 0, none⟩) 1 1) [7] := Sl.imp_lt (Sl.lit w1 [.int .u8 7] 5 1 1 rfl (by simp [maxLen])) (by decide)
  rw [s1] at p2
  have s2 : (w1.alloc (.cells #[.int .u8 7] 5)).heap.size = w.heap.size + 1 + 1 := by simp [s1]
  replace p1 := bs_lift p1 b2
  replace b2 := below_tr b1 b2
  generalize w1.alloc (.cells #[.int .u8 7] 5) = w2 at *
  have p3 := Sl.imp_lt (Sl.lit w2 [.int .i64 1, .int .i64 1, .int .i64 2, .int .u32 1, .string ⟨#[120]⟩, .int .i64 0, .slice (some ⟨w.heap.size, 0, none⟩) 1 1, .int .i64 6, .int .i64 2, .int .i64 1, .int .u32 1, .string ⟨#[120]⟩, .int .i64 0, .slice (some ⟨w.heap.size + 1, 0, none⟩) 1 1, .int .i64 7, .int .i64 1, .int .i64 2, .int .u32 1, .string ⟨#[]⟩, .int .i64 0, .slice none 0 0] 26 7 3 rfl (by simp [maxLen])) (by decide)
  rw [s2] at p3
  have b3 := (Below.refl _ w2).alloc (Nat.le_refl _) (.cells #[.int .i64 1, .int .i64 1, .int .i64 2, .int .u32 1, .string ⟨#[120]⟩, .int .i64 0, .slice (some ⟨w.heap.size, 0, none⟩) 1 1, .int .i64 6, .int .i64 2, .int .i64 1, .int .u32 1, .string ⟨#[120]⟩, .int .i64 0, .slice (some ⟨w.heap.size + 1, 0, none⟩) 1 1, .int .i64 7, .int .i64 1, .int .i64 2, .int .u32 1, .string ⟨#[]⟩, .int .i64 0, .slice none 0 0] 26)
  refine ⟨w.heap.size + 1 + 1, some ⟨w.heap.size, 0, none⟩, some ⟨w.heap.size + 1, 0, none⟩, rfl, ⟨p3, ?_⟩, below_tr b2 b3⟩
  intro e he
  simp only [List.mem_cons, List.not_mem_nil, or_false] at he
  rcases he with rfl | rfl | rfl
  · exact ⟨bs_lift p1 b3, by simp⟩
  · exact ⟨bs_lift p2 b3, by simp⟩
  · exact ⟨Sl.nil _ _ 1, by simp⟩

theorem ls_two {w : World} {e0 e2 : FE} (h0 : Bs w (· < w.heap.size) e0.2 e0.1.bytes ∧ e0.1.bytes.length ≤ 1048576) (h2 : Bs w (· < w.heap.size) e2.2 e2.1.bytes ∧ e2.1.bytes.length ≤ 1048576) :
    Ls (w.alloc (.cells (e0.cells ++ e2.cells).toArray 26)) (.slice (some ⟨w.heap.size, 0, none⟩) 2 2) [e0, e2] := by
  have hb := (Below.refl _ w).alloc (Nat.le_refl _) (.cells (e0.cells ++ e2.cells).toArray 26)
  refine ⟨?_, fun e he => ?_⟩
  · have := Sl.imp_lt (Sl.lit w (e0.cells ++ e2.cells) 26 7 2 (by rw [List.length_append, FE.len, FE.len]) (by simp [maxLen])) (by decide)
    simpa using this
  · simp only [List.mem_cons, List.not_mem_nil, or_false] at he
    rcases he with rfl | rfl
    · exact ⟨bs_lift h0.1 hb, h0.2⟩
    · exact ⟨bs_lift h2.1 hb, h2.2⟩

set_option maxRecDepth 100000 in
set_option maxHeartbeats 8000000 in
theorem wakes_any (w : World) : Calls Try.prog 8 #[] w fun e w' => e = .returned (.bool true) ∧ Below w.heap.size w w' := by
  go_enter Try.func8, Try.ntmps8
  go_wp2_with fail
  refine (story_any w).mono ?_
  rintro e w1 ⟨b, A1, A2, rfl, hL, hb1⟩
  go_wp2_with fail
  refine (judge_any _ w1 _ (by simp) hL (by intro e he; simp only [List.mem_cons, List.not_mem_nil, or_false] at he; rcases he with rfl | rfl | rfl <;> simp)).mono ?_
  rintro e w2 ⟨rfl, hb2⟩
  rw [show judg (List.map (·.1) [((⟨1, 1, 2, 1, [120], 0, [7]⟩, .slice A1 1 1) : FE), (⟨6, 2, 1, 1, [120], 0, [7]⟩, .slice A2 1 1), (⟨7, 1, 2, 1, [], 0, []⟩, .slice none 0 0)]) = 3 from story_judg]
  have hL2 := hL.below hb2
  have hb := below_tr hb1 hb2
  clear hL hb1 hb2
  have HL := Lib.hid hL2
  clear hL2
  go_wp2
  refine G.region_inv (by kernel_rfl) (by kernel_rfl) (fun w w' => Below w.heap.size w w') (fun _ _ _ h k => below_tr h k) (fun w _ => Below.refl _ _) (Below.refl _ _)
    (G.of [(fun (_ : World) (v : Value) => v = .slice (some ⟨b, 0, none⟩) 3 3), (fun (_ : World) (v : Value) => v = .pointer (some ⟨b, 0, none⟩)), (fun (_ : World) (v : Value) => v = .agg #[.int .i64 1, .int .i64 1, .int .i64 2, .int .u32 1, .string ⟨#[120]⟩, .int .i64 0, .slice A1 1 1]), (fun (_ : World) (v : Value) => v = .slice (some ⟨b, 0, none⟩) 3 3), (fun (_ : World) (v : Value) => v = .pointer (some ⟨b, 14, none⟩)), (fun (_ : World) (v : Value) => v = .agg #[.int .i64 7, .int .i64 1, .int .i64 2, .int .u32 1, .string ⟨#[]⟩, .int .i64 0, .slice none 0 0]), (fun w v => Ls w v [(⟨1, 1, 2, 1, [120], 0, [7]⟩, .slice A1 1 1), (⟨7, 1, 2, 1, [], 0, []⟩, .slice none 0 0)]), (fun (_ : World) (v : Value) => v = .tuple #[.int .i64 1, .int .i64 370]), (fun (_ : World) (v : Value) => v = .tuple #[.int .i64 1, .int .i64 370]), (fun (_ : World) (v : Value) => v = .int .i64 1), (fun (_ : World) (v : Value) => v = .int .i64 370), (fun (_ : World) (v : Value) => v = .int .i64 1), (fun (_ : World) (v : Value) => v = .int .i64 370)])
    (G.of_stays _ ?_) ?_ (G.each_ops ?_) ?_
  · exact ⟨(fun w w' v h k => h), (fun w w' v h k => h), (fun w w' v h k => h), (fun w w' v h k => h), (fun w w' v h k => h), (fun w w' v h k => h), (fun w w' v h k => by first | exact h | exact G.keep_bs h k | exact Ls.below h k | exact CopP.fresh h k | (obtain ⟨x1, x2, F', hb⟩ := h; exact ⟨x1, x2, F', hb.below k⟩)), (fun w w' v h k => h), (fun w w' v h k => h), (fun w w' v h k => h), (fun w w' v h k => h), (fun w w' v h k => h), (fun w w' v h k => h), trivial⟩
  · intro i o hi hd; exact absurd hd (G.no_none (by kernel_rfl) hi)
  · refine ⟨?_, ?_, ?_, ?_, ?_, ?_, ?_, ?_, ?_, ?_, ?_, ?_, ?_, trivial⟩
    all_goals intro a wq hT hS hp
    all_goals (have hq := HL.out.below (below_tr (Below.refl _ _).drew hT); obtain ⟨b', o', e0, -, -, c0, c1, c2, c3, c4, c5, c6⟩ := row_at hq.1 0 (by simp); cases e0; obtain ⟨b', o', e0, -, -, d0, d1, d2, d3, d4, d5, d6⟩ := row_at hq.1 2 (by simp); cases e0; simp at c0 c1 c2 c3 c4 c5 c6 d0 d1 d2 d3 d4 d5 d6)
    · refine G.wanted_yes (G.wanted_plain rfl) ?_
      have e1 : a.tmps[1]?.getD undef = .slice (some ⟨b, 0, none⟩) 3 3 := hS.at_ 1 rfl
      exact G.st_val (v := .slice (some ⟨b, 0, none⟩) 3 3) (w' := wq) (by simp [execOp, go_sem, e1, c0, c1, c2, c3, c4, c5, c6, d0, d1, d2, d3, d4, d5, d6] <;> omega) ⟨_, rfl, Below.refl _ _, rfl⟩
    · refine G.wanted_yes (G.wanted_plain rfl) ?_
      have e13 : a.tmps[13]?.getD undef = .slice (some ⟨b, 0, none⟩) 3 3 := hp ⟨0, .data⟩ (by simp) rfl _ rfl
      exact G.st_val (v := .pointer (some ⟨b, 0, none⟩)) (w' := wq) (by simp [execOp, go_sem, e13, c0, c1, c2, c3, c4, c5, c6, d0, d1, d2, d3, d4, d5, d6] <;> omega) ⟨_, rfl, Below.refl _ _, rfl⟩
    · refine G.wanted_yes (G.wanted_plain rfl) ?_
      have e14 : a.tmps[14]?.getD undef = .pointer (some ⟨b, 0, none⟩) := hp ⟨1, .data⟩ (by simp) rfl _ rfl
      exact G.st_val (v := .agg #[.int .i64 1, .int .i64 1, .int .i64 2, .int .u32 1, .string ⟨#[120]⟩, .int .i64 0, .slice A1 1 1]) (w' := wq) (by simp [execOp, go_sem, e14, c0, c1, c2, c3, c4, c5, c6, d0, d1, d2, d3, d4, d5, d6] <;> omega) ⟨_, rfl, Below.refl _ _, rfl⟩
    · refine G.wanted_yes (G.wanted_plain rfl) ?_
      have e1 : a.tmps[1]?.getD undef = .slice (some ⟨b, 0, none⟩) 3 3 := hS.at_ 1 rfl
      exact G.st_val (v := .slice (some ⟨b, 0, none⟩) 3 3) (w' := wq) (by simp [execOp, go_sem, e1, c0, c1, c2, c3, c4, c5, c6, d0, d1, d2, d3, d4, d5, d6] <;> omega) ⟨_, rfl, Below.refl _ _, rfl⟩
    · refine G.wanted_yes (G.wanted_plain rfl) ?_
      have e16 : a.tmps[16]?.getD undef = .slice (some ⟨b, 0, none⟩) 3 3 := hp ⟨3, .data⟩ (by simp) rfl _ rfl
      exact G.st_val (v := .pointer (some ⟨b, 14, none⟩)) (w' := wq) (by simp [execOp, go_sem, e16, c0, c1, c2, c3, c4, c5, c6, d0, d1, d2, d3, d4, d5, d6] <;> omega) ⟨_, rfl, Below.refl _ _, rfl⟩
    · refine G.wanted_yes (G.wanted_plain rfl) ?_
      have e17 : a.tmps[17]?.getD undef = .pointer (some ⟨b, 14, none⟩) := hp ⟨4, .data⟩ (by simp) rfl _ rfl
      exact G.st_val (v := .agg #[.int .i64 7, .int .i64 1, .int .i64 2, .int .u32 1, .string ⟨#[]⟩, .int .i64 0, .slice none 0 0]) (w' := wq) (by simp [execOp, go_sem, e17, c0, c1, c2, c3, c4, c5, c6, d0, d1, d2, d3, d4, d5, d6] <;> omega) ⟨_, rfl, Below.refl _ _, rfl⟩
    · refine G.wanted_yes (G.wanted_plain rfl) ?_
      have e15 : a.tmps[15]?.getD undef = .agg #[.int .i64 1, .int .i64 1, .int .i64 2, .int .u32 1, .string ⟨#[120]⟩, .int .i64 0, .slice A1 1 1] := hp ⟨2, .data⟩ (by simp) rfl _ rfl
      have e18 : a.tmps[18]?.getD undef = .agg #[.int .i64 7, .int .i64 1, .int .i64 2, .int .u32 1, .string ⟨#[]⟩, .int .i64 0, .slice none 0 0] := hp ⟨5, .data⟩ (by simp) rfl _ rfl
      exact G.st_val (v := .slice (some ⟨wq.heap.size, 0, none⟩) 2 2) (w' := wq.alloc (.cells #[.int .i64 1, .int .i64 1, .int .i64 2, .int .u32 1, .string ⟨#[120]⟩, .int .i64 0, .slice A1 1 1, .int .i64 7, .int .i64 1, .int .i64 2, .int .u32 1, .string ⟨#[]⟩, .int .i64 0, .slice none 0 0] 26)) (by simp [execOp, go_sem, e15, e18]) ⟨_, rfl, (Below.refl _ _).alloc (Nat.le_refl _) _, ls_two (e0 := (⟨1, 1, 2, 1, [120], 0, [7]⟩, .slice A1 1 1)) (e2 := (⟨7, 1, 2, 1, [], 0, []⟩, .slice none 0 0)) (hq.2 _ (by simp)) (hq.2 _ (by simp))⟩
    · refine G.wanted_yes (G.wanted_plain rfl) ?_
      have q19 : (fun w v => Ls w v [(⟨1, 1, 2, 1, [120], 0, [7]⟩, .slice A1 1 1), (⟨7, 1, 2, 1, [], 0, []⟩, .slice none 0 0)]) wq (G.slot a (some 19)) := hp ⟨6, .data⟩ (by simp) rfl _ rfl
      exact G.st_call (f := 13) (args := #[G.slot a (some 19)]) (by simp [execOp, go_sem, G.slot]) ((judge_any _ wq _ (by simp) q19 (by intro e he; simp only [List.mem_cons, List.not_mem_nil, or_false] at he; rcases he with rfl | rfl <;> simp)).mono fun e w' ⟨he, hB⟩ => ⟨_, he, _, rfl, hB, by rw [show judg (List.map (·.1) [((⟨1, 1, 2, 1, [120], 0, [7]⟩, .slice A1 1 1) : FE), (⟨7, 1, 2, 1, [], 0, []⟩, .slice none 0 0)]) = 1 from story_judg2]; rfl⟩)
    · refine G.wanted_yes (G.wanted_plain rfl) ?_
      have e20 : a.tmps[20]?.getD undef = .tuple #[.int .i64 1, .int .i64 370] := hp ⟨7, .data⟩ (by simp) rfl _ rfl
      exact G.st_val (v := .tuple #[.int .i64 1, .int .i64 370]) (w' := wq) (by simp [execOp, go_sem, e20, c0, c1, c2, c3, c4, c5, c6, d0, d1, d2, d3, d4, d5, d6] <;> omega) ⟨_, rfl, Below.refl _ _, rfl⟩
    · refine G.wanted_yes (G.wanted_plain rfl) ?_
      have e12 : a.tmps[12]?.getD undef = .tuple #[.int .i64 1, .int .i64 370] := hp ⟨8, .data⟩ (by simp) rfl _ rfl
      exact G.st_val (v := .int .i64 1) (w' := wq) (by simp [execOp, go_sem, e12, c0, c1, c2, c3, c4, c5, c6, d0, d1, d2, d3, d4, d5, d6] <;> omega) ⟨_, rfl, Below.refl _ _, rfl⟩
    · refine G.wanted_yes (G.wanted_plain rfl) ?_
      have e12 : a.tmps[12]?.getD undef = .tuple #[.int .i64 1, .int .i64 370] := hp ⟨8, .data⟩ (by simp) rfl _ rfl
      exact G.st_val (v := .int .i64 370) (w' := wq) (by simp [execOp, go_sem, e12, c0, c1, c2, c3, c4, c5, c6, d0, d1, d2, d3, d4, d5, d6] <;> omega) ⟨_, rfl, Below.refl _ _, rfl⟩
    · refine G.wanted_yes (G.wanted_plain rfl) ?_
      have e21 : a.tmps[21]?.getD undef = .int .i64 1 := hp ⟨9, .data⟩ (by simp) rfl _ rfl
      exact G.st_val (v := .int .i64 1) (w' := wq) (by simp [execOp, go_sem, e21, c0, c1, c2, c3, c4, c5, c6, d0, d1, d2, d3, d4, d5, d6] <;> omega) ⟨_, rfl, Below.refl _ _, rfl⟩
    · refine G.wanted_yes (G.wanted_plain rfl) ?_
      have e22 : a.tmps[22]?.getD undef = .int .i64 370 := hp ⟨10, .data⟩ (by simp) rfl _ rfl
      exact G.st_val (v := .int .i64 370) (w' := wq) (by simp [execOp, go_sem, e22, c0, c1, c2, c3, c4, c5, c6, d0, d1, d2, d3, d4, d5, d6] <;> omega) ⟨_, rfl, Below.refl _ _, rfl⟩
  · intro a wq hT hS hp
    have e13 : G.slot a (some 13) = .slice (some ⟨b, 0, none⟩) 3 3 := hp 0 _ rfl
    have e14 : G.slot a (some 14) = .pointer (some ⟨b, 0, none⟩) := hp 1 _ rfl
    have e15 : G.slot a (some 15) = .agg #[.int .i64 1, .int .i64 1, .int .i64 2, .int .u32 1, .string ⟨#[120]⟩, .int .i64 0, .slice A1 1 1] := hp 2 _ rfl
    have e16 : G.slot a (some 16) = .slice (some ⟨b, 0, none⟩) 3 3 := hp 3 _ rfl
    have e17 : G.slot a (some 17) = .pointer (some ⟨b, 14, none⟩) := hp 4 _ rfl
    have e18 : G.slot a (some 18) = .agg #[.int .i64 7, .int .i64 1, .int .i64 2, .int .u32 1, .string ⟨#[]⟩, .int .i64 0, .slice none 0 0] := hp 5 _ rfl
    have q19 : (fun w v => Ls w v [(⟨1, 1, 2, 1, [120], 0, [7]⟩, .slice A1 1 1), (⟨7, 1, 2, 1, [], 0, []⟩, .slice none 0 0)]) wq (G.slot a (some 19)) := hp 6 _ rfl
    have e20 : G.slot a (some 20) = .tuple #[.int .i64 1, .int .i64 370] := hp 7 _ rfl
    have e12 : G.slot a (some 12) = .tuple #[.int .i64 1, .int .i64 370] := hp 8 _ rfl
    have e21 : G.slot a (some 21) = .int .i64 1 := hp 9 _ rfl
    have e22 : G.slot a (some 22) = .int .i64 370 := hp 10 _ rfl
    have e4 : G.slot a (some 4) = .int .i64 1 := hp 11 _ rfl
    have e5 : G.slot a (some 5) = .int .i64 370 := hp 12 _ rfl
    have ha := G.act_of hS
    simp only [List.foldl_cons, List.foldl_nil, Act.put, List.setIfInBounds_toArray, List.set_cons_succ, List.set_cons_zero, e13, e14, e15, e16, e17, e18, e20, e12, e21, e22, e4, e5] at ha
    generalize G.slot a (some 19) = s19 at q19 ha
    clear hp hS e13 e14 e15 e16 e17 e18 e20 e12 e21 e22 e4 e5
    subst ha
    have hbq := below_tr (Below.refl _ _).drew hT
    have hL3 := HL.out.below hbq
    have hb3 := below_tr hb hbq
    clear hT hbq hb HL
    go_wp2_with fail
    refine (files_any _ 2 _ _ (by simp) hL3).mono ?_
    rintro e w4 ⟨u, ls, rfl, ⟨ho, -⟩, hls, hb4⟩
    have hl1 : ls.length = 1 := by
      have := congrArg List.length hls
      rw [List.length_map] at this
      rw [this]
      exact story_files
    have hsl := Sl.of_own ho
    rw [hl1] at hsl
    obtain ⟨-, Au, cu, rfl, -, -, -, -⟩ := hsl
    clear ho hls hl1
    have hbf := below_tr hb3 hb4
    go_wp2
    go_ret
    exact ⟨rfl, hbf⟩

end Go.Proofs.Ytfdijgdojejimaa
