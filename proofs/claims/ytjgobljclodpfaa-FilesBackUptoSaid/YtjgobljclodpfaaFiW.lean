/- Layer 5's walks: wakes. No condition beyond sizes. -/
import Derived.Test.YtjgobljclodpfaaFiA
import Derived.Test.YtjgobljclodpfaaFi4
namespace Go.Proofs.Ytjgobljclodpfaa
open Go.RowKit Go.Shelf K L
set_option linter.unusedVariables false
set_option linter.unusedSimpArgs false

theorem wake_apply : applyF [] [⟨1, [97], [], 0, [1]⟩, ⟨2, [97], [], 1, [3]⟩] = (0, [⟨[97], [1, 3]⟩]) := by decide
theorem wake_get : getE [⟨[97], [1, 3]⟩] [97] = 0 ∧ getB [⟨[97], [1, 3]⟩] [97] = [1, 3] := by decide

set_option maxRecDepth 100000 in
set_option maxHeartbeats 4000000 in
theorem wakes_any (w : World) : Calls Try.prog 10 #[] w fun e w' => e = .returned (.bool true) ∧ Below w.heap.size w w' := by
  obtain ⟨W, hW⟩ : ∃ W, ((w.alloc (.cells #[.int .u8 1] 5)).alloc (.cells #[.int .u8 3] 5)).alloc (.cells #[.int .i64 1, .string ⟨#[97]⟩, .string ⟨#[]⟩, .int .i64 0, .slice (some ⟨w.heap.size, 0, none⟩) 1 1, .int .i64 2, .string ⟨#[97]⟩, .string ⟨#[]⟩, .int .i64 1, .slice (some ⟨w.heap.size + 1, 0, none⟩) 1 1] 37) = W := ⟨_, rfl⟩
  have hBW : Below w.heap.size w W := by rw [← hW]; exact below_al (below_al (below_al (Below.refl _ _) _) _) _
  have h0 : Bs W (· < W.heap.size) (.slice (some ⟨w.heap.size, 0, none⟩) 1 1) [1] := by
    rw [← hW]
    exact ((Sl.lit w (bvs [1]) 5 1 1 rfl (by simp [maxLen])).below (by decide) (below_al (below_al (Below.refl _ _) _) _)).imp (fun b hl hf => hl) (by decide)
  have h1 : Bs W (· < W.heap.size) (.slice (some ⟨w.heap.size + 1, 0, none⟩) 1 1) [3] := by
    rw [← hW]
    have := Sl.lit (w.alloc (.cells #[.int .u8 1] 5)) (bvs [3]) 5 1 1 rfl (by simp [maxLen])
    rw [World.size_alloc] at this
    exact (this.below (by decide) (below_al (Below.refl _ _) _)).imp (fun b hl hf => hl) (by decide)
  have ho : Ops W (fun _ => True) (.slice (some ⟨w.heap.size + 1 + 1, 0, none⟩) 2 2) [(⟨1, [97], [], 0, [1]⟩, .slice (some ⟨w.heap.size, 0, none⟩) 1 1), (⟨2, [97], [], 1, [3]⟩, .slice (some ⟨w.heap.size + 1, 0, none⟩) 1 1)] := by
    refine ⟨?_, fun e he => ?_⟩
    · rw [← hW]
      have := Sl.lit ((w.alloc (.cells #[.int .u8 1] 5)).alloc (.cells #[.int .u8 3] 5)) [.int .i64 1, .string ⟨#[97]⟩, .string ⟨#[]⟩, .int .i64 0, .slice (some ⟨w.heap.size, 0, none⟩) 1 1, .int .i64 2, .string ⟨#[97]⟩, .string ⟨#[]⟩, .int .i64 1, .slice (some ⟨w.heap.size + 1, 0, none⟩) 1 1] 37 5 2 rfl (by simp [maxLen])
      rw [World.size_alloc, World.size_alloc] at this
      exact this.imp (fun _ _ _ => trivial) (by decide)
    · simp only [List.mem_cons, List.not_mem_nil, or_false] at he
      rcases he with rfl | rfl
      · exact h0
      · exact h1
  have ha := apply_any (.slice none 0 0) _ [] _ W (fun _ => True) _ (Fs.nil W _) ho (by simp [cost, fls]) (by
    intro o ho
    simp only [List.mem_cons, List.not_mem_nil, or_false] at ho
    rcases ho with rfl | rfl <;> simp [FO.ok])
  have HA : Hid (Calls Try.prog 12 #[.agg #[.slice none 0 0], .slice (some ⟨w.heap.size + 1 + 1, 0, none⟩) 2 2] W (Applied W (0, [⟨[97], [1, 3]⟩]))) := Lib.hid (by rw [← wake_apply]; exact ha)
  clear ha
  have HBW := Lib.hid hBW
  clear h0 h1 ho hBW
  go_enter Try.func10, Try.ntmps10
  go_wp2_with fail
  refine HA.out.mono ?_
  rintro e w1 ⟨v1, es1, rfl, hfl, hs1', hb1⟩
  have hs1 := hs1'.fs
  dsimp only at hfl ⊢
  obtain ⟨A1, c1, rfl, -, -⟩ := fs_form hs1
  obtain ⟨W2, hW2⟩ : ∃ W2, w1.alloc (.cells #[.slice A1 es1.length c1] 24) = W2 := ⟨_, rfl⟩
  have hB2 : Below w1.heap.size w1 W2 := by rw [← hW2]; exact below_al (Below.refl _ _) _
  have hx2 : W2.heap[w1.heap.size]? = some (.cells #[.slice A1 es1.length c1] 24 (0, 0)) := by rw [← hW2]; exact heap_alloc_new _ _
  have x0 := cell_of hx2 0
  simp at x0
  have hg := get_any [97] _ es1 W2 _ (hs1.below hB2) (by rw [hfl]; decide)
  rw [hfl, wake_get.1, wake_get.2] at hg
  have HG := Lib.hid hg
  have HB2 := Lib.hid (below_tr (below_tr HBW.out hb1) hB2)
  clear hg hB2 hx2 hb1 hs1 hW
  go_wp2_with fail
  refine HG.out.mono ?_
  rintro e w3 ⟨vb, rfl, ho3, hb3⟩
  have hb := ho3.bs
  obtain ⟨Ab, cb, rfl, l1, l2, -, -⟩ := hb.open_
  obtain ⟨b8, o8, rfl, hb8, hlt8, hc8⟩ := Sl.cells hb (by decide) (by decide)
  have c8 := hc8 1 (.int .u8 3) rfl
  have HB3 := Lib.hid (below_tr HB2.out hb3)
  clear hc8 hb ho3 hb3 hW2
  go_wp2
  go_ret
  exact ⟨rfl, HB3.out⟩

end Go.Proofs.Ytjgobljclodpfaa
