/- DiskNone's walk: nothing is done to none. No condition beyond sizes. -/
import Derived.Test.YthjlmkmijehnjaaDl4
namespace Go.Proofs.Ythjlmkmijehnjaa
open Go.RowKit Go.Shelf K L
set_option linter.unusedVariables false
set_option linter.unusedSimpArgs false

set_option maxRecDepth 100000 in
set_option maxHeartbeats 8000000 in
theorem diskNone_walk (e : DE) (w : World) (F : Nat → Prop) (hko : e.1.okk) (hv : Sl w F 1 e.2 e.1.keep.length (e.1.keep.map Value.bool)) :
    Calls Try.prog 9 #[e.agg] w fun r w' => r = .returned (.bool true) ∧ Below w.heap.size w w' := by
  obtain ⟨o, v⟩ := e
  dsimp only at hko hv
  obtain ⟨Ak, ck, rfl⟩ : ∃ A c, v = .slice A o.keep.length c := by obtain ⟨-, A, c, h, -⟩ := hv; exact ⟨A, c, h⟩
  obtain ⟨W, hW⟩ : ∃ W, w.alloc (.cells #[.int .i64 o.kind, .int .i64 o.at_, .int .u8 (o.fill.toNat : Int), .slice Ak o.keep.length ck] 32) = W := ⟨_, rfl⟩
  have hb0 : Below w.heap.size w W := by rw [← hW]; exact below_al (Below.refl _ _) _
  have hx0 : W.heap[w.heap.size]? = some (.cells #[.int .i64 o.kind, .int .i64 o.at_, .int .u8 (o.fill.toNat : Int), .slice Ak o.keep.length ck] 32 (0, 0)) := by rw [← hW]; exact heap_alloc_last _ _
  have HX0 := Lib.hid hx0
  have HB0 := Lib.hid hb0
  have HV := Lib.hid (Sl.below (Sl.imp_lt hv (by decide)) (by decide) hb0)
  have HKO := Lib.hid hko
  have HW := Lib.hid hW
  unfold DE.agg DE.cells
  clear hb0 hx0 hv hko hW
  go_enter Try.func9, Try.ntmps9
  go_wp2_with fail
  rw [HW.out]
  refine (wakes_any W).mono ?_
  rintro r w1 ⟨rfl, hb1⟩
  have hx1 := heap_bl hb1 HX0.out
  have y0 := cell_in hx1 0
  have y1 := cell_in hx1 1
  have y2 := cell_in hx1 2
  have y3 := cell_in hx1 3
  simp at y0 y1 y2 y3
  have HD := Lib.hid (does_none (o, .slice Ak o.keep.length ck) w1 _ HKO.out (Sl.below HV.out (by decide) hb1))
  unfold DE.agg DE.cells at HD
  have HB1 := Lib.hid (below_tr HB0.out hb1)
  clear hb1 hx1
  dsimp only
  go_wp2_with fail
  refine HD.out.mono ?_
  rintro r w2 ⟨rfl, hb2⟩
  obtain ⟨W4, hW4⟩ : ∃ W4, w2.alloc (.cells (bvs zblk).toArray 27) = W4 := ⟨_, rfl⟩
  have hb4 : Below w2.heap.size w2 W4 := by rw [← hW4]; exact below_al (Below.refl _ _) _
  have hx4 : W4.heap[w2.heap.size]? = some (.cells (bvs zblk).toArray 27 (0, 0)) := by rw [← hW4]; exact heap_alloc_last _ _
  have HX4 := Lib.hid hx4
  have HW4 := Lib.hid hW4
  have HB4 := Lib.hid (below_tr (below_tr HB1.out hb2) hb4)
  clear hb2 hb4 hx4 hW4
  dsimp only
  go_wp2_with (first | (refine wl_alloc rfl 27 rfl zero_block ?_) | (refine wl_store_new rfl 27 _ _ rfl _ (bvs zblk).toArray _ rfl rfl (size_blk zblk_len) rfl (one_blk _) ?_; rw [HW4.out]) | (refine wpList_load_row rfl 27 _ rfl _ rfl _ _ _ _ HX4.out Try.underlying27 rfl (size_blk zblk_len) ?_) | (refine wl_build rfl 27 #[] rfl (vs := #[]) (by simp) build_zero ?_) | (refine wl_val rfl (ex_eql rfl zblk zblk rfl rfl zblk_len zblk_len) ?_; rw [show (zblk == zblk) = true from by decide]) | fail)
  refine (len_nil W4).mono ?_
  rintro r w5 ⟨rfl, rfl⟩
  dsimp only
  go_wp2_with fail
  refine (pend_nil W4).mono ?_
  rintro r w5 ⟨rfl, rfl⟩
  dsimp only
  go_wp2_with fail
  refine (dead_nil W4).mono ?_
  rintro r w5 ⟨rfl, rfl⟩
  dsimp only
  go_wp2_with fail
  refine (ops_nil W4).mono ?_
  rintro r w5 ⟨rfl, rfl⟩
  dsimp only
  go_wp2_with fail
  refine (copy_nil W4).mono ?_
  rintro r w5 ⟨rfl, rfl⟩
  dsimp only
  go_wp2
  go_ret
  exact ⟨rfl, HB4.out⟩

end Go.Proofs.Ythjlmkmijehnjaa
