/- Layer 2's laws: the layer does something; what an op does to a disk, or to none. No condition beyond sizes. -/
import Derived.Test.YthjlmkmijehnjaaDl1
namespace Go.Proofs.Ythjlmkmijehnjaa
open Go.RowKit Go.Shelf K L
set_option linter.unusedVariables false
set_option linter.unusedSimpArgs false

def seven : Blk := 7 :: List.replicate 63 0
theorem seven_len : seven.length = 64 := rfl
theorem build_seven (w : World) : (Instr.build 27 #[(0, .int .u8 7)]).run Try.prog w = .ok (.agg (bvs seven).toArray) w := by
  have h5 : ∀ w, (sizeOf 5).run Try.prog w = .ok 1 w := size_of (by kernel_rfl)
  unfold Instr.build
  simp only [Sem.run_bind, zero_block, Result.andThen_ok, run_underlying Try.underlying27, Value.cells, h5]
  rfl
def wd1 : PD := ⟨List.replicate 2 zblk, [(1, seven)], false, false, 0, 0, 1⟩
theorem wd_write : (PD.new 2).write 1 seven = (0, wd1) := rfl
theorem wd_read : wd1.read 1 = (0, seven, { wd1 with ops := 2 }) := rfl

set_option maxRecDepth 100000 in
set_option maxHeartbeats 4000000 in
theorem wakes_any (w : World) : Calls Try.prog 10 #[] w fun e w' => e = .returned (.bool true) ∧ Below w.heap.size w w' := by
  go_enter Try.func10, Try.ntmps10
  go_wp2_with fail
  refine (new_yes 2 w (by decide) (by decide)).mono ?_
  rintro e w1 ⟨b, rfl, hd1, hb1⟩
  have HW := Lib.hid (write_any hd1 (by decide) 1 (by decide) (by decide) seven seven_len)
  rw [wd_write] at HW
  have HB1 := Lib.hid hb1
  clear hd1 hb1
  go_wp2_with (first | (refine wl_val rfl (ex_build 27 #[(0, .const (.int .u8 7))] rfl (vs := #[(0, .int .u8 7)]) (by simp [Act.eval]) (build_seven _)) ?_) | fail)
  refine HW.out.mono ?_
  rintro e w2 ⟨rfl, S2, hS2, hd2, hu2⟩
  have HB2 := Lib.hid (HB1.out.trans (hu2.below (B := w.heap.size) HB1.out.size (fun x hx => hx.1)))
  have HR := Lib.hid (read_any hd2 (by decide) 1 (by decide) (by decide))
  rw [wd_read] at HR
  have hlo2 : ∀ x, S2 x → w.heap.size ≤ x := fun x hx => (hS2 x hx).elim (·.1) (fun h => Nat.le_trans HB1.out.size h)
  have HLO := Lib.hid hlo2
  clear hd2 hu2 hS2 hlo2
  go_wp2_with fail
  refine HR.out.mono ?_
  rintro e w3 ⟨rfl, hd3, hu3⟩
  obtain ⟨vs3, vp3, hd3⟩ := hd3
  obtain ⟨W4, hW4⟩ : ∃ W4, w3.alloc (.cells (bvs seven).toArray 27) = W4 := ⟨_, rfl⟩
  have hb4 : Below w3.heap.size w3 W4 := by rw [← hW4]; exact below_al (Below.refl _ _) _
  have hx4 : W4.heap[w3.heap.size]? = some (.cells (bvs seven).toArray 27 (0, 0)) := by rw [← hW4]; exact heap_alloc_last _ _
  have c4 : W4.cell? ⟨w3.heap.size, 0, none⟩ = some (.int .u8 7) := cell_in hx4 0
  have HW4 := Lib.hid hW4
  have HP := Lib.hid (pend_any (hd3.below hb4) (by decide))
  have HB4 := Lib.hid ((HB2.out.trans (hu3.below (B := w.heap.size) HB2.out.size HLO.out)).trans (hb4.mono (Nat.le_trans HB2.out.size hu3.size)))
  have HD4 := Lib.hid (hd3.below hb4)
  clear hW4 hx4 hb4 hd3 hu3
  go_wp2_with (first | (refine wl_alloc rfl 27 rfl zero_block ?_) | (refine wl_store_new rfl 27 _ _ rfl _ _ _ rfl rfl (size_blk seven_len) (size_zb seven_len) (one_blk _) ?_; rw [HW4.out]) | fail)
  refine HP.out.mono ?_
  rintro e w5 ⟨v5, rfl, ho5, hb5⟩
  have HL := Lib.hid (len_any (HD4.out.below hb5))
  have HB5 := Lib.hid (HB4.out.trans (hb5.mono HB4.out.size))
  obtain ⟨A5, c5, rfl, -, -, -, -⟩ := own_slice ho5
  clear ho5 hb5
  go_wp2_with fail
  refine HL.out.mono ?_
  rintro e w6 ⟨rfl, rfl⟩
  go_wp2
  go_ret
  exact ⟨rfl, HB5.out⟩

/-- What an op does to a disk. -/
def PD.does (d : PD) (o : DOp) : Int × Blk × PD :=
  if opk o.kind = 0 then d.read o.at_
  else if opk o.kind = 1 then ((d.write o.at_ (pat o.fill)).1, zblk, (d.write o.at_ (pat o.fill)).2)
  else if opk o.kind = 2 then (d.sync.1, zblk, d.sync.2)
  else if opk o.kind = 3 then ((d.arm o.at_).1, zblk, (d.arm o.at_).2)
  else if opk o.kind = 5 then ((d.fail o.at_).1, zblk, (d.fail o.at_).2)
  else (0, zblk, d.crash (kept o.keep))

theorem opk_cases (k : Int) : opk k = 0 ∨ opk k = 1 ∨ opk k = 2 ∨ opk k = 3 ∨ opk k = 4 ∨ opk k = 5 := by
  have h1 := Int.emod_nonneg (k % 18446744073709551616) (show (6 : Int) ≠ 0 by decide)
  have h2 := Int.emod_lt_of_pos (k % 18446744073709551616) (show (0 : Int) < 6 by decide)
  unfold opk; omega

end Go.Proofs.Ythjlmkmijehnjaa
