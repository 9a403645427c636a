/- Layer 2's laws: the block of a byte, kinds, choices in memory of their own; the layer does something. No condition beyond sizes. -/
import Derived.Test.YthjlmkmijehnjaaDk10
import Derived.Stop.BytesEq
import Derived.Laws.BitsAllLaws
namespace Go.Proofs.Ythjlmkmijehnjaa
open Go.RowKit Go.Shelf K L
set_option linter.unusedVariables false
set_option linter.unusedSimpArgs false

/-- Two blocks are held against each other. -/
theorem ex_neq {o : Oper} {a : Act} {w : World} {x y : Operand} (ho : o.op = .binOp .neq 27 x y 27) (b c : Blk) (hx : a.eval x = .agg (bvs b).toArray) (hy : a.eval y = .agg (bvs c).toArray) (hb : b.length = 64) (hc : c.length = 64) :
    (execOp a.eval o).run Try.prog w = .ok (.value (.bool (b != c))) w := by
  have h := run_equalIn_bytes (P := Try.prog) w 9998 27 5 64 Try.underlying27 Try.underlying5 (size_of (by kernel_rfl)) b c hb hc
  change (Op.equalIn 10000 27 (.agg (bvs b).toArray) (.agg (bvs c).toArray)).run Try.prog w = _ at h
  unfold execOp
  simp only [ho, hx, hy, Sem.run_bind, run_eqGuard_agg (P := Try.prog) w .neq 27 x y (bvs b).toArray (bvs c).toArray (by kernel_rfl), Result.andThen_ok, run_neq_struct, h, Sem.run_pure]
  rfl
theorem ex_eql {o : Oper} {a : Act} {w : World} {x y : Operand} (ho : o.op = .binOp .eql 27 x y 27) (b c : Blk) (hx : a.eval x = .agg (bvs b).toArray) (hy : a.eval y = .agg (bvs c).toArray) (hb : b.length = 64) (hc : c.length = 64) :
    (execOp a.eval o).run Try.prog w = .ok (.value (.bool (b == c))) w := by
  have h := run_equalIn_bytes (P := Try.prog) w 9998 27 5 64 Try.underlying27 Try.underlying5 (size_of (by kernel_rfl)) b c hb hc
  change (Op.equalIn 10000 27 (.agg (bvs b).toArray) (.agg (bvs c).toArray)).run Try.prog w = _ at h
  unfold execOp
  simp only [ho, hx, hy, Sem.run_bind, run_eqGuard_agg (P := Try.prog) w .eql 27 x y (bvs b).toArray (bvs c).toArray (by kernel_rfl), Result.andThen_ok, run_eql_struct, h, Sem.run_pure]
theorem wl_val {P : Program} {ops : Array Oper} {rest : List Oper} {o : Oper} {a : Act} {w w' : World} {Q : Exit → Act → World → Prop} {v : Value} (hw : Region.wanted o (yielded ops a.tmps) = true) (hr : (execOp a.eval o).run P w = .ok (.value v) w') (h : wpList P ops Q rest (a.put o.dst v) w') : wpList P ops Q (o :: rest) a w := by
  refine BigFrame.wpList_want hw fun K hK => ?_
  unfold Oper.wp
  rw [hr]
  exact hK _ _ h

theorem upd_low {S : Nat → Prop} {w W w' : World} (hb : Below w.heap.size w W) (hu : Upd S W w') (hS : ∀ x, S x → w.heap.size ≤ x) : Below w.heap.size w w' := hb.trans (hu.below hb.size hS)

/-- The block of a byte. -/
def pat (x : UInt8) : Blk := (List.range 64).map fun i => x ^^^ UInt8.ofNat i
theorem pat_len (x : UInt8) : (pat x).length = 64 := by simp [pat]
/-- .. as far as j. -/
def patTo (x : UInt8) (j : Nat) : Blk := (List.range j).map (fun i => x ^^^ UInt8.ofNat i) ++ List.replicate (64 - j) 0
theorem patTo_zero (x : UInt8) : patTo x 0 = zblk := rfl
theorem patTo_all (x : UInt8) : patTo x 64 = pat x := by simp [patTo, pat]
theorem patTo_len (x : UInt8) (j : Nat) (h : j ≤ 64) : (patTo x j).length = 64 := by simp [patTo]; omega
theorem patTo_step (x : UInt8) (j : Nat) (h : j < 64) : bvs (patTo x (j + 1)) = (bvs (patTo x j)).set j (bv (x ^^^ UInt8.ofNat j)) := by
  have e : patTo x (j + 1) = (patTo x j).set j (x ^^^ UInt8.ofNat j) := by
    unfold patTo
    rw [List.set_append_right _ _ (by simp)]
    simp only [List.length_map, List.length_range, Nat.sub_self]
    rw [show 64 - j = 64 - (j + 1) + 1 from by omega, List.replicate_succ (n := 64 - (j + 1)), List.set_cons_zero, List.range_succ, List.map_append, List.append_assoc]
    rfl
  rw [e]; unfold bvs; rw [List.map_set]
theorem xor_u8 (x : UInt8) (j : Nat) (h : j < 64) : bits .xor .u8 (x.toNat : Int) (j : Int) = ((x ^^^ UInt8.ofNat j).toNat : Int) := by
  have hx := x.toNat_lt
  have e : (UInt8.ofNat j).toNat = j := by simp; omega
  rw [u8_xor_nat x.toNat j (by simpa using hx) (by omega)]
  simp [UInt8.toNat_xor, e]

set_option maxRecDepth 100000 in
set_option maxHeartbeats 4000000 in
theorem block_any (x : UInt8) (w : World) : Calls Try.prog 14 #[.int .u8 (x.toNat : Int)] w fun e w' => e = .returned (.agg (bvs (pat x)).toArray) ∧ Below w.heap.size w w' := by
  obtain ⟨W, hW⟩ : ∃ W, (w.alloc (.cells (bvs zblk).toArray 27)).alloc (.cells (bvs zblk).toArray 27) = W := ⟨_, rfl⟩
  have hb0 : Below w.heap.size w W := by rw [← hW]; exact below_al (below_al (Below.refl _ _) _) _
  have hx0 : W.heap[w.heap.size]? = some (.cells (bvs zblk).toArray 27 (0, 0)) := by rw [← hW]; exact heap_al (heap_alloc_last _ _) _
  have hx1 : W.heap[w.heap.size + 1]? = some (.cells (bvs zblk).toArray 27 (0, 0)) := by rw [← hW]; have := heap_alloc_last (w.alloc (.cells (bvs zblk).toArray 27)) (.cells (bvs zblk).toArray 27); rwa [World.size_alloc] at this
  have HB := Lib.hid hb0
  have HX0 := Lib.hid hx0
  have HX1 := Lib.hid hx1
  have HW := Lib.hid hW
  have hxl := x.toNat_lt
  clear hb0 hx0 hx1 hW
  go_enter Try.func14, Try.ntmps14
  go_wp2_with (first | (refine wl_alloc rfl 27 rfl zero_block ?_; try rw [World.size_alloc]))
  rw [HW.out]
  go_loopw [5] (fun i wr => ∃ j : Nat, j ≤ 64 ∧ i = .int .i64 j ∧ wr.heap[w.heap.size + 1]? = some (.cells (bvs (patTo x j)).toArray 27 (0, 0)) ∧ Upd (· = w.heap.size + 1) W wr) (fun i _ => 64 - (intOf i).toNat)
  case atStart => exact ⟨0, Nat.zero_le _, rfl, HX1.out, Upd.refl _ _⟩
  case round =>
    obtain ⟨j, hj, rfl, hx, hu⟩ := hrel
    by_cases hlt : j < 64
    · have hxo := Lib.hid (xor_u8 x j hlt)
      have c0 : wr.cell? ⟨w.heap.size + 1, j, none⟩ = some (bv ((patTo x j)[j]'(by rw [patTo_len x j (by omega)]; exact hlt))) := by
        rw [cell_in hx j, List.getElem?_toArray]
        unfold bvs
        rw [List.getElem?_map, List.getElem?_eq_getElem (by rw [patTo_len x j (by omega)]; exact hlt)]; rfl
      have f0 := frozen_in hx j
      have hs : (wr.setCell ⟨w.heap.size + 1, j, none⟩ (.int .u8 ((x ^^^ UInt8.ofNat j).toNat : Int))).heap[w.heap.size + 1]? = some (.cells (bvs (patTo x (j + 1))).toArray 27 (0, 0)) := by
        have := heap_setCell_same wr (w.heap.size + 1) j _ _ (bv (x ^^^ UInt8.ofNat j)) hx
        rw [patTo_step x j hlt]
        simpa [bv] using this
      have HS := Lib.hid hs
      have HU := Lib.hid (hu.setCell ⟨w.heap.size + 1, j, none⟩ (.int .u8 ((x ^^^ UInt8.ofNat j).toNat : Int)) (fun _ => rfl))
      have hjj : (j : Int) % 256 = j := by omega
      generalize (patTo x j)[j]'(by rw [patTo_len x j (by omega)]; exact hlt) = old at c0
      unfold bv at c0
      have hxb := hxo.out
      clear hx hu hs
      go_wp2
      rw [show x.toNat ^^^ j % 256 = (x ^^^ UInt8.ofNat j).toNat from by simp [UInt8.toNat_xor]]
      exact ⟨⟨j + 1, by omega, by go_num, HS.out, HU.out⟩, by simp only [intOf]; omega⟩
    · obtain rfl : j = 64 := by omega
      rw [patTo_all] at hx
      have HX := Lib.hid hx
      have HZ := Lib.hid (hu.heap HX0.out (show w.heap.size ≠ w.heap.size + 1 by omega))
      have HF := Lib.hid (setRow_heap wr w.heap.size _ (bvs (pat x)).toArray _ _ HZ.out)
      have HBF := Lib.hid (upd_low (S := fun b => w.heap.size ≤ b) HB.out ((hu.mono fun b _ e => by omega).trans ((upd_setRow wr w.heap.size (bvs (pat x)).toArray).mono fun b _ e => by omega) (fun _ _ h => h)) (fun _ h => h))
      clear hx hu
      go_wp2_with (first | (refine wpList_load_row rfl 27 _ rfl _ rfl _ _ _ _ HX.out Try.underlying27 rfl (size_blk (pat_len x)) ?_) | (refine wl_store_row rfl 27 _ _ rfl _ _ _ _ HZ.out rfl rfl (size_blk (pat_len x)) (size_zb (pat_len x)) (one_blk _) ?_))
      exact bodyPost_ret (results_cell_row Try.results14 _ _ _ _ _ _ _ rfl HF.out Try.underlying27 rfl (size_blk (pat_len x))) rfl ⟨rfl, HBF.out⟩

/-- What is done to a disk. -/
structure DOp where
  kind : Int
  at_ : Int
  fill : UInt8
  keep : List Bool
structure DOp.okk (o : DOp) : Prop where
  k1 : -9223372036854775808 ≤ o.kind
  k2 : o.kind ≤ 9223372036854775807
  a1 : -9223372036854775808 ≤ o.at_
  a2 : o.at_ ≤ 9223372036854775807
  kl : o.keep.length ≤ 1048576
/-- An op with the slice value of its choices. -/
abbrev DE := DOp × Value
def DE.cells (e : DE) : List Value := [.int .i64 e.1.kind, .int .i64 e.1.at_, .int .u8 (e.1.fill.toNat : Int), e.2]
def DE.agg (e : DE) : Value := .agg e.cells.toArray
def opk (k : Int) : Int := k % 18446744073709551616 % 6

set_option maxHeartbeats 1000000 in
theorem kind_any2 (e : DE) (w : World) (k1 : -9223372036854775808 ≤ e.1.kind) (k2 : e.1.kind ≤ 9223372036854775807) (hv : ∃ A n c, e.2 = .slice A n c) : Calls Try.prog 13 #[e.agg] w fun r w' => r = .returned (.int .i64 (opk e.1.kind)) ∧ Below w.heap.size w w' := by
  obtain ⟨o, v⟩ := e
  obtain ⟨A, n, c, hv⟩ := hv
  dsimp only at hv k1 k2
  subst hv
  unfold DE.agg DE.cells
  have h0 := Int.emod_nonneg o.kind (show (18446744073709551616 : Int) ≠ 0 by decide)
  have h1 := Int.emod_nonneg (o.kind % 18446744073709551616) (show (6 : Int) ≠ 0 by decide)
  have h2 := Int.emod_lt_of_pos (o.kind % 18446744073709551616) (show (0 : Int) < 6 by decide)
  go_enter Try.func13, Try.ntmps13
  have e : wrap64 ((IntKind.u64.wrap o.kind).tmod 6) = opk o.kind := by
    rw [IntKind.wrap_u64, Int.tmod_eq_emod_of_nonneg (by omega)]
    unfold opk wrap64
    omega
  have HE := Lib.hid e
  clear e
  go_wp2
  go_ret
  exact ⟨by show Ending.returned (.int .i64 (wrap64 ((IntKind.u64.wrap o.kind).tmod 6))) = _; rw [HE.out], below_al (Below.refl _ _) _⟩

theorem elBool : Elem Try.prog 30 4 1 1 (.bool false) := ⟨Try.underlying30, by kernel_rfl, rfl, by decide⟩
theorem infoBool2 : ∃ i0, Try.prog.info? 4 = some i0 ∧ i0.zero = some (.bool false) ∧ i0.size = 1 ∧ i0.bytes = 1 := info_parts (by kernel_rfl)

set_option maxHeartbeats 1000000 in
theorem keeps_any (v : Value) (ks : List Bool) (w : World) (F : Nat → Prop) (h : Sl w F 1 v ks.length (ks.map Value.bool)) (hl : ks.length ≤ 1048576) : Calls Try.prog 34 #[v] w fun e w' =>
    ∃ v', e = .returned v' ∧ Sl w' (w.heap.size ≤ ·) 1 v' ks.length (ks.map Value.bool) ∧ Below w.heap.size w w' := by
  obtain ⟨i0, hi, hz0, hz1, hz2⟩ := infoBool2
  have H := Lib.hid h
  obtain ⟨-, A, c, rfl, -, -, -, -⟩ := h
  go_enter Try.func34, Try.ntmps34
  go_wp2_with (first
    | (at_make; go_must (refine wpList_make_own _ rfl _ _ 30 rfl w.heap.size 4 i0 (.bool false) 1 Try.underlying30 hi hz0 hz1 .i64 .i64 _ (ks.length + 3) rfl rfl (by first | rfl | (push_cast; rfl)) (by rw [hz2]; omega) (by simp only [maxLen]; omega) (Nat.le_refl _) ?_); intro w1 ho1 hg1; have HO := Lib.hid ho1; have HG := Lib.hid (show Below w.heap.size w w1 from ⟨hg1.os, hg1.tape, hg1.output, hg1.size, fun b hb => hg1.block b hb (by simp)⟩); clear ho1 hg1)
    | (at_builtin; go_must (refine app elBool rfl _ _ rfl w.heap.size HO.out (Sl.below H.out (by decide) HG.out) rfl rfl (fun u hu => by obtain ⟨x, -, rfl⟩ := List.mem_map.1 hu; rfl) (by omega) (by decide) HG.out.size ?_); intro v2 w2 ho2 hg2; have HO2 := Lib.hid ho2; have HB2 := Lib.hid (own_below HG.out HO.out hg2 (Nat.le_refl _)); clear ho2 hg2))
  go_ret
  have := HO2.out
  rw [Nat.zero_add, List.nil_append] at this
  exact ⟨_, rfl, Sl.of_own this, HB2.out⟩

end Go.Proofs.Ythjlmkmijehnjaa
