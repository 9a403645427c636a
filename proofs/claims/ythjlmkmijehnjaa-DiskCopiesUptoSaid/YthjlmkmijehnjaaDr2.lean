/- Layer 2's reference: what a sector holds, all, what lives. No condition beyond sizes. -/
import Derived.Test.YthjlmkmijehnjaaDr1
import Derived.Test.YthjlmkmijehnjaaDk8
import Derived.Test.YthjlmkmijehnjaaSr
namespace Go.Proofs.Ythjlmkmijehnjaa
open Go.RowKit Go.Shelf K L
set_option linter.unusedVariables false
set_option linter.unusedSimpArgs false

/-- A reference's disk in memory: its rows lie where F says. -/
structure RS (w : World) (F : Nat → Prop) (vs vp : Value) (r : RD) : Prop where
  safe : Sl w F 64 vs r.safe.length (r.safe.flatMap bvs)
  pend : Sl w F 65 vp r.pend.length (r.pend.flatMap wcells)
  ok : r.ok
theorem RS.below {w w' : World} {F : Nat → Prop} {vs vp : Value} {r : RD} (h : RS w F vs vp r) (hb : Below w.heap.size w w') : RS w' F vs vp r := ⟨Sl.below h.safe (by decide) hb, Sl.below h.pend (by decide) hb, h.ok⟩
theorem RS.imp {w : World} {F G : Nat → Prop} {vs vp : Value} {r : RD} (h : RS w F vs vp r) (hF : ∀ b, b < w.heap.size → F b → G b) : RS w G vs vp r := ⟨h.safe.imp hF (by decide), h.pend.imp hF (by decide), h.ok⟩
theorem RS.upd {S : Nat → Prop} {w w' : World} {F : Nat → Prop} {vs vp : Value} {r : RD} (h : RS w F vs vp r) (hu : Upd S w w') (hF : ∀ b, F b → ¬ S b) : RS w' F vs vp r := ⟨hu.sl h.safe (by decide) hF, hu.sl h.pend (by decide) hF, h.ok⟩
theorem RS.with {w : World} {F : Nat → Prop} {vs vp : Value} {r r' : RD} (h : RS w F vs vp r) (h1 : r'.safe = r.safe) (h2 : r'.pend = r.pend) (hok : r'.ok) : RS w F vs vp r' := ⟨by rw [h1]; exact h.safe, by rw [h2]; exact h.pend, hok⟩

theorem info_rw : (Try.prog.info? 75).map (·.size) = some 65 := by kernel_rfl
theorem zero_rw : ∀ w, (zeroValue 75).run Try.prog w = .ok (.agg (wcells (0, zblk)).toArray) w := zero_of (by kernel_rfl)
theorem size_rw {p : Nat × Blk} (h : p.2.length = 64) : (Try.prog.info? 75).map (·.size) = some (wcells p).toArray.size := by rw [info_rw, List.size_toArray, wcells_len p h]
theorem size_rw' {p : Nat × Blk} (h : p.2.length = 64) : (Try.prog.info? 75).map (·.size) = some (wcells p).length := by rw [info_rw, wcells_len p h]
theorem rbox {w : World} {q : Nat} {p : Nat × Blk} (h : w.heap[q]? = some (.cells (wcells p).toArray 75 (0, 0))) : w.cell? ⟨q, 0, none⟩ = some (.int .i64 (p.1 : Nat)) ∧ w.rangeAt q 1 (bvs p.2) := by
  refine ⟨cell_of_row w q 0 _ _ _ h, fun j u hu => ?_⟩
  rw [cell_of_row w q (1 + j) _ _ _ h, List.getElem?_toArray, wcells, Nat.add_comm, List.getElem?_cons_succ]
  exact hu

/-- What the sector holds behind j of the pending writes. -/
def RD.upto (r : RD) (k j : Nat) : Blk := (lastAt k (r.pend.take j)).getD (r.safe.getD k zblk)
theorem RD.upto_all (r : RD) (k : Nat) : r.upto k r.pend.length = r.holds k := by unfold RD.upto RD.holds; rw [List.take_length]
theorem RD.upto_zero (r : RD) (k : Nat) (h : k < r.safe.length) : r.upto k 0 = r.safe[k] := by unfold RD.upto; rw [List.take_zero, List.getD_eq_getElem?_getD, List.getElem?_eq_getElem h]; rfl
theorem RD.upto_yes {r : RD} {k j : Nat} (hj : j < r.pend.length) (h : r.pend[j].1 = k) : r.upto k (j + 1) = r.pend[j].2 := by unfold RD.upto; rw [take_snoc r.pend j hj, lastAt_snoc, if_pos h]; rfl
theorem RD.upto_no {r : RD} {k j : Nat} (hj : j < r.pend.length) (h : ¬ r.pend[j].1 = k) : r.upto k (j + 1) = r.upto k j := by unfold RD.upto; rw [take_snoc r.pend j hj, lastAt_snoc, if_neg h]
theorem RD.upto_len {r : RD} (h : r.ok) (k j : Nat) : (r.upto k j).length = 64 := by
  unfold RD.upto
  cases hl : lastAt k (r.pend.take j) with
  | some b => exact (h.pnd _ (List.mem_of_mem_take (lastAt_mem hl))).2
  | none =>
    rw [Option.getD_none, List.getD_eq_getElem?_getD]
    cases hs : r.safe[k]? with
    | none => rfl
    | some x => exact h.blk x (List.mem_of_getElem? hs)
theorem upd_below {S : Nat → Prop} {w W w' : World} (hb : Below w.heap.size w W) (hu : Upd S W w') (hS : ∀ x, S x → w.heap.size ≤ x) : Below w.heap.size w w' := hb.trans (hu.below hb.size hS)

set_option maxRecDepth 100000 in
set_option maxHeartbeats 8000000 in
theorem holds_any (vs vp : Value) (r : RD) (k : Nat) (w : World) (F : Nat → Prop) (h : RS w F vs vp r) (hk : k < r.safe.length) (hn : r.ops < 1073741824) :
    Calls Try.prog 43 #[rv vs vp r, .int .i64 (k : Nat)] w fun e w' => e = .returned (.agg (bvs (r.holds k)).toArray) ∧ Below w.heap.size w w' := by
  have hs := h.safe
  have hp := h.pend
  have hok := h.ok
  have hnum := hok.num
  have hfew := hok.few
  obtain ⟨-, As, cs, rfl, s1, s2, -, -⟩ := h.safe
  obtain ⟨-, Ap, cp, rfl, p1, p2, -, -⟩ := h.pend
  unfold maxLen at s2 p2
  unfold rv
  obtain ⟨W1, hW1⟩ : ∃ W, (w.alloc (.cells #[.slice As r.safe.length cs, .slice Ap r.pend.length cp, .bool r.dead, .int .i64 r.left, .int .i64 r.fails, .int .i64 (r.ops : Nat)] 43)).alloc (.cells (bvs zblk).toArray 27) = W := ⟨_, rfl⟩
  have hb1 : Below w.heap.size w W1 := by rw [← hW1]; exact below_al (below_al (Below.refl _ _) _) _
  have hx1 : W1.heap[w.heap.size]? = some (.cells #[.slice As r.safe.length cs, .slice Ap r.pend.length cp, .bool r.dead, .int .i64 r.left, .int .i64 r.fails, .int .i64 (r.ops : Nat)] 43 (0, 0)) := by rw [← hW1]; exact heap_al (heap_alloc_last _ _) _
  have hz1 : W1.heap[w.heap.size + 1]? = some (.cells (bvs zblk).toArray 27 (0, 0)) := by rw [← hW1]; have := heap_alloc_last (w.alloc (.cells #[.slice As r.safe.length cs, .slice Ap r.pend.length cp, .bool r.dead, .int .i64 r.left, .int .i64 r.fails, .int .i64 (r.ops : Nat)] 43)) (.cells (bvs zblk).toArray 27); rwa [World.size_alloc] at this
  have hle1 : w.heap.size + 1 + 1 ≤ W1.heap.size := by rw [← hW1, World.size_alloc, World.size_alloc]; exact Nat.le_refl _
  have c0 := cell_in hx1 0
  have c1 := cell_in hx1 1
  simp at c0 c1
  obtain ⟨bs, os, rfl, hbs, hrs⟩ := sl_range (fun x hx => by rw [bvs_len]; exact hok.blk x hx) (by decide) (Sl.below hs (by decide) hb1) k hk
  have hB0 := hok.blk _ (List.getElem_mem hk)
  have hup := RD.upto_zero r k hk
  generalize r.safe[k] = B0 at *
  obtain ⟨W2, hW2⟩ : ∃ W, W1.alloc (.cells (bvs B0).toArray 27) = W := ⟨_, rfl⟩
  have hb2 : Below W1.heap.size W1 W2 := by rw [← hW2]; exact below_al (Below.refl _ _) _
  have hx2 : W2.heap[W1.heap.size]? = some (.cells (bvs B0).toArray 27 (0, 0)) := by rw [← hW2]; exact heap_alloc_last _ _
  have HRS := Lib.hid hrs
  have HB0 := Lib.hid hB0
  have HW1 := Lib.hid hW1
  have HW2 := Lib.hid hW2
  have HP := Lib.hid (Sl.below (Sl.below hp (by decide) hb1) (by decide) hb2)
  have HOK := Lib.hid hok
  have HX2 := Lib.hid hx2
  have PNE := Lib.hid ((Sl.below (Sl.below (Sl.imp_lt hp (by decide)) (by decide) hb1) (by decide) hb2).imp (G := fun b => b ≠ W1.heap.size) (fun b _ hb => by omega) (by decide))
  have HBB := Lib.hid (below_tr hb1 hb2)
  have HZ2 := Lib.hid (heap_bl hb2 hz1)
  have HUP := Lib.hid hup
  have d1 := cell_in (heap_bl hb2 hx1) 1
  simp at d1
  clear h hs hp hok hx1 hz1 hrs hB0 hb1 hb2 hx2 hW1 hW2 hup
  go_enter Try.func43, Try.ntmps43
  go_wp2_with (first | (refine wl_alloc rfl 27 rfl zero_block ?_; try rw [HW1.out]) | (refine wpList_load_mid rfl 27 _ rfl _ _ rfl _ _ HRS.out Try.underlying27 rfl (size_blk' HB0.out) ?_) | (refine wl_store_new rfl 27 _ _ rfl _ _ _ rfl rfl (size_blk HB0.out) (size_zb HB0.out) (one_blk _) ?_; rw [HW2.out]))
  go_loopw [16] (fun i wr => ∃ j : Nat, j ≤ r.pend.length ∧ i = .int .i64 j ∧ wr.heap[W1.heap.size]? = some (.cells (bvs (r.upto k j)).toArray 27 (0, 0)) ∧ Upd (· = W1.heap.size) W2 wr) (fun i _ => r.pend.length - (intOf i).toNat)
  case atStart => exact ⟨0, Nat.zero_le _, rfl, by rw [HUP.out]; exact HX2.out, Upd.refl _ _⟩
  case round =>
    obtain ⟨j, hj, rfl, hx, hu⟩ := hrel
    have hl64 := RD.upto_len HOK.out k j
    by_cases hlt : j < r.pend.length
    · have hlow : ∀ b, b < W1.heap.size → b ≠ W1.heap.size := fun b hb => Nat.ne_of_lt hb
      obtain ⟨bp, op, rfl, hbp, hrp⟩ := sl_range (fun p hp => wcells_len p (HOK.out.pnd p hp).2) (by decide) (hu.sl (F := fun b => b ≠ W1.heap.size) PNE.out (by decide) (fun b hb => hb)) j hlt
      have hp64 := (HOK.out.pnd _ (List.getElem_mem hlt)).2
      have hyes := RD.upto_yes (k := k) hlt
      have hno := RD.upto_no (k := k) hlt
      generalize r.pend[j] = p at *
      obtain ⟨W4, hW4⟩ : ∃ W4, wr.alloc (.cells (wcells p).toArray 75) = W4 := ⟨_, rfl⟩
      have hb4 : Below wr.heap.size wr W4 := by rw [← hW4]; exact below_al (Below.refl _ _) _
      have hx4 : W4.heap[wr.heap.size]? = some (.cells (wcells p).toArray 75 (0, 0)) := by rw [← hW4]; exact heap_alloc_last _ _
      have hx5 := heap_bl hb4 hx
      have hu4 := hu.trans (T := fun _ => False) (Upd.of_below hb4) (fun _ _ h => h.elim)
      have x0 := (rbox hx4).1
      have HX4 := Lib.hid (rbox hx4).2
      have HX5 := Lib.hid hx5
      have HU4 := Lib.hid hu4
      have HP := Lib.hid hp64
      have HR := Lib.hid hrp
      have HW4 := Lib.hid hW4
      have HL := Lib.hid hl64
      by_cases he : p.1 = k
      · have hke : ((p.1 : Int) == (k : Int)) = true := by simp [he]
        have hke2 : (p.1 == k) = true := by simp [he]
        have hke3 : decide (p.1 = k) = true := by simp [he]
        have HN := Lib.hid (hyes he)
        clear he hyes hno hx hu hl64 hlow hrp hp64 hW4 hb4 hx4 hx5 hu4
        go_wp2_with (first | (refine wpList_load_mid rfl 75 _ rfl _ _ rfl _ _ HR.out Try.underlying75 rfl (size_rw' HP.out) ?_) | (refine wl_alloc rfl 75 rfl zero_rw ?_) | (refine wl_store_new rfl 75 _ _ rfl _ _ _ rfl rfl (size_rw HP.out) (by rw [List.size_toArray, List.size_toArray, wcells_len p HP.out, wcells_len _ zblk_len]) (one_wcells p) ?_; rw [HW4.out]) | (refine wpList_load_mid rfl 27 _ rfl _ _ rfl _ _ HX4.out Try.underlying27 rfl (size_blk' HP.out) ?_) | (refine wl_store_row rfl 27 _ _ rfl _ _ _ _ HX5.out rfl rfl (size_blk HP.out) (by rw [List.size_toArray, List.size_toArray, bvs_len, bvs_len, HL.out, HP.out]) (one_blk _) ?_))
        exact ⟨⟨j + 1, by omega, by go_num, by rw [HN.out]; exact setRow_heap _ _ _ _ _ _ HX5.out, HU4.out.trans (upd_setRow _ _ _) (fun _ _ h => h)⟩, by simp only [intOf]; omega⟩
      · have hke : ((p.1 : Int) == (k : Int)) = false := by rw [beq_eq_false_iff_ne]; omega
        have hke2 : (p.1 == k) = false := by simp [he]
        have hke3 : decide (p.1 = k) = false := by simp [he]
        have HN := Lib.hid (hno he)
        clear he hyes hno hx hu hl64 hlow hrp hp64 hW4 hb4 hx4 hx5 hu4
        go_wp2_with (first | (refine wpList_load_mid rfl 75 _ rfl _ _ rfl _ _ HR.out Try.underlying75 rfl (size_rw' HP.out) ?_) | (refine wl_alloc rfl 75 rfl zero_rw ?_) | (refine wl_store_new rfl 75 _ _ rfl _ _ _ rfl rfl (size_rw HP.out) (by rw [List.size_toArray, List.size_toArray, wcells_len p HP.out, wcells_len _ zblk_len]) (one_wcells p) ?_; rw [HW4.out]))
        exact ⟨⟨j + 1, by omega, by go_num, by rw [HN.out]; exact HX5.out, HU4.out⟩, by simp only [intOf]; omega⟩
    · obtain rfl : j = r.pend.length := by omega
      rw [RD.upto_all] at hx hl64
      have hz := hu.heap HZ2.out (show w.heap.size + 1 ≠ W1.heap.size by omega)
      have HX := Lib.hid hx
      have HZ := Lib.hid hz
      have HL := Lib.hid hl64
      have HBF := Lib.hid (show Below w.heap.size w (wr.setRow (w.heap.size + 1) (bvs (r.holds k)).toArray) from upd_below (S := fun b => b = W1.heap.size ∨ b = w.heap.size + 1) HBB.out ((hu.mono fun b _ h => .inl h).trans ((upd_setRow wr (w.heap.size + 1) (bvs (r.holds k)).toArray).mono fun b _ h => .inr h) (fun _ _ h => h)) (fun b hb => by omega))
      have HF := Lib.hid (setRow_heap wr (w.heap.size + 1) _ (bvs (r.holds k)).toArray _ _ hz)
      clear hx hl64 hz hu
      go_wp2_with (first | (refine wpList_load_row rfl 27 _ rfl _ rfl _ _ _ _ HX.out Try.underlying27 rfl (size_blk HL.out) ?_) | (refine wl_store_row rfl 27 _ _ rfl _ _ _ _ HZ.out rfl rfl (size_blk HL.out) (size_zb HL.out) (one_blk _) ?_))
      exact bodyPost_ret (results_cell_row Try.results43 _ _ _ _ _ _ _ rfl HF.out Try.underlying27 rfl (size_blk HL.out)) rfl ⟨rfl, HBF.out⟩

end Go.Proofs.Ythjlmkmijehnjaa
