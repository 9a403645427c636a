/- Layer 2's walks: sync, write. No condition beyond sizes. -/
import Derived.Test.YthjlmkmijehnjaaDk4
import Derived.Test.YthjlmkmijehnjaaG2
namespace Go.Proofs.Ythjlmkmijehnjaa
open Go.RowKit Go.Shelf K L
set_option linter.unusedVariables false
set_option linter.unusedSimpArgs false

/-- A disk behind an operation: its memory is what it was, or new. -/
def Goes (w : World) (S : Nat → Prop) (b : Nat) (d : PD) (w' : World) : Prop :=
  ∃ S', (∀ x, S' x → S x ∨ w.heap.size ≤ x) ∧ IsD w' S' b d ∧ Upd S w w'
theorem Goes.of {w w' : World} {S : Nat → Prop} {b : Nat} {vs vp : Value} {d : PD} (h : Dk w' S b vs vp d) (hu : Upd S w w') : Goes w S b d w' := ⟨S, fun x hx => .inl hx, ⟨vs, vp, h⟩, hu⟩
theorem Goes.after {w w1 w2 : World} {S : Nat → Prop} {b : Nat} {d : PD} (hu : Upd S w w1) (h : Goes w1 S b d w2) : Goes w S b d w2 := by
  obtain ⟨S', h1, h2, h3⟩ := h
  exact ⟨S', fun x hx => (h1 x hx).imp id (Nat.le_trans hu.size), h2, hu.trans h3 (fun _ _ h => h)⟩

theorem sync_nil (w : World) : Calls Try.prog 26 #[.pointer none] w fun e w' => e = .returned (.int .i64 1) ∧ Below w.heap.size w w' := by
  go_enter Try.func26, Try.ntmps26
  go_wp2_with fail
  refine (ready_nil 0 _).mono ?_
  rintro e w' ⟨rfl, rfl⟩
  go_wp2
  go_ret
  exact ⟨rfl, below_al (Below.refl _ _) _⟩

set_option maxHeartbeats 2000000 in
theorem sync1 {w : World} {S : Nat → Prop} {b pb : Nat} {vs vp : Value} {d : PD} (h : Dk w S b vs vp d) (hn : d.ops < 1073741824) (hp : w.cell? ⟨pb, 0, none⟩ = some (.pointer (some ⟨b, 0, none⟩))) :
    Calls Try.prog 46 #[.pointer (some ⟨pb, 0, none⟩)] w fun e w' => (∃ u, e = .returned u) ∧ (Dk w' S b vs (.slice none 0 0) (d.live fun _ => true) ∧ Upd S w w') := by
  have HT := Lib.hid (settle_any h hn 48 #[] (fun _ => true) ⟨enters_of Try.func48 (by kernel_rfl) rfl, fun i W _ _ => sync11 i W⟩)
  clear h
  go_enter Try.func46, Try.ntmps46
  go_wp2_with fail
  refine HT.out.mono ?_
  rintro e w2 ⟨⟨u, rfl⟩, hd2, hu2⟩
  have HD := Lib.hid hd2
  have HU := Lib.hid hu2
  clear hd2 hu2
  go_wp2
  go_end0
  exact ⟨⟨_, rfl⟩, HD.out, HU.out⟩

/-- What an operation leaves: its error, and the disk. -/
def Done (w : World) (S : Nat → Prop) (b : Nat) (r : Int × PD) (e : Ending) (w' : World) : Prop := e = .returned (.int .i64 r.1) ∧ Goes w S b r.2 w'

theorem PD.sync_no {d : PD} (h : ¬ (d.ready 0).1 = 0) : d.sync = d.ready 0 := by unfold PD.sync; rw [if_neg h]
theorem PD.sync_dead {d : PD} (h : (d.ready 0).1 = 0) (h2 : ¬ (d.ready 0).2.tick.1 = 0) : d.sync = (d.ready 0).2.tick := by unfold PD.sync; rw [if_pos h, if_neg h2]
theorem PD.sync_yes {d : PD} (h : (d.ready 0).1 = 0) (h2 : (d.ready 0).2.tick.1 = 0) : d.sync = (0, (d.ready 0).2.tick.2.live fun _ => true) := by unfold PD.sync; rw [if_pos h, if_pos h2]

set_option maxRecDepth 100000 in
set_option maxHeartbeats 4000000 in
theorem sync_any {w : World} {S : Nat → Prop} {b : Nat} {d : PD} (h : IsD w S b d) (hn : d.ops < 1073741823) :
    Calls Try.prog 26 #[.pointer (some ⟨b, 0, none⟩)] w (Done w S b d.sync) := by
  obtain ⟨vs, vp, h⟩ := h
  obtain ⟨W, hW⟩ : ∃ W, w.alloc (.cells #[.pointer (some ⟨b, 0, none⟩)] 24) = W := ⟨_, rfl⟩
  have hb0 : Below w.heap.size w W := by rw [← hW]; exact below_al (Below.refl _ _) _
  have hx0 : W.heap[w.heap.size]? = some (.cells #[.pointer (some ⟨b, 0, none⟩)] 24 (0, 0)) := by rw [← hW]; exact heap_alloc_last _ _
  have hS : ¬ S w.heap.size := fun hs => Nat.lt_irrefl _ (h.lt _ hs)
  have HR := Lib.hid (ready_any (h.below hb0) 0 (by decide) (by decide))
  have HU0 := Lib.hid (Upd.of_below hb0 : Upd S w W)
  have q0 := cell_in hx0 0
  simp at q0
  have HX := Lib.hid hx0
  clear h hb0 hx0
  go_enter Try.func26, Try.ntmps26
  go_wp2_with fail
  try rw [hW]
  refine HR.out.mono ?_
  rintro e w1 ⟨rfl, hd1, hu1, hs1⟩
  have hx1 := hu1.heap HX.out hS
  have q1 := cell_in hx1 0
  simp at q1
  have HU1 := Lib.hid (HU0.out.trans hu1 (fun _ _ h => h))
  by_cases hr : (d.ready 0).1 = 0
  · have ho := PD.ready_ops d 0
    rw [hr]
    by_cases ht : (d.ready 0).2.tick.1 = 0
    · have HY := Lib.hid (PD.sync_yes hr ht)
      have ho2 := PD.tick_ops0 ht
      have HC := Lib.hid (do_yes hd1 (by omega) 46 #[.pointer (some ⟨w.heap.size, 0, none⟩)] ht (fun w' => Goes w S b ((d.ready 0).2.tick.2.live fun _ => true) w') (enters_of Try.func46 (by kernel_rfl) rfl) (fun w2 hd2 hu2 hs2 => by
        refine (sync1 (pb := w.heap.size) hd2 (by omega) (cell_of_row w2 w.heap.size 0 _ _ _ (hu2.heap hx1 hS))).mono ?_
        rintro e w3 ⟨hu, hd3, hu3⟩
        exact ⟨hu, Goes.of hd3 ((HU1.out.trans hu2 (fun _ _ h => h)).trans hu3 (fun _ _ h => h))⟩))
      clear hd1 hu1 hr ht ho ho2 hx1 hW
      go_wp2_with fail
      refine HC.out.mono ?_
      rintro e w4 ⟨rfl, hg⟩
      have HG := Lib.hid hg
      clear hg
      go_wp2
      go_ret
      unfold Done; rw [HY.out]; exact ⟨rfl, HG.out⟩
    · have HN := Lib.hid (PD.sync_dead hr ht)
      have HC := Lib.hid (do_no hd1 (.func (.func 46) #[] #[.pointer (some ⟨w.heap.size, 0, none⟩)]) ht)
      clear hd1 hu1 hr ht ho hx1 hW
      go_wp2_with fail
      refine HC.out.mono ?_
      rintro e w4 ⟨rfl, hd4, hu4, -⟩
      have HG := Lib.hid (Goes.of hd4 (HU1.out.trans hu4 (fun _ _ h => h)))
      clear hd4 hu4
      go_wp2
      go_ret
      unfold Done; rw [HN.out]; exact ⟨rfl, HG.out⟩
  · have HN := Lib.hid (PD.sync_no hr)
    have HG := Lib.hid (Goes.of hd1 HU1.out)
    have hb : ((d.ready 0).1 == 0) = false := by simpa using hr
    have hb2 : ((d.ready 0).1 != 0) = true := by simpa using hr
    obtain ⟨z, hz⟩ : ∃ z, (d.ready 0).1 = z := ⟨_, rfl⟩
    have HZ := Lib.hid hz
    rw [hz] at hb hb2 ⊢
    clear hd1 hu1 hx1 hW hr hz
    go_wp2
    go_ret
    unfold Done; rw [HN.out, HZ.out]; exact ⟨rfl, HG.out⟩

theorem write_nil (i : Int) (bl : Blk) (w : World) : Calls Try.prog 33 #[.pointer none, .int .i64 i, .agg (bvs bl).toArray] w fun e w' => e = .returned (.int .i64 1) ∧ Below w.heap.size w w' := by
  go_enter Try.func33, Try.ntmps33
  go_wp2_with fail
  refine (ready_nil i _).mono ?_
  rintro e w' ⟨rfl, rfl⟩
  go_wp2
  go_ret
  exact ⟨rfl, below_al (below_al (below_al (Below.refl _ _) _) _) _⟩

theorem wl_row {w : World} {S : Nat → Prop} {b : Nat} {vs vp : Value} {d : PD} (h : Dk w S b vs vp d) {w2 : World} {v' : Value} (i : Nat) (bl : Blk) (hi : i < d.safe.length) (hb : bl.length = 64) (hnum : d.pend.length < d.ops)
    (hg : w.grownBy w2 vp.ownBlock) (ho : w2.ownsRow 0 80 65 v' (d.pend.length + 1) (d.pend.flatMap wcells ++ wcells (i, bl))) (hv : v'.ownBlock = vp.ownBlock ∨ ∀ g, v'.ownBlock = some g → w.heap.size ≤ g) :
    Goes w S b (d.put i bl) (w2.setCell ⟨b, 1, none⟩ v') := by
  have hu1 : Upd (fun x => some x = vp.ownBlock) w w2 := Upd.of_grown hg
  have hd : Hd w2 b vs vp d := hu1.heap h.hd (fun e => (h.sp b e.symm).2.1 rfl)
  have hs : w2.ownsRow 0 27 64 vs d.safe.length (d.safe.flatMap bvs) := hu1.own h.safe fun g hg e => (h.sp g e.symm).2.2 hg
  have hu2 : Upd (· = b) w2 (w2.setCell ⟨b, 1, none⟩ v') := (Upd.refl _ _).setCell _ _ (fun _ => rfl)
  have hvlt : ∀ g, v'.ownBlock = some g → g < w2.heap.size := fun g hg => (ho.lt g hg).2
  have hnb : ∀ g, v'.ownBlock = some g → g ≠ b := fun g hg => by
    rcases hv with e | e
    · exact (h.sp g (by rw [← e]; exact hg)).2.1
    · have := e g hg; have := h.lt b h.sb; omega
  refine ⟨fun x => S x ∨ (w.heap.size ≤ x ∧ x < w2.heap.size), fun x hx => hx.imp id (·.1), ⟨vs, v', (hd.pend v').any rfl rfl rfl rfl rfl, hu2.own hs fun g hg => (h.ss g hg).2, ?_, ?_, .inl h.sb, fun g hg => ⟨.inl (h.ss g hg).1, (h.ss g hg).2⟩, fun g hg => ⟨?_, hnb g hg, ?_⟩, PD.ok_put h.ok i bl hi hb hnum⟩, ?_⟩
  · have := hu2.own ho hnb
    simpa [PD.put] using this
  · intro x hx
    rw [World.size_setCell]
    rcases hx with hx | hx
    · exact Nat.lt_of_lt_of_le (h.lt x hx) hg.size
    · exact hx.2
  · rcases hv with e | e
    · exact .inl (h.sp g (by rw [← e]; exact hg)).1
    · exact .inr ⟨e g hg, hvlt g hg⟩
  · rcases hv with e | e
    · exact (h.sp g (by rw [← e]; exact hg)).2.2
    · intro e2
      have := e g hg
      have := (h.safe.lt g e2).2
      omega
  · exact (hu1.mono fun x _ e => (h.sp x e.symm).1).trans hu2 (fun x _ e => by rw [e]; exact h.sb)

theorem size65 : ∀ w, (sizeOf 80).run Try.prog w = .ok 65 w := size_of info_wrote
theorem build_wrote (i : Int) (bl : Blk) (hb : bl.length = 64) (w : World) : (Instr.build 80 #[(0, .int .i64 i), (1, .agg (bvs bl).toArray)]).run Try.prog w = .ok (.agg (Value.int .i64 i :: bvs bl).toArray) w := by
  have := run_build_two (P := Try.prog) (t := 80) Try.underlying80 rfl (n := 64) zero_wrote (by rw [List.size_toArray, wcells_len _ zblk_len]) rfl rfl (size_of (by kernel_rfl)) (size_of (by kernel_rfl)) (.int .i64 i) rfl (bvs bl).toArray (by rw [List.size_toArray, bvs_len, hb]) w
  simpa using this
theorem row_wrote (p : Nat × Blk) (hb : p.2.length = 64) (w : World) : (Instr.buildSlice 67 1 #[(0, .agg (wcells p).toArray)]).run Try.prog w = .ok (.slice (some ⟨w.heap.size, 0, none⟩) 1 1) (w.alloc (.cells (wcells p).toArray 80)) :=
  run_row_one (n := 65) Try.underlying67 zero_wrote (by rw [List.size_toArray, wcells_len _ zblk_len]) size65 (by decide) (by decide) _ (by rw [List.size_toArray, wcells_len p hb]) w
theorem elW : Elem Try.prog 67 80 65 72 (.agg (wcells (0, zblk)).toArray) := ⟨Try.underlying67, by kernel_rfl, by rw [show (Value.agg (wcells (0, zblk)).toArray).cells = (wcells (0, zblk)).toArray from rfl, List.size_toArray, wcells_len _ zblk_len], by decide⟩

end Go.Proofs.Ythjlmkmijehnjaa
