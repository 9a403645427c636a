/- Layer 2's laws: what an op does, by kinds. Printed by gendoes.py. No condition beyond sizes. -/
import Derived.Test.YthjlmkmijehnjaaDl2
import Derived.Test.YthjlmkmijehnjaaDr4x
namespace Go.Proofs.Ythjlmkmijehnjaa
open Go.RowKit Go.Shelf K L
set_option linter.unusedVariables false
set_option linter.unusedSimpArgs false

/-- What 'does' leaves. -/
def DPost (w : World) (S : Nat → Prop) (b : Nat) (r : Int × Blk × PD) (e : Ending) (w' : World) : Prop := e = .returned (.tuple #[.agg (bvs r.2.1).toArray, .int .i64 r.1]) ∧ Goes w S b r.2.2 w'
/-- The two boxes of a call: its op, and its block. -/
theorem does_boxes (w : World) (cs : Array Value) : ((w.alloc (.cells cs 32)).alloc (.cells (bvs zblk).toArray 27)).heap[w.heap.size]? = some (.cells cs 32 (0, 0)) ∧ ((w.alloc (.cells cs 32)).alloc (.cells (bvs zblk).toArray 27)).heap[w.heap.size + 1]? = some (.cells (bvs zblk).toArray 27 (0, 0)) :=
  ⟨heap_al (heap_alloc_last _ _) _, by have := heap_alloc_last (w.alloc (.cells cs 32)) (.cells (bvs zblk).toArray 27); rwa [World.size_alloc] at this⟩
theorem does_results {tmps : Array Value} {W : World} {q : Nat} {bl : Blk} {e : Int} (hb : bl.length = 64) (h4 : tmps.getD 4 undef = .pointer (some ⟨q, 0, none⟩)) (h5 : tmps.getD 5 undef = .int .i64 e) (g4 : W.heap[q]? = some (.cells (bvs bl).toArray 27 (0, 0))) :
    (results Try.f18 tmps).run Try.prog W = .ok (.tuple #[.agg (bvs bl).toArray, .int .i64 e]) W :=
  results_cell_tmp Try.results18 tmps W h4 h5 (run_loadVar_row (P := Try.prog) W q 27 27 (bvs bl).toArray (0, 0) _ g4 Try.underlying27 rfl (size_blk hb))
/-- Ahead of the write nothing that was there has turned; behind it the disk is what it is then. -/
def DkI (W : World) (S : Nat → Prop) (b : Nat) (d : PD) (l : Bool) (w : World) : Prop := (l = false → Below W.heap.size W w) ∧ (l = true → Goes W S b d w)
theorem DkI.start (W : World) (S : Nat → Prop) (b : Nat) (d : PD) {l : Bool} (h : l = false) : DkI W S b d l W.drew := ⟨fun _ => (Below.refl _ _).drew, fun h' => by rw [h] at h'; cases h'⟩
theorem DkI.upd {W w : World} {S : Nat → Prop} {b : Nat} {d : PD} {l : Bool} (h : DkI W S b d l w) : Upd S W w := by
  cases l with
  | false => exact Upd.of_below (h.1 rfl)
  | true => obtain ⟨_, _, _, h⟩ := h.2 rfl; exact h
theorem DkI.fresh {W w w' : World} {S : Nat → Prop} {b : Nat} {d : PD} {l l' : Bool} (h : DkI W S b d l w) (hl : l = false) (hb : Below w.heap.size w w') (hl' : l' = false) : DkI W S b d l' w' := ⟨fun _ => below_tr (h.1 hl) hb, fun h' => by rw [hl'] at h'; cases h'⟩
theorem DkI.goes {W w w' : World} {S : Nat → Prop} {b : Nat} {d : PD} {l' : Bool} (h : Below W.heap.size W w) (hg : Goes w S b d w') (hl' : l' = true) : DkI W S b d l' w' := ⟨fun h' => (by rw [hl'] at h'; cases h'), fun _ => hg.after (Upd.of_below h)⟩
theorem Goes.upd {w w2 : World} {S : Nat → Prop} {b : Nat} {d : PD} (h : Goes w S b d w2) : Upd S w w2 := by obtain ⟨_, _, _, h⟩ := h; exact h
theorem Goes.box {w W w2 w3 : World} {S T : Nat → Prop} {b : Nat} {d : PD} (hb : Below w.heap.size w W) (h : Goes W S b d w2) (hu : Upd T w2 w3) (hT : ∀ x, T x → w.heap.size ≤ x ∧ x < W.heap.size) (hS : ∀ x, S x → x < w.heap.size) : Goes w S b d w3 := by
  obtain ⟨S', h1, h2, h3⟩ := h
  have hs := hb.size
  refine ⟨S', fun x hx => (h1 x hx).imp id (Nat.le_trans hs), h2.keep hu fun x hx ht => ?_, ((Upd.of_below hb : Upd S w W).trans h3 (fun _ _ h => h)).trans hu fun x hx ht => by have := (hT x ht).1; omega⟩
  have := hT x ht
  rcases h1 x hx with h | h
  · have := hS x h; omega
  · omega


set_option maxRecDepth 100000 in
set_option maxHeartbeats 4000000 in
theorem does_nil_0 (e : DE) (w : World) (F : Nat → Prop) (hk : opk e.1.kind = 0) (hko : e.1.okk) (hv : Sl w F 1 e.2 e.1.keep.length (e.1.keep.map Value.bool)) :
    Calls Try.prog 18 #[.pointer none, e.agg] w fun r w' => r = .returned (.tuple #[.agg (bvs zblk).toArray, .int .i64 1]) ∧ Below w.heap.size w w' := by
  obtain ⟨o, v⟩ := e
  dsimp only at hk hv hko
  obtain ⟨Ak, ck, rfl⟩ : ∃ A c, v = .slice A o.keep.length c := by obtain ⟨-, A, c, h, -⟩ := hv; exact ⟨A, c, h⟩
  obtain ⟨t1, t2⟩ := does_boxes w #[.int .i64 o.kind, .int .i64 o.at_, .int .u8 (o.fill.toNat : Int), .slice Ak o.keep.length ck]
  obtain ⟨W, hW⟩ : ∃ W, (w.alloc (.cells #[.int .i64 o.kind, .int .i64 o.at_, .int .u8 (o.fill.toNat : Int), .slice Ak o.keep.length ck] 32)).alloc (.cells (bvs zblk).toArray 27) = W := ⟨_, rfl⟩
  have hb0 : Below w.heap.size w W := by rw [← hW]; exact below_al (below_al (Below.refl _ _) _) _
  rw [hW] at t1 t2
  have hlt : w.heap.size + 1 < W.heap.size := (Array.getElem?_eq_some_iff.1 t2).1
  have c0 := cell_in t1 0
  have c1 := cell_in t1 1
  have c2 := cell_in t1 2
  have c3 := cell_in t1 3
  simp at c0 c1 c2 c3
  have HT1 := Lib.hid t1
  have HT2 := Lib.hid t2
  have HB := Lib.hid hb0
  have HW := Lib.hid hW
  have HKD := Lib.hid (kind_any2 (o, .slice Ak o.keep.length ck) W hko.k1 hko.k2 ⟨_, _, _, rfl⟩)
  have h12 := hko.a1
  have h13 := hko.a2
  unfold DE.agg DE.cells at *
  dsimp only at *
  rw [hk] at HKD
  have HK := Lib.hid hk
  have HV := Lib.hid (Sl.below (Sl.imp_lt hv (by decide)) (by decide) hb0)
  have HKO := Lib.hid hko
  clear hk hb0 t1 t2 hko hv hW
  go_enter Try.func18, Try.ntmps18
  go_wp2_with (first | (refine wl_alloc rfl 27 rfl zero_block ?_) | fail)
  rw [HW.out]
  refine HKD.out.mono ?_
  rintro r w1 ⟨rfl, hb1⟩
  have hx1 := heap_bl hb1 HT1.out
  have y1 := cell_in hx1 1
  have y2 := cell_in hx1 2
  have y3 := cell_in hx1 3
  simp at y1 y2 y3
  have HB1 := Lib.hid (below_tr HB.out hb1)
  have HZ1 := Lib.hid (heap_bl hb1 HT2.out)
  clear hb1 hx1 c0 c1 c2 c3
  dsimp only
  go_wp2_with fail
  refine (read_nil _ w1).mono ?_
  rintro r w2 ⟨rfl, hb2⟩
  have hz2 := heap_bl hb2 HZ1.out
  have HZ2 := Lib.hid hz2
  have HF := Lib.hid (setRow_heap _ _ _ (bvs zblk).toArray _ _ hz2)
  have HBF := Lib.hid (below_row (below_tr HB1.out hb2) (q := w.heap.size + 1) (by omega) (Nat.le_refl _) (bvs zblk).toArray)
  clear hz2 hb2
  dsimp only
  go_wp2_with (refine wl_store_row rfl 27 _ _ rfl _ _ (bvs zblk).toArray _ HZ2.out rfl rfl (size_blk zblk_len) rfl (one_blk _) ?_)
  exact bodyPost_ret (does_results zblk_len rfl rfl HF.out) rfl ⟨rfl, HBF.out⟩

set_option maxRecDepth 100000 in
set_option maxHeartbeats 4000000 in
theorem does_nil_2 (e : DE) (w : World) (F : Nat → Prop) (hk : opk e.1.kind = 2) (hko : e.1.okk) (hv : Sl w F 1 e.2 e.1.keep.length (e.1.keep.map Value.bool)) :
    Calls Try.prog 18 #[.pointer none, e.agg] w fun r w' => r = .returned (.tuple #[.agg (bvs zblk).toArray, .int .i64 1]) ∧ Below w.heap.size w w' := by
  obtain ⟨o, v⟩ := e
  dsimp only at hk hv hko
  obtain ⟨Ak, ck, rfl⟩ : ∃ A c, v = .slice A o.keep.length c := by obtain ⟨-, A, c, h, -⟩ := hv; exact ⟨A, c, h⟩
  obtain ⟨t1, t2⟩ := does_boxes w #[.int .i64 o.kind, .int .i64 o.at_, .int .u8 (o.fill.toNat : Int), .slice Ak o.keep.length ck]
  obtain ⟨W, hW⟩ : ∃ W, (w.alloc (.cells #[.int .i64 o.kind, .int .i64 o.at_, .int .u8 (o.fill.toNat : Int), .slice Ak o.keep.length ck] 32)).alloc (.cells (bvs zblk).toArray 27) = W := ⟨_, rfl⟩
  have hb0 : Below w.heap.size w W := by rw [← hW]; exact below_al (below_al (Below.refl _ _) _) _
  rw [hW] at t1 t2
  have hlt : w.heap.size + 1 < W.heap.size := (Array.getElem?_eq_some_iff.1 t2).1
  have c0 := cell_in t1 0
  have c1 := cell_in t1 1
  have c2 := cell_in t1 2
  have c3 := cell_in t1 3
  simp at c0 c1 c2 c3
  have HT1 := Lib.hid t1
  have HT2 := Lib.hid t2
  have HB := Lib.hid hb0
  have HW := Lib.hid hW
  have HKD := Lib.hid (kind_any2 (o, .slice Ak o.keep.length ck) W hko.k1 hko.k2 ⟨_, _, _, rfl⟩)
  have h12 := hko.a1
  have h13 := hko.a2
  unfold DE.agg DE.cells at *
  dsimp only at *
  rw [hk] at HKD
  have HK := Lib.hid hk
  have HV := Lib.hid (Sl.below (Sl.imp_lt hv (by decide)) (by decide) hb0)
  have HKO := Lib.hid hko
  clear hk hb0 t1 t2 hko hv hW
  go_enter Try.func18, Try.ntmps18
  go_wp2_with (first | (refine wl_alloc rfl 27 rfl zero_block ?_) | fail)
  rw [HW.out]
  refine HKD.out.mono ?_
  rintro r w1 ⟨rfl, hb1⟩
  have hx1 := heap_bl hb1 HT1.out
  have y1 := cell_in hx1 1
  have y2 := cell_in hx1 2
  have y3 := cell_in hx1 3
  simp at y1 y2 y3
  have HB1 := Lib.hid (below_tr HB.out hb1)
  have HZ1 := Lib.hid (heap_bl hb1 HT2.out)
  clear hb1 hx1 c0 c1 c2 c3
  dsimp only
  go_wp2_with (first | (refine wl_build rfl 27 #[] rfl (vs := #[]) (by simp) build_zero ?_) | fail)
  refine (sync_nil w1).mono ?_
  rintro r w2 ⟨rfl, hb2⟩
  have hz2 := heap_bl hb2 HZ1.out
  have HZ2 := Lib.hid hz2
  have HF := Lib.hid (setRow_heap _ _ _ (bvs zblk).toArray _ _ hz2)
  have HBF := Lib.hid (below_row (below_tr HB1.out hb2) (q := w.heap.size + 1) (by omega) (Nat.le_refl _) (bvs zblk).toArray)
  clear hz2 hb2
  dsimp only
  go_wp2_with (refine wl_store_row rfl 27 _ _ rfl _ _ (bvs zblk).toArray _ HZ2.out rfl rfl (size_blk zblk_len) rfl (one_blk _) ?_)
  exact bodyPost_ret (does_results zblk_len rfl rfl HF.out) rfl ⟨rfl, HBF.out⟩

set_option maxRecDepth 100000 in
set_option maxHeartbeats 4000000 in
theorem does_nil_3 (e : DE) (w : World) (F : Nat → Prop) (hk : opk e.1.kind = 3) (hko : e.1.okk) (hv : Sl w F 1 e.2 e.1.keep.length (e.1.keep.map Value.bool)) :
    Calls Try.prog 18 #[.pointer none, e.agg] w fun r w' => r = .returned (.tuple #[.agg (bvs zblk).toArray, .int .i64 1]) ∧ Below w.heap.size w w' := by
  obtain ⟨o, v⟩ := e
  dsimp only at hk hv hko
  obtain ⟨Ak, ck, rfl⟩ : ∃ A c, v = .slice A o.keep.length c := by obtain ⟨-, A, c, h, -⟩ := hv; exact ⟨A, c, h⟩
  obtain ⟨t1, t2⟩ := does_boxes w #[.int .i64 o.kind, .int .i64 o.at_, .int .u8 (o.fill.toNat : Int), .slice Ak o.keep.length ck]
  obtain ⟨W, hW⟩ : ∃ W, (w.alloc (.cells #[.int .i64 o.kind, .int .i64 o.at_, .int .u8 (o.fill.toNat : Int), .slice Ak o.keep.length ck] 32)).alloc (.cells (bvs zblk).toArray 27) = W := ⟨_, rfl⟩
  have hb0 : Below w.heap.size w W := by rw [← hW]; exact below_al (below_al (Below.refl _ _) _) _
  rw [hW] at t1 t2
  have hlt : w.heap.size + 1 < W.heap.size := (Array.getElem?_eq_some_iff.1 t2).1
  have c0 := cell_in t1 0
  have c1 := cell_in t1 1
  have c2 := cell_in t1 2
  have c3 := cell_in t1 3
  simp at c0 c1 c2 c3
  have HT1 := Lib.hid t1
  have HT2 := Lib.hid t2
  have HB := Lib.hid hb0
  have HW := Lib.hid hW
  have HKD := Lib.hid (kind_any2 (o, .slice Ak o.keep.length ck) W hko.k1 hko.k2 ⟨_, _, _, rfl⟩)
  have h12 := hko.a1
  have h13 := hko.a2
  unfold DE.agg DE.cells at *
  dsimp only at *
  rw [hk] at HKD
  have HK := Lib.hid hk
  have HV := Lib.hid (Sl.below (Sl.imp_lt hv (by decide)) (by decide) hb0)
  have HKO := Lib.hid hko
  clear hk hb0 t1 t2 hko hv hW
  go_enter Try.func18, Try.ntmps18
  go_wp2_with (first | (refine wl_alloc rfl 27 rfl zero_block ?_) | fail)
  rw [HW.out]
  refine HKD.out.mono ?_
  rintro r w1 ⟨rfl, hb1⟩
  have hx1 := heap_bl hb1 HT1.out
  have y1 := cell_in hx1 1
  have y2 := cell_in hx1 2
  have y3 := cell_in hx1 3
  simp at y1 y2 y3
  have HB1 := Lib.hid (below_tr HB.out hb1)
  have HZ1 := Lib.hid (heap_bl hb1 HT2.out)
  clear hb1 hx1 c0 c1 c2 c3
  dsimp only
  go_wp2_with (first | (refine wl_build rfl 27 #[] rfl (vs := #[]) (by simp) build_zero ?_) | fail)
  refine (arm_nil _ w1).mono ?_
  rintro r w2 ⟨rfl, rfl⟩
  have hb2 := Below.refl w1.heap.size w1
  have hz2 := heap_bl hb2 HZ1.out
  have HZ2 := Lib.hid hz2
  have HF := Lib.hid (setRow_heap _ _ _ (bvs zblk).toArray _ _ hz2)
  have HBF := Lib.hid (below_row (below_tr HB1.out hb2) (q := w.heap.size + 1) (by omega) (Nat.le_refl _) (bvs zblk).toArray)
  clear hz2 hb2
  dsimp only
  go_wp2_with (refine wl_store_row rfl 27 _ _ rfl _ _ (bvs zblk).toArray _ HZ2.out rfl rfl (size_blk zblk_len) rfl (one_blk _) ?_)
  exact bodyPost_ret (does_results zblk_len rfl rfl HF.out) rfl ⟨rfl, HBF.out⟩

set_option maxRecDepth 100000 in
set_option maxHeartbeats 4000000 in
theorem does_nil_5 (e : DE) (w : World) (F : Nat → Prop) (hk : opk e.1.kind = 5) (hko : e.1.okk) (hv : Sl w F 1 e.2 e.1.keep.length (e.1.keep.map Value.bool)) :
    Calls Try.prog 18 #[.pointer none, e.agg] w fun r w' => r = .returned (.tuple #[.agg (bvs zblk).toArray, .int .i64 1]) ∧ Below w.heap.size w w' := by
  obtain ⟨o, v⟩ := e
  dsimp only at hk hv hko
  obtain ⟨Ak, ck, rfl⟩ : ∃ A c, v = .slice A o.keep.length c := by obtain ⟨-, A, c, h, -⟩ := hv; exact ⟨A, c, h⟩
  obtain ⟨t1, t2⟩ := does_boxes w #[.int .i64 o.kind, .int .i64 o.at_, .int .u8 (o.fill.toNat : Int), .slice Ak o.keep.length ck]
  obtain ⟨W, hW⟩ : ∃ W, (w.alloc (.cells #[.int .i64 o.kind, .int .i64 o.at_, .int .u8 (o.fill.toNat : Int), .slice Ak o.keep.length ck] 32)).alloc (.cells (bvs zblk).toArray 27) = W := ⟨_, rfl⟩
  have hb0 : Below w.heap.size w W := by rw [← hW]; exact below_al (below_al (Below.refl _ _) _) _
  rw [hW] at t1 t2
  have hlt : w.heap.size + 1 < W.heap.size := (Array.getElem?_eq_some_iff.1 t2).1
  have c0 := cell_in t1 0
  have c1 := cell_in t1 1
  have c2 := cell_in t1 2
  have c3 := cell_in t1 3
  simp at c0 c1 c2 c3
  have HT1 := Lib.hid t1
  have HT2 := Lib.hid t2
  have HB := Lib.hid hb0
  have HW := Lib.hid hW
  have HKD := Lib.hid (kind_any2 (o, .slice Ak o.keep.length ck) W hko.k1 hko.k2 ⟨_, _, _, rfl⟩)
  have h12 := hko.a1
  have h13 := hko.a2
  unfold DE.agg DE.cells at *
  dsimp only at *
  rw [hk] at HKD
  have HK := Lib.hid hk
  have HV := Lib.hid (Sl.below (Sl.imp_lt hv (by decide)) (by decide) hb0)
  have HKO := Lib.hid hko
  clear hk hb0 t1 t2 hko hv hW
  go_enter Try.func18, Try.ntmps18
  go_wp2_with (first | (refine wl_alloc rfl 27 rfl zero_block ?_) | fail)
  rw [HW.out]
  refine HKD.out.mono ?_
  rintro r w1 ⟨rfl, hb1⟩
  have hx1 := heap_bl hb1 HT1.out
  have y1 := cell_in hx1 1
  have y2 := cell_in hx1 2
  have y3 := cell_in hx1 3
  simp at y1 y2 y3
  have HB1 := Lib.hid (below_tr HB.out hb1)
  have HZ1 := Lib.hid (heap_bl hb1 HT2.out)
  clear hb1 hx1 c0 c1 c2 c3
  dsimp only
  go_wp2_with (first | (refine wl_build rfl 27 #[] rfl (vs := #[]) (by simp) build_zero ?_) | fail)
  refine (fail_nil _ w1).mono ?_
  rintro r w2 ⟨rfl, rfl⟩
  have hb2 := Below.refl w1.heap.size w1
  have hz2 := heap_bl hb2 HZ1.out
  have HZ2 := Lib.hid hz2
  have HF := Lib.hid (setRow_heap _ _ _ (bvs zblk).toArray _ _ hz2)
  have HBF := Lib.hid (below_row (below_tr HB1.out hb2) (q := w.heap.size + 1) (by omega) (Nat.le_refl _) (bvs zblk).toArray)
  clear hz2 hb2
  dsimp only
  go_wp2_with (refine wl_store_row rfl 27 _ _ rfl _ _ (bvs zblk).toArray _ HZ2.out rfl rfl (size_blk zblk_len) rfl (one_blk _) ?_)
  exact bodyPost_ret (does_results zblk_len rfl rfl HF.out) rfl ⟨rfl, HBF.out⟩

set_option maxRecDepth 100000 in
set_option maxHeartbeats 8000000 in
theorem does_nil_4 (e : DE) (w : World) (F : Nat → Prop) (hk : opk e.1.kind = 4) (hko : e.1.okk) (hv : Sl w F 1 e.2 e.1.keep.length (e.1.keep.map Value.bool)) :
    Calls Try.prog 18 #[.pointer none, e.agg] w fun r w' => r = .returned (.tuple #[.agg (bvs zblk).toArray, .int .i64 1]) ∧ Below w.heap.size w w' := by
  obtain ⟨o, v⟩ := e
  dsimp only at hk hv hko
  obtain ⟨Ak, ck, rfl⟩ : ∃ A c, v = .slice A o.keep.length c := by obtain ⟨-, A, c, h, -⟩ := hv; exact ⟨A, c, h⟩
  obtain ⟨t1, t2⟩ := does_boxes w #[.int .i64 o.kind, .int .i64 o.at_, .int .u8 (o.fill.toNat : Int), .slice Ak o.keep.length ck]
  obtain ⟨W, hW⟩ : ∃ W, (w.alloc (.cells #[.int .i64 o.kind, .int .i64 o.at_, .int .u8 (o.fill.toNat : Int), .slice Ak o.keep.length ck] 32)).alloc (.cells (bvs zblk).toArray 27) = W := ⟨_, rfl⟩
  have hb0 : Below w.heap.size w W := by rw [← hW]; exact below_al (below_al (Below.refl _ _) _) _
  rw [hW] at t1 t2
  have hlt : w.heap.size + 1 < W.heap.size := (Array.getElem?_eq_some_iff.1 t2).1
  have c0 := cell_in t1 0
  have c1 := cell_in t1 1
  have c2 := cell_in t1 2
  have c3 := cell_in t1 3
  simp at c0 c1 c2 c3
  have HT1 := Lib.hid t1
  have HT2 := Lib.hid t2
  have HB := Lib.hid hb0
  have HW := Lib.hid hW
  have HKD := Lib.hid (kind_any2 (o, .slice Ak o.keep.length ck) W hko.k1 hko.k2 ⟨_, _, _, rfl⟩)
  have h12 := hko.a1
  have h13 := hko.a2
  unfold DE.agg DE.cells at *
  dsimp only at *
  rw [hk] at HKD
  have HK := Lib.hid hk
  have HV := Lib.hid (Sl.below (Sl.imp_lt hv (by decide)) (by decide) hb0)
  have HKO := Lib.hid hko
  clear hk hb0 t1 t2 hko hv hW
  go_enter Try.func18, Try.ntmps18
  go_wp2_with (first | (refine wl_alloc rfl 27 rfl zero_block ?_) | fail)
  rw [HW.out]
  refine HKD.out.mono ?_
  rintro r w1 ⟨rfl, hb1⟩
  have hx1 := heap_bl hb1 HT1.out
  have y1 := cell_in hx1 1
  have y2 := cell_in hx1 2
  have y3 := cell_in hx1 3
  simp at y1 y2 y3
  have HX1 := Lib.hid hx1
  have HB1 := Lib.hid (below_tr HB.out hb1)
  have HZ1 := Lib.hid (heap_bl hb1 HT2.out)
  have HV1 := Lib.hid (Sl.below HV.out (by decide) hb1)
  have hlt1 : w.heap.size + 1 < w1.heap.size := (Array.getElem?_eq_some_iff.1 HZ1.out).1
  clear hb1 hx1 c0 c1 c2 c3
  dsimp only
  go_wp2_with (first | (refine wl_build rfl 27 #[] rfl (vs := #[]) (by simp) build_zero ?_) | fail)
  refine (keeps_any _ o.keep w1 _ HV1.out HKO.out.kl).mono ?_
  rintro r w2 ⟨v2, rfl, hs2, hb2'⟩
  obtain ⟨-, A2, c2, rfl, -, -, -, -⟩ := hs2
  dsimp only
  go_wp2_with fail
  refine (crash_nil A2 o.keep.length c2 w2).mono ?_
  rintro r w3 ⟨rfl, hb3⟩
  have hb2 := below_tr hb2' hb3
  clear hb2' hb3
  have hz2 := heap_bl hb2 HZ1.out
  have HZ2 := Lib.hid hz2
  have HF := Lib.hid (setRow_heap _ _ _ (bvs zblk).toArray _ _ hz2)
  have HBF := Lib.hid (below_row (below_tr HB1.out hb2) (q := w.heap.size + 1) (by omega) (Nat.le_refl _) (bvs zblk).toArray)
  clear hz2 hb2
  dsimp only
  go_wp2_with (refine wl_store_row rfl 27 _ _ rfl _ _ (bvs zblk).toArray _ HZ2.out rfl rfl (size_blk zblk_len) rfl (one_blk _) ?_)
  exact bodyPost_ret (does_results zblk_len rfl rfl HF.out) rfl ⟨rfl, HBF.out⟩

set_option maxRecDepth 100000 in
set_option maxHeartbeats 8000000 in
theorem does_nil_1 (e : DE) (w : World) (F : Nat → Prop) (hk : opk e.1.kind = 1) (hko : e.1.okk) (hv : Sl w F 1 e.2 e.1.keep.length (e.1.keep.map Value.bool)) :
    Calls Try.prog 18 #[.pointer none, e.agg] w fun r w' => r = .returned (.tuple #[.agg (bvs zblk).toArray, .int .i64 1]) ∧ Below w.heap.size w w' := by
  obtain ⟨o, v⟩ := e
  dsimp only at hk hv hko
  obtain ⟨Ak, ck, rfl⟩ : ∃ A c, v = .slice A o.keep.length c := by obtain ⟨-, A, c, h, -⟩ := hv; exact ⟨A, c, h⟩
  obtain ⟨t1, t2⟩ := does_boxes w #[.int .i64 o.kind, .int .i64 o.at_, .int .u8 (o.fill.toNat : Int), .slice Ak o.keep.length ck]
  obtain ⟨W, hW⟩ : ∃ W, (w.alloc (.cells #[.int .i64 o.kind, .int .i64 o.at_, .int .u8 (o.fill.toNat : Int), .slice Ak o.keep.length ck] 32)).alloc (.cells (bvs zblk).toArray 27) = W := ⟨_, rfl⟩
  have hb0 : Below w.heap.size w W := by rw [← hW]; exact below_al (below_al (Below.refl _ _) _) _
  rw [hW] at t1 t2
  have hlt : w.heap.size + 1 < W.heap.size := (Array.getElem?_eq_some_iff.1 t2).1
  have c0 := cell_in t1 0
  have c1 := cell_in t1 1
  have c2 := cell_in t1 2
  have c3 := cell_in t1 3
  simp at c0 c1 c2 c3
  have HT1 := Lib.hid t1
  have HT2 := Lib.hid t2
  have HB := Lib.hid hb0
  have HW := Lib.hid hW
  have HKD := Lib.hid (kind_any2 (o, .slice Ak o.keep.length ck) W hko.k1 hko.k2 ⟨_, _, _, rfl⟩)
  have h12 := hko.a1
  have h13 := hko.a2
  unfold DE.agg DE.cells at *
  dsimp only at *
  rw [hk] at HKD
  have HK := Lib.hid hk
  have HV := Lib.hid (Sl.below (Sl.imp_lt hv (by decide)) (by decide) hb0)
  have HKO := Lib.hid hko
  clear hk hb0 t1 t2 hko hv hW
  go_enter Try.func18, Try.ntmps18
  go_wp2_with (first | (refine wl_alloc rfl 27 rfl zero_block ?_) | fail)
  rw [HW.out]
  refine HKD.out.mono ?_
  rintro r w1 ⟨rfl, hb1⟩
  have hx1 := heap_bl hb1 HT1.out
  have y1 := cell_in hx1 1
  have y2 := cell_in hx1 2
  have y3 := cell_in hx1 3
  simp at y1 y2 y3
  have HX1 := Lib.hid hx1
  have HB1 := Lib.hid (below_tr HB.out hb1)
  have HZ1 := Lib.hid (heap_bl hb1 HT2.out)
  have HV1 := Lib.hid (Sl.below HV.out (by decide) hb1)
  have hlt1 : w.heap.size + 1 < w1.heap.size := (Array.getElem?_eq_some_iff.1 HZ1.out).1
  clear hb1 hx1 c0 c1 c2 c3
  dsimp only
  go_wp2
  refine G.region_split 8 (by kernel_rfl) (by kernel_rfl) (G.any_inv (by kernel_rfl) (fun w w' => Below w.heap.size w w') (fun _ _ _ h k => below_tr h k) (fun w _ => Below.refl _ _) (Below.refl _ _)
    (G.of [(fun (_ : World) (v : Value) => v = .agg (bvs zblk).toArray), (fun (_ : World) (v : Value) => v = .pointer none), (fun (_ : World) (v : Value) => v = .pointer (some ⟨w.heap.size, 1, none⟩)), (fun (_ : World) (v : Value) => v = .int .i64 o.at_), (fun (_ : World) (v : Value) => v = .pointer (some ⟨w.heap.size, 2, none⟩)), (fun (_ : World) (v : Value) => v = .int .u8 (o.fill.toNat : Int)), (fun (_ : World) (v : Value) => v = .agg (bvs (pat o.fill)).toArray), (fun (_ : World) (v : Value) => v = .int .i64 1)])
    (G.of_stays _ ?_) ?_ (G.each_ops ?_) ?_)
  · exact ⟨(fun w w' v h k => h), (fun w w' v h k => h), (fun w w' v h k => h), (fun w w' v h k => h), (fun w w' v h k => h), (fun w w' v h k => h), (fun w w' v h k => h), (fun w w' v h k => h), trivial⟩
  · intro i o hi hd; exact absurd hd (G.no_none (by kernel_rfl) hi)
  · refine ⟨?_, ?_, ?_, ?_, ?_, ?_, ?_, ?_, trivial⟩
    all_goals intro a wq hT hS hp
    all_goals (have hT' : Below w1.heap.size w1 wq := below_tr (Below.refl _ _).drew hT; have z1 := cell_in (heap_bl hT' HX1.out) 1; have z2 := cell_in (heap_bl hT' HX1.out) 2; simp at z1 z2)
    · refine G.wanted_yes (G.wanted_plain rfl) ?_
      exact G.st_val (v := .agg (bvs zblk).toArray) (w' := wq) (ex_build 27 #[] rfl (vs := #[]) (by simp) (build_zero wq)) ⟨_, rfl, Below.refl _ _, rfl⟩
    · refine G.wanted_yes (G.wanted_plain rfl) ?_
      have e0 : a.tmps[0]?.getD undef = .pointer none := hS.at_ 0 rfl
      exact G.st_val (v := .pointer none) (w' := wq) (by simp [execOp, go_sem, e0, z1, z2] <;> omega) ⟨_, rfl, Below.refl _ _, rfl⟩
    · refine G.wanted_yes (G.wanted_plain rfl) ?_
      have e3 : a.tmps[3]?.getD undef = .pointer (some ⟨w.heap.size, 0, none⟩) := hS.at_ 3 rfl
      exact G.st_val (v := .pointer (some ⟨w.heap.size, 1, none⟩)) (w' := wq) (by simp [execOp, go_sem, e3, z1, z2] <;> omega) ⟨_, rfl, Below.refl _ _, rfl⟩
    · refine G.wanted_yes (G.wanted_plain rfl) ?_
      have e20 : a.tmps[20]?.getD undef = .pointer (some ⟨w.heap.size, 1, none⟩) := hp ⟨2, .data⟩ (by simp) rfl _ rfl
      exact G.st_val (v := .int .i64 o.at_) (w' := wq) (by simp [execOp, go_sem, e20, z1, z2] <;> omega) ⟨_, rfl, Below.refl _ _, rfl⟩
    · refine G.wanted_yes (G.wanted_plain rfl) ?_
      have e3 : a.tmps[3]?.getD undef = .pointer (some ⟨w.heap.size, 0, none⟩) := hS.at_ 3 rfl
      exact G.st_val (v := .pointer (some ⟨w.heap.size, 2, none⟩)) (w' := wq) (by simp [execOp, go_sem, e3, z1, z2] <;> omega) ⟨_, rfl, Below.refl _ _, rfl⟩
    · refine G.wanted_yes (G.wanted_plain rfl) ?_
      have e22 : a.tmps[22]?.getD undef = .pointer (some ⟨w.heap.size, 2, none⟩) := hp ⟨4, .data⟩ (by simp) rfl _ rfl
      exact G.st_val (v := .int .u8 (o.fill.toNat : Int)) (w' := wq) (by simp [execOp, go_sem, e22, z1, z2] <;> omega) ⟨_, rfl, Below.refl _ _, rfl⟩
    · refine G.wanted_yes (G.wanted_plain rfl) ?_
      have e23 : a.tmps[23]?.getD undef = .int .u8 (o.fill.toNat : Int) := hp ⟨5, .data⟩ (by simp) rfl _ rfl
      refine G.st_call (f := 14) (args := #[.int .u8 (o.fill.toNat : Int)]) (by simp [execOp, go_sem, e23]) ((block_any o.fill wq).mono ?_); rintro e w2 ⟨rfl, hb2⟩; exact ⟨_, rfl, _, rfl, hb2, rfl⟩
    · refine G.wanted_yes (G.wanted_plain rfl) ?_
      have e19 : a.tmps[19]?.getD undef = .pointer none := hp ⟨1, .data⟩ (by simp) rfl _ rfl
      have e21 : a.tmps[21]?.getD undef = .int .i64 o.at_ := hp ⟨3, .data⟩ (by simp) rfl _ rfl
      have e24 : a.tmps[24]?.getD undef = .agg (bvs (pat o.fill)).toArray := hp ⟨6, .data⟩ (by simp) rfl _ rfl
      refine G.st_call (f := 33) (args := #[.pointer none, .int .i64 o.at_, .agg (bvs (pat o.fill)).toArray]) (by simp [execOp, go_sem, e19, e21, e24]) ((write_nil o.at_ (pat o.fill) wq).mono ?_); rintro e w2 ⟨rfl, hb2⟩; exact ⟨_, rfl, _, rfl, hb2, rfl⟩
  · intro a wq hT hS hp
    have e18 : G.slot a (some 18) = .agg (bvs zblk).toArray := hp 0 _ rfl
    have e19 : G.slot a (some 19) = .pointer none := hp 1 _ rfl
    have e20 : G.slot a (some 20) = .pointer (some ⟨w.heap.size, 1, none⟩) := hp 2 _ rfl
    have e21 : G.slot a (some 21) = .int .i64 o.at_ := hp 3 _ rfl
    have e22 : G.slot a (some 22) = .pointer (some ⟨w.heap.size, 2, none⟩) := hp 4 _ rfl
    have e23 : G.slot a (some 23) = .int .u8 (o.fill.toNat : Int) := hp 5 _ rfl
    have e24 : G.slot a (some 24) = .agg (bvs (pat o.fill)).toArray := hp 6 _ rfl
    have e25 : G.slot a (some 25) = .int .i64 1 := hp 7 _ rfl
    have ha := G.act_of hS
    simp only [List.take_succ_cons, List.take_zero, List.foldl_cons, List.foldl_nil, Act.put, List.setIfInBounds_toArray, List.set_cons_succ, List.set_cons_zero, e18, e19, e20, e21, e22, e23, e24, e25] at ha
    clear hp hS e18 e19 e20 e21 e22 e23 e24 e25
    subst ha
    show wpList _ _ _ _ _ _
    simp only [List.drop_succ_cons, List.drop_zero]
    have hb2 : Below w1.heap.size w1 wq := below_tr (Below.refl _ _).drew hT
    have hz2 := heap_bl hb2 HZ1.out
    have HZ2 := Lib.hid hz2
    have HF := Lib.hid (setRow_heap _ _ _ (bvs zblk).toArray _ _ hz2)
    have HBF := Lib.hid (below_row (below_tr HB1.out hb2) (q := w.heap.size + 1) (by omega) (Nat.le_refl _) (bvs zblk).toArray)
    clear hz2 hb2
    go_wp2_with (refine wl_store_row rfl 27 _ _ rfl _ _ (bvs zblk).toArray _ HZ2.out rfl rfl (size_blk zblk_len) rfl (one_blk _) ?_)
    exact bodyPost_ret (does_results zblk_len rfl rfl HF.out) rfl ⟨rfl, HBF.out⟩

set_option maxRecDepth 100000 in
set_option maxHeartbeats 8000000 in
theorem does_0 {w : World} {S : Nat → Prop} {b : Nat} {d : PD} (hd : IsD w S b d) (hn : d.ops < 1073741823) (e : DE) (F : Nat → Prop) (hk : opk e.1.kind = 0) (hko : e.1.okk) (hv : Sl w F 1 e.2 e.1.keep.length (e.1.keep.map Value.bool)) :
    Calls Try.prog 18 #[.pointer (some ⟨b, 0, none⟩), e.agg] w (DPost w S b (d.does e.1)) := by
  obtain ⟨o, v⟩ := e
  dsimp only at hk hv hko
  obtain ⟨Ak, ck, rfl⟩ : ∃ A c, v = .slice A o.keep.length c := by obtain ⟨-, A, c, h, -⟩ := hv; exact ⟨A, c, h⟩
  obtain ⟨t1, t2⟩ := does_boxes w #[.int .i64 o.kind, .int .i64 o.at_, .int .u8 (o.fill.toNat : Int), .slice Ak o.keep.length ck]
  obtain ⟨W, hW⟩ : ∃ W, (w.alloc (.cells #[.int .i64 o.kind, .int .i64 o.at_, .int .u8 (o.fill.toNat : Int), .slice Ak o.keep.length ck] 32)).alloc (.cells (bvs zblk).toArray 27) = W := ⟨_, rfl⟩
  have hb0 : Below w.heap.size w W := by rw [← hW]; exact below_al (below_al (Below.refl _ _) _) _
  rw [hW] at t1 t2
  have hlt : w.heap.size + 1 < W.heap.size := (Array.getElem?_eq_some_iff.1 t2).1
  have c0 := cell_in t1 0
  have c1 := cell_in t1 1
  have c2 := cell_in t1 2
  have c3 := cell_in t1 3
  simp at c0 c1 c2 c3
  have HT1 := Lib.hid t1
  have HT2 := Lib.hid t2
  have HB := Lib.hid hb0
  have HW := Lib.hid hW
  have HKD := Lib.hid (kind_any2 (o, .slice Ak o.keep.length ck) W hko.k1 hko.k2 ⟨_, _, _, rfl⟩)
  have h12 := hko.a1
  have h13 := hko.a2
  unfold DE.agg DE.cells at *
  dsimp only at *
  rw [hk] at HKD
  have HK := Lib.hid hk
  have HV := Lib.hid (Sl.below (Sl.imp_lt hv (by decide)) (by decide) hb0)
  have HKO := Lib.hid hko
  have hdb := hd.below hb0
  have hSl : ∀ x, S x → x < w.heap.size := by obtain ⟨vs, vp, h⟩ := hd; exact h.lt
  have HSL := Lib.hid hSl
  have HD := Lib.hid hdb
  clear hk hb0 t1 t2 hko hv hW hd hdb hSl
  have HOK := Lib.hid (show d.ok by obtain ⟨vs, vp, h⟩ := HD.out; exact h.ok)
  go_enter Try.func18, Try.ntmps18
  go_wp2_with (first | (refine wl_alloc rfl 27 rfl zero_block ?_) | fail)
  rw [HW.out]
  refine HKD.out.mono ?_
  rintro r w1 ⟨rfl, hb1⟩
  have hx1 := heap_bl hb1 HT1.out
  have y1 := cell_in hx1 1
  have y2 := cell_in hx1 2
  have y3 := cell_in hx1 3
  simp at y1 y2 y3
  have HX1 := Lib.hid hx1
  have HB1 := Lib.hid (below_tr HB.out hb1)
  have HZ1 := Lib.hid (heap_bl hb1 HT2.out)
  have HV1 := Lib.hid (Sl.below HV.out (by decide) hb1)
  have hlt1 : w.heap.size + 1 < w1.heap.size := (Array.getElem?_eq_some_iff.1 HZ1.out).1
  have HD1 := Lib.hid (HD.out.below hb1)
  have HGB := Lib.hid (below_tr HB.out hb1)
  clear hb1 hx1 c0 c1 c2 c3
  dsimp only
  go_wp2_with fail
  refine (read_any HD1.out hn o.at_ h12 h13).mono ?_
  rintro r w2 ⟨rfl, hd2, hu2⟩
  have HU2 := Lib.hid hu2
  have hg2 : Goes w1 S b (d.read o.at_).2.2 w2 := ⟨S, fun x hx => .inl hx, hd2, hu2⟩
  clear hd2 hu2
  have HG2 := Lib.hid hg2
  have hz2 : w2.heap[w.heap.size + 1]? = _ := (HU2.out).heap HZ1.out (fun hs => by have := HSL.out _ hs; omega)
  have HZ2 := Lib.hid hz2
  have HF := Lib.hid (setRow_heap _ _ _ (bvs (d.read o.at_).2.1).toArray _ _ hz2)
  have HGF := Lib.hid (Goes.box HGB.out hg2 (upd_setRow w2 (w.heap.size + 1) (bvs (d.read o.at_).2.1).toArray) (fun x hx => by omega) HSL.out)
  clear hz2 hg2
  dsimp only
  go_wp2_with (refine wl_store_row rfl 27 _ _ rfl _ _ (bvs (d.read o.at_).2.1).toArray _ HZ2.out rfl rfl (size_blk (PD.blk_read HOK.out o.at_)) (size_zb (PD.blk_read HOK.out o.at_)) (one_blk _) ?_)
  refine bodyPost_ret (does_results (PD.blk_read HOK.out o.at_) rfl rfl HF.out) rfl ?_
  unfold DPost PD.does
  rw [HK.out]
  exact ⟨rfl, HGF.out⟩

set_option maxRecDepth 100000 in
set_option maxHeartbeats 8000000 in
theorem does_2 {w : World} {S : Nat → Prop} {b : Nat} {d : PD} (hd : IsD w S b d) (hn : d.ops < 1073741823) (e : DE) (F : Nat → Prop) (hk : opk e.1.kind = 2) (hko : e.1.okk) (hv : Sl w F 1 e.2 e.1.keep.length (e.1.keep.map Value.bool)) :
    Calls Try.prog 18 #[.pointer (some ⟨b, 0, none⟩), e.agg] w (DPost w S b (d.does e.1)) := by
  obtain ⟨o, v⟩ := e
  dsimp only at hk hv hko
  obtain ⟨Ak, ck, rfl⟩ : ∃ A c, v = .slice A o.keep.length c := by obtain ⟨-, A, c, h, -⟩ := hv; exact ⟨A, c, h⟩
  obtain ⟨t1, t2⟩ := does_boxes w #[.int .i64 o.kind, .int .i64 o.at_, .int .u8 (o.fill.toNat : Int), .slice Ak o.keep.length ck]
  obtain ⟨W, hW⟩ : ∃ W, (w.alloc (.cells #[.int .i64 o.kind, .int .i64 o.at_, .int .u8 (o.fill.toNat : Int), .slice Ak o.keep.length ck] 32)).alloc (.cells (bvs zblk).toArray 27) = W := ⟨_, rfl⟩
  have hb0 : Below w.heap.size w W := by rw [← hW]; exact below_al (below_al (Below.refl _ _) _) _
  rw [hW] at t1 t2
  have hlt : w.heap.size + 1 < W.heap.size := (Array.getElem?_eq_some_iff.1 t2).1
  have c0 := cell_in t1 0
  have c1 := cell_in t1 1
  have c2 := cell_in t1 2
  have c3 := cell_in t1 3
  simp at c0 c1 c2 c3
  have HT1 := Lib.hid t1
  have HT2 := Lib.hid t2
  have HB := Lib.hid hb0
  have HW := Lib.hid hW
  have HKD := Lib.hid (kind_any2 (o, .slice Ak o.keep.length ck) W hko.k1 hko.k2 ⟨_, _, _, rfl⟩)
  have h12 := hko.a1
  have h13 := hko.a2
  unfold DE.agg DE.cells at *
  dsimp only at *
  rw [hk] at HKD
  have HK := Lib.hid hk
  have HV := Lib.hid (Sl.below (Sl.imp_lt hv (by decide)) (by decide) hb0)
  have HKO := Lib.hid hko
  have hdb := hd.below hb0
  have hSl : ∀ x, S x → x < w.heap.size := by obtain ⟨vs, vp, h⟩ := hd; exact h.lt
  have HSL := Lib.hid hSl
  have HD := Lib.hid hdb
  clear hk hb0 t1 t2 hko hv hW hd hdb hSl
  go_enter Try.func18, Try.ntmps18
  go_wp2_with (first | (refine wl_alloc rfl 27 rfl zero_block ?_) | fail)
  rw [HW.out]
  refine HKD.out.mono ?_
  rintro r w1 ⟨rfl, hb1⟩
  have hx1 := heap_bl hb1 HT1.out
  have y1 := cell_in hx1 1
  have y2 := cell_in hx1 2
  have y3 := cell_in hx1 3
  simp at y1 y2 y3
  have HX1 := Lib.hid hx1
  have HB1 := Lib.hid (below_tr HB.out hb1)
  have HZ1 := Lib.hid (heap_bl hb1 HT2.out)
  have HV1 := Lib.hid (Sl.below HV.out (by decide) hb1)
  have hlt1 : w.heap.size + 1 < w1.heap.size := (Array.getElem?_eq_some_iff.1 HZ1.out).1
  have HD1 := Lib.hid (HD.out.below hb1)
  have HGB := Lib.hid (below_tr HB.out hb1)
  clear hb1 hx1 c0 c1 c2 c3
  dsimp only
  go_wp2_with (first | (refine wl_build rfl 27 #[] rfl (vs := #[]) (by simp) build_zero ?_) | fail)
  refine (sync_any HD1.out hn).mono ?_
  rintro r w2 ⟨rfl, hg2⟩
  have HU2 := Lib.hid hg2.upd
  have HG2 := Lib.hid hg2
  have hz2 : w2.heap[w.heap.size + 1]? = _ := (HU2.out).heap HZ1.out (fun hs => by have := HSL.out _ hs; omega)
  have HZ2 := Lib.hid hz2
  have HF := Lib.hid (setRow_heap _ _ _ (bvs zblk).toArray _ _ hz2)
  have HGF := Lib.hid (Goes.box HGB.out hg2 (upd_setRow w2 (w.heap.size + 1) (bvs zblk).toArray) (fun x hx => by omega) HSL.out)
  clear hz2 hg2
  dsimp only
  go_wp2_with (refine wl_store_row rfl 27 _ _ rfl _ _ (bvs zblk).toArray _ HZ2.out rfl rfl (size_blk zblk_len) rfl (one_blk _) ?_)
  refine bodyPost_ret (does_results zblk_len rfl rfl HF.out) rfl ?_
  unfold DPost PD.does
  rw [HK.out]
  exact ⟨rfl, HGF.out⟩

set_option maxRecDepth 100000 in
set_option maxHeartbeats 8000000 in
theorem does_3 {w : World} {S : Nat → Prop} {b : Nat} {d : PD} (hd : IsD w S b d) (hn : d.ops < 1073741823) (e : DE) (F : Nat → Prop) (hk : opk e.1.kind = 3) (hko : e.1.okk) (hv : Sl w F 1 e.2 e.1.keep.length (e.1.keep.map Value.bool)) :
    Calls Try.prog 18 #[.pointer (some ⟨b, 0, none⟩), e.agg] w (DPost w S b (d.does e.1)) := by
  obtain ⟨o, v⟩ := e
  dsimp only at hk hv hko
  obtain ⟨Ak, ck, rfl⟩ : ∃ A c, v = .slice A o.keep.length c := by obtain ⟨-, A, c, h, -⟩ := hv; exact ⟨A, c, h⟩
  obtain ⟨t1, t2⟩ := does_boxes w #[.int .i64 o.kind, .int .i64 o.at_, .int .u8 (o.fill.toNat : Int), .slice Ak o.keep.length ck]
  obtain ⟨W, hW⟩ : ∃ W, (w.alloc (.cells #[.int .i64 o.kind, .int .i64 o.at_, .int .u8 (o.fill.toNat : Int), .slice Ak o.keep.length ck] 32)).alloc (.cells (bvs zblk).toArray 27) = W := ⟨_, rfl⟩
  have hb0 : Below w.heap.size w W := by rw [← hW]; exact below_al (below_al (Below.refl _ _) _) _
  rw [hW] at t1 t2
  have hlt : w.heap.size + 1 < W.heap.size := (Array.getElem?_eq_some_iff.1 t2).1
  have c0 := cell_in t1 0
  have c1 := cell_in t1 1
  have c2 := cell_in t1 2
  have c3 := cell_in t1 3
  simp at c0 c1 c2 c3
  have HT1 := Lib.hid t1
  have HT2 := Lib.hid t2
  have HB := Lib.hid hb0
  have HW := Lib.hid hW
  have HKD := Lib.hid (kind_any2 (o, .slice Ak o.keep.length ck) W hko.k1 hko.k2 ⟨_, _, _, rfl⟩)
  have h12 := hko.a1
  have h13 := hko.a2
  unfold DE.agg DE.cells at *
  dsimp only at *
  rw [hk] at HKD
  have HK := Lib.hid hk
  have HV := Lib.hid (Sl.below (Sl.imp_lt hv (by decide)) (by decide) hb0)
  have HKO := Lib.hid hko
  have hdb := hd.below hb0
  have hSl : ∀ x, S x → x < w.heap.size := by obtain ⟨vs, vp, h⟩ := hd; exact h.lt
  have HSL := Lib.hid hSl
  have HD := Lib.hid hdb
  clear hk hb0 t1 t2 hko hv hW hd hdb hSl
  go_enter Try.func18, Try.ntmps18
  go_wp2_with (first | (refine wl_alloc rfl 27 rfl zero_block ?_) | fail)
  rw [HW.out]
  refine HKD.out.mono ?_
  rintro r w1 ⟨rfl, hb1⟩
  have hx1 := heap_bl hb1 HT1.out
  have y1 := cell_in hx1 1
  have y2 := cell_in hx1 2
  have y3 := cell_in hx1 3
  simp at y1 y2 y3
  have HX1 := Lib.hid hx1
  have HB1 := Lib.hid (below_tr HB.out hb1)
  have HZ1 := Lib.hid (heap_bl hb1 HT2.out)
  have HV1 := Lib.hid (Sl.below HV.out (by decide) hb1)
  have hlt1 : w.heap.size + 1 < w1.heap.size := (Array.getElem?_eq_some_iff.1 HZ1.out).1
  have HD1 := Lib.hid (HD.out.below hb1)
  have HGB := Lib.hid (below_tr HB.out hb1)
  clear hb1 hx1 c0 c1 c2 c3
  dsimp only
  obtain ⟨vs, vp, hdk⟩ := HD1.out
  have HDK := Lib.hid hdk
  clear hdk
  go_wp2_with (first | (refine wl_build rfl 27 #[] rfl (vs := #[]) (by simp) build_zero ?_) | fail)
  refine (arm_any HDK.out o.at_ h12 h13).mono ?_
  rintro r w2 ⟨rfl, hd2, hu2, -⟩
  have HU2 := Lib.hid hu2
  have hg2 := Goes.of hd2 hu2
  clear hd2 hu2
  have HG2 := Lib.hid hg2
  have hz2 : w2.heap[w.heap.size + 1]? = _ := (HU2.out).heap HZ1.out (fun hs => by have := HSL.out _ hs; omega)
  have HZ2 := Lib.hid hz2
  have HF := Lib.hid (setRow_heap _ _ _ (bvs zblk).toArray _ _ hz2)
  have HGF := Lib.hid (Goes.box HGB.out hg2 (upd_setRow w2 (w.heap.size + 1) (bvs zblk).toArray) (fun x hx => by omega) HSL.out)
  clear hz2 hg2
  dsimp only
  go_wp2_with (refine wl_store_row rfl 27 _ _ rfl _ _ (bvs zblk).toArray _ HZ2.out rfl rfl (size_blk zblk_len) rfl (one_blk _) ?_)
  refine bodyPost_ret (does_results zblk_len rfl rfl HF.out) rfl ?_
  unfold DPost PD.does
  rw [HK.out]
  exact ⟨rfl, HGF.out⟩

set_option maxRecDepth 100000 in
set_option maxHeartbeats 8000000 in
theorem does_5 {w : World} {S : Nat → Prop} {b : Nat} {d : PD} (hd : IsD w S b d) (hn : d.ops < 1073741823) (e : DE) (F : Nat → Prop) (hk : opk e.1.kind = 5) (hko : e.1.okk) (hv : Sl w F 1 e.2 e.1.keep.length (e.1.keep.map Value.bool)) :
    Calls Try.prog 18 #[.pointer (some ⟨b, 0, none⟩), e.agg] w (DPost w S b (d.does e.1)) := by
  obtain ⟨o, v⟩ := e
  dsimp only at hk hv hko
  obtain ⟨Ak, ck, rfl⟩ : ∃ A c, v = .slice A o.keep.length c := by obtain ⟨-, A, c, h, -⟩ := hv; exact ⟨A, c, h⟩
  obtain ⟨t1, t2⟩ := does_boxes w #[.int .i64 o.kind, .int .i64 o.at_, .int .u8 (o.fill.toNat : Int), .slice Ak o.keep.length ck]
  obtain ⟨W, hW⟩ : ∃ W, (w.alloc (.cells #[.int .i64 o.kind, .int .i64 o.at_, .int .u8 (o.fill.toNat : Int), .slice Ak o.keep.length ck] 32)).alloc (.cells (bvs zblk).toArray 27) = W := ⟨_, rfl⟩
  have hb0 : Below w.heap.size w W := by rw [← hW]; exact below_al (below_al (Below.refl _ _) _) _
  rw [hW] at t1 t2
  have hlt : w.heap.size + 1 < W.heap.size := (Array.getElem?_eq_some_iff.1 t2).1
  have c0 := cell_in t1 0
  have c1 := cell_in t1 1
  have c2 := cell_in t1 2
  have c3 := cell_in t1 3
  simp at c0 c1 c2 c3
  have HT1 := Lib.hid t1
  have HT2 := Lib.hid t2
  have HB := Lib.hid hb0
  have HW := Lib.hid hW
  have HKD := Lib.hid (kind_any2 (o, .slice Ak o.keep.length ck) W hko.k1 hko.k2 ⟨_, _, _, rfl⟩)
  have h12 := hko.a1
  have h13 := hko.a2
  unfold DE.agg DE.cells at *
  dsimp only at *
  rw [hk] at HKD
  have HK := Lib.hid hk
  have HV := Lib.hid (Sl.below (Sl.imp_lt hv (by decide)) (by decide) hb0)
  have HKO := Lib.hid hko
  have hdb := hd.below hb0
  have hSl : ∀ x, S x → x < w.heap.size := by obtain ⟨vs, vp, h⟩ := hd; exact h.lt
  have HSL := Lib.hid hSl
  have HD := Lib.hid hdb
  clear hk hb0 t1 t2 hko hv hW hd hdb hSl
  go_enter Try.func18, Try.ntmps18
  go_wp2_with (first | (refine wl_alloc rfl 27 rfl zero_block ?_) | fail)
  rw [HW.out]
  refine HKD.out.mono ?_
  rintro r w1 ⟨rfl, hb1⟩
  have hx1 := heap_bl hb1 HT1.out
  have y1 := cell_in hx1 1
  have y2 := cell_in hx1 2
  have y3 := cell_in hx1 3
  simp at y1 y2 y3
  have HX1 := Lib.hid hx1
  have HB1 := Lib.hid (below_tr HB.out hb1)
  have HZ1 := Lib.hid (heap_bl hb1 HT2.out)
  have HV1 := Lib.hid (Sl.below HV.out (by decide) hb1)
  have hlt1 : w.heap.size + 1 < w1.heap.size := (Array.getElem?_eq_some_iff.1 HZ1.out).1
  have HD1 := Lib.hid (HD.out.below hb1)
  have HGB := Lib.hid (below_tr HB.out hb1)
  clear hb1 hx1 c0 c1 c2 c3
  dsimp only
  obtain ⟨vs, vp, hdk⟩ := HD1.out
  have HDK := Lib.hid hdk
  clear hdk
  go_wp2_with (first | (refine wl_build rfl 27 #[] rfl (vs := #[]) (by simp) build_zero ?_) | fail)
  refine (fail_any HDK.out o.at_ h12 h13).mono ?_
  rintro r w2 ⟨rfl, hd2, hu2, -⟩
  have HU2 := Lib.hid hu2
  have hg2 := Goes.of hd2 hu2
  clear hd2 hu2
  have HG2 := Lib.hid hg2
  have hz2 : w2.heap[w.heap.size + 1]? = _ := (HU2.out).heap HZ1.out (fun hs => by have := HSL.out _ hs; omega)
  have HZ2 := Lib.hid hz2
  have HF := Lib.hid (setRow_heap _ _ _ (bvs zblk).toArray _ _ hz2)
  have HGF := Lib.hid (Goes.box HGB.out hg2 (upd_setRow w2 (w.heap.size + 1) (bvs zblk).toArray) (fun x hx => by omega) HSL.out)
  clear hz2 hg2
  dsimp only
  go_wp2_with (refine wl_store_row rfl 27 _ _ rfl _ _ (bvs zblk).toArray _ HZ2.out rfl rfl (size_blk zblk_len) rfl (one_blk _) ?_)
  refine bodyPost_ret (does_results zblk_len rfl rfl HF.out) rfl ?_
  unfold DPost PD.does
  rw [HK.out]
  exact ⟨rfl, HGF.out⟩

set_option maxRecDepth 100000 in
set_option maxHeartbeats 8000000 in
theorem does_4 {w : World} {S : Nat → Prop} {b : Nat} {d : PD} (hd : IsD w S b d) (hn : d.ops < 1073741823) (e : DE) (F : Nat → Prop) (hk : opk e.1.kind = 4) (hko : e.1.okk) (hv : Sl w F 1 e.2 e.1.keep.length (e.1.keep.map Value.bool)) :
    Calls Try.prog 18 #[.pointer (some ⟨b, 0, none⟩), e.agg] w (DPost w S b (d.does e.1)) := by
  obtain ⟨o, v⟩ := e
  dsimp only at hk hv hko
  obtain ⟨Ak, ck, rfl⟩ : ∃ A c, v = .slice A o.keep.length c := by obtain ⟨-, A, c, h, -⟩ := hv; exact ⟨A, c, h⟩
  obtain ⟨t1, t2⟩ := does_boxes w #[.int .i64 o.kind, .int .i64 o.at_, .int .u8 (o.fill.toNat : Int), .slice Ak o.keep.length ck]
  obtain ⟨W, hW⟩ : ∃ W, (w.alloc (.cells #[.int .i64 o.kind, .int .i64 o.at_, .int .u8 (o.fill.toNat : Int), .slice Ak o.keep.length ck] 32)).alloc (.cells (bvs zblk).toArray 27) = W := ⟨_, rfl⟩
  have hb0 : Below w.heap.size w W := by rw [← hW]; exact below_al (below_al (Below.refl _ _) _) _
  rw [hW] at t1 t2
  have hlt : w.heap.size + 1 < W.heap.size := (Array.getElem?_eq_some_iff.1 t2).1
  have c0 := cell_in t1 0
  have c1 := cell_in t1 1
  have c2 := cell_in t1 2
  have c3 := cell_in t1 3
  simp at c0 c1 c2 c3
  have HT1 := Lib.hid t1
  have HT2 := Lib.hid t2
  have HB := Lib.hid hb0
  have HW := Lib.hid hW
  have HKD := Lib.hid (kind_any2 (o, .slice Ak o.keep.length ck) W hko.k1 hko.k2 ⟨_, _, _, rfl⟩)
  have h12 := hko.a1
  have h13 := hko.a2
  unfold DE.agg DE.cells at *
  dsimp only at *
  rw [hk] at HKD
  have HK := Lib.hid hk
  have HV := Lib.hid (Sl.below (Sl.imp_lt hv (by decide)) (by decide) hb0)
  have HKO := Lib.hid hko
  have hdb := hd.below hb0
  have hSl : ∀ x, S x → x < w.heap.size := by obtain ⟨vs, vp, h⟩ := hd; exact h.lt
  have HSL := Lib.hid hSl
  have HD := Lib.hid hdb
  clear hk hb0 t1 t2 hko hv hW hd hdb hSl
  go_enter Try.func18, Try.ntmps18
  go_wp2_with (first | (refine wl_alloc rfl 27 rfl zero_block ?_) | fail)
  rw [HW.out]
  refine HKD.out.mono ?_
  rintro r w1 ⟨rfl, hb1⟩
  have hx1 := heap_bl hb1 HT1.out
  have y1 := cell_in hx1 1
  have y2 := cell_in hx1 2
  have y3 := cell_in hx1 3
  simp at y1 y2 y3
  have HX1 := Lib.hid hx1
  have HB1 := Lib.hid (below_tr HB.out hb1)
  have HZ1 := Lib.hid (heap_bl hb1 HT2.out)
  have HV1 := Lib.hid (Sl.below HV.out (by decide) hb1)
  have hlt1 : w.heap.size + 1 < w1.heap.size := (Array.getElem?_eq_some_iff.1 HZ1.out).1
  have HD1 := Lib.hid (HD.out.below hb1)
  have HGB := Lib.hid (below_tr HB.out hb1)
  clear hb1 hx1 c0 c1 c2 c3
  dsimp only
  go_wp2_with (first | (refine wl_build rfl 27 #[] rfl (vs := #[]) (by simp) build_zero ?_) | fail)
  refine (keeps_any _ o.keep w1 _ HV1.out HKO.out.kl).mono ?_
  rintro r w5 ⟨v5, rfl, hs5, hb5⟩
  obtain ⟨vs, vp, hdk⟩ := HD1.out.below hb5
  have HC := Lib.hid (crash_any hdk (by omega) o.keep hs5 (fun x hx hs => by have := HSL.out x hs; have := HGB.out.size; omega))
  have HB5 := Lib.hid hb5
  obtain ⟨-, A5, c5, rfl, -, -, -, -⟩ := hs5
  clear hdk hb5
  dsimp only
  go_wp2_with fail
  refine HC.out.mono ?_
  rintro r w2 ⟨rfl, hd2, hu2⟩
  have hu3 := (Upd.of_below HB5.out : Upd S w1 w5).trans hu2 (fun _ _ h => h)
  have HU2 := Lib.hid hu3
  have hg2 := Goes.of hd2 hu3
  clear hd2 hu2 hu3
  have HG2 := Lib.hid hg2
  have hz2 : w2.heap[w.heap.size + 1]? = _ := (HU2.out).heap HZ1.out (fun hs => by have := HSL.out _ hs; omega)
  have HZ2 := Lib.hid hz2
  have HF := Lib.hid (setRow_heap _ _ _ (bvs zblk).toArray _ _ hz2)
  have HGF := Lib.hid (Goes.box HGB.out hg2 (upd_setRow w2 (w.heap.size + 1) (bvs zblk).toArray) (fun x hx => by omega) HSL.out)
  clear hz2 hg2
  dsimp only
  go_wp2_with (refine wl_store_row rfl 27 _ _ rfl _ _ (bvs zblk).toArray _ HZ2.out rfl rfl (size_blk zblk_len) rfl (one_blk _) ?_)
  refine bodyPost_ret (does_results zblk_len rfl rfl HF.out) rfl ?_
  unfold DPost PD.does
  rw [HK.out]
  exact ⟨rfl, HGF.out⟩

set_option maxRecDepth 100000 in
set_option maxHeartbeats 8000000 in
theorem does_1 {w : World} {S : Nat → Prop} {b : Nat} {d : PD} (hd : IsD w S b d) (hn : d.ops < 1073741823) (e : DE) (F : Nat → Prop) (hk : opk e.1.kind = 1) (hko : e.1.okk) (hv : Sl w F 1 e.2 e.1.keep.length (e.1.keep.map Value.bool)) :
    Calls Try.prog 18 #[.pointer (some ⟨b, 0, none⟩), e.agg] w (DPost w S b (d.does e.1)) := by
  obtain ⟨o, v⟩ := e
  dsimp only at hk hv hko
  obtain ⟨Ak, ck, rfl⟩ : ∃ A c, v = .slice A o.keep.length c := by obtain ⟨-, A, c, h, -⟩ := hv; exact ⟨A, c, h⟩
  obtain ⟨t1, t2⟩ := does_boxes w #[.int .i64 o.kind, .int .i64 o.at_, .int .u8 (o.fill.toNat : Int), .slice Ak o.keep.length ck]
  obtain ⟨W, hW⟩ : ∃ W, (w.alloc (.cells #[.int .i64 o.kind, .int .i64 o.at_, .int .u8 (o.fill.toNat : Int), .slice Ak o.keep.length ck] 32)).alloc (.cells (bvs zblk).toArray 27) = W := ⟨_, rfl⟩
  have hb0 : Below w.heap.size w W := by rw [← hW]; exact below_al (below_al (Below.refl _ _) _) _
  rw [hW] at t1 t2
  have hlt : w.heap.size + 1 < W.heap.size := (Array.getElem?_eq_some_iff.1 t2).1
  have c0 := cell_in t1 0
  have c1 := cell_in t1 1
  have c2 := cell_in t1 2
  have c3 := cell_in t1 3
  simp at c0 c1 c2 c3
  have HT1 := Lib.hid t1
  have HT2 := Lib.hid t2
  have HB := Lib.hid hb0
  have HW := Lib.hid hW
  have HKD := Lib.hid (kind_any2 (o, .slice Ak o.keep.length ck) W hko.k1 hko.k2 ⟨_, _, _, rfl⟩)
  have h12 := hko.a1
  have h13 := hko.a2
  unfold DE.agg DE.cells at *
  dsimp only at *
  rw [hk] at HKD
  have HK := Lib.hid hk
  have HV := Lib.hid (Sl.below (Sl.imp_lt hv (by decide)) (by decide) hb0)
  have HKO := Lib.hid hko
  have hdb := hd.below hb0
  have hSl : ∀ x, S x → x < w.heap.size := by obtain ⟨vs, vp, h⟩ := hd; exact h.lt
  have HSL := Lib.hid hSl
  have HD := Lib.hid hdb
  clear hk hb0 t1 t2 hko hv hW hd hdb hSl
  go_enter Try.func18, Try.ntmps18
  go_wp2_with (first | (refine wl_alloc rfl 27 rfl zero_block ?_) | fail)
  rw [HW.out]
  refine HKD.out.mono ?_
  rintro r w1 ⟨rfl, hb1⟩
  have hx1 := heap_bl hb1 HT1.out
  have y1 := cell_in hx1 1
  have y2 := cell_in hx1 2
  have y3 := cell_in hx1 3
  simp at y1 y2 y3
  have HX1 := Lib.hid hx1
  have HB1 := Lib.hid (below_tr HB.out hb1)
  have HZ1 := Lib.hid (heap_bl hb1 HT2.out)
  have HV1 := Lib.hid (Sl.below HV.out (by decide) hb1)
  have hlt1 : w.heap.size + 1 < w1.heap.size := (Array.getElem?_eq_some_iff.1 HZ1.out).1
  have HD1 := Lib.hid (HD.out.below hb1)
  have HGB := Lib.hid (below_tr HB.out hb1)
  clear hb1 hx1 c0 c1 c2 c3
  dsimp only
  go_wp2
  have hBe : G.Bears [⟨fun (_ : World) (v : Value) => v = .agg (bvs zblk).toArray, none⟩, ⟨fun (_ : World) (v : Value) => v = .pointer (some ⟨b, 0, none⟩), none⟩, ⟨fun (_ : World) (v : Value) => v = .pointer (some ⟨w.heap.size, 1, none⟩), none⟩, ⟨fun (_ : World) (v : Value) => v = .int .i64 o.at_, none⟩, ⟨fun (_ : World) (v : Value) => v = .pointer (some ⟨w.heap.size, 2, none⟩), none⟩, ⟨fun (_ : World) (v : Value) => v = .int .u8 (o.fill.toNat : Int), none⟩, ⟨fun (_ : World) (v : Value) => v = .agg (bvs (pat o.fill)).toArray, none⟩, ⟨fun (_ : World) (v : Value) => v = .int .i64 (d.write o.at_ (pat o.fill)).1, none⟩] := ⟨fun w w' v h hb => h, fun w w' v h hb => h, fun w w' v h hb => h, fun w w' v h hb => h, fun w w' v h hb => h, fun w w' v h hb => h, fun w w' v h hb => h, fun w w' v h hb => h, trivial⟩
  refine G.region_split 8 (by kernel_rfl) (by kernel_rfl) (G.any_two (by kernel_rfl) (fun L wq => DkI w1 S b (d.write o.at_ (pat o.fill)).2 (L 7) wq) (G.of2 [⟨fun (_ : World) (v : Value) => v = .agg (bvs zblk).toArray, none⟩, ⟨fun (_ : World) (v : Value) => v = .pointer (some ⟨b, 0, none⟩), none⟩, ⟨fun (_ : World) (v : Value) => v = .pointer (some ⟨w.heap.size, 1, none⟩), none⟩, ⟨fun (_ : World) (v : Value) => v = .int .i64 o.at_, none⟩, ⟨fun (_ : World) (v : Value) => v = .pointer (some ⟨w.heap.size, 2, none⟩), none⟩, ⟨fun (_ : World) (v : Value) => v = .int .u8 (o.fill.toNat : Int), none⟩, ⟨fun (_ : World) (v : Value) => v = .agg (bvs (pat o.fill)).toArray, none⟩, ⟨fun (_ : World) (v : Value) => v = .int .i64 (d.write o.at_ (pat o.fill)).1, none⟩]) (fun L hL => DkI.start w1 S b _ (hL 7 (by decide))) ?_ (G.each_ops ?_) ?_)
  · intro i o hi hd; exact absurd hd (G.no_none (by kernel_rfl) hi)
  · refine ⟨?_, ?_, ?_, ?_, ?_, ?_, ?_, ?_, trivial⟩
    all_goals intro L a wq hLi hd hcl hU hI hS hp
    all_goals (have hxq := hI.upd.heap HX1.out (fun hs => by have := HSL.out _ hs; omega); have z1 := cell_in hxq 1; have z2 := cell_in hxq 2; simp at z1 z2)
    · refine G.wanted_yes (G.wanted_plain rfl) ?_
      exact G.st_val (v := .agg (bvs zblk).toArray) (w' := wq) (ex_build 27 #[] rfl (vs := #[]) (by simp) (build_zero wq)) ⟨_, rfl, (by simpa [G.more] using hI), rfl, G.of2_own ⟨fun hL => absurd hL (by rw [hLi]; decide), fun _ u h => h, fun _ u h => h, fun _ u h => h, fun _ u h => h, fun _ u h => h, fun _ u h => h, fun _ u h => h, trivial⟩⟩
    · refine G.wanted_yes (G.wanted_plain rfl) ?_
      have e0 : a.tmps[0]?.getD undef = .pointer (some ⟨b, 0, none⟩) := hS.at_ 0 rfl
      exact G.st_val (v := .pointer (some ⟨b, 0, none⟩)) (w' := wq) (by simp [execOp, go_sem, e0, z1, z2] <;> omega) ⟨_, rfl, (by simpa [G.more] using hI), rfl, G.of2_own ⟨fun _ u h => h, fun hL => absurd hL (by rw [hLi]; decide), fun _ u h => h, fun _ u h => h, fun _ u h => h, fun _ u h => h, fun _ u h => h, fun _ u h => h, trivial⟩⟩
    · refine G.wanted_yes (G.wanted_plain rfl) ?_
      have e3 : a.tmps[3]?.getD undef = .pointer (some ⟨w.heap.size, 0, none⟩) := hS.at_ 3 rfl
      exact G.st_val (v := .pointer (some ⟨w.heap.size, 1, none⟩)) (w' := wq) (by simp [execOp, go_sem, e3, z1, z2] <;> omega) ⟨_, rfl, (by simpa [G.more] using hI), rfl, G.of2_own ⟨fun _ u h => h, fun _ u h => h, fun hL => absurd hL (by rw [hLi]; decide), fun _ u h => h, fun _ u h => h, fun _ u h => h, fun _ u h => h, fun _ u h => h, trivial⟩⟩
    · refine G.wanted_yes (G.wanted_plain rfl) ?_
      have e20 : a.tmps[20]?.getD undef = .pointer (some ⟨w.heap.size, 1, none⟩) := hp 2 _ rfl (hd ⟨2, .data⟩ (by simp) rfl)
      exact G.st_val (v := .int .i64 o.at_) (w' := wq) (by simp [execOp, go_sem, e20, z1, z2] <;> omega) ⟨_, rfl, (by simpa [G.more] using hI), rfl, G.of2_own ⟨fun _ u h => h, fun _ u h => h, fun _ u h => h, fun hL => absurd hL (by rw [hLi]; decide), fun _ u h => h, fun _ u h => h, fun _ u h => h, fun _ u h => h, trivial⟩⟩
    · refine G.wanted_yes (G.wanted_plain rfl) ?_
      have e3 : a.tmps[3]?.getD undef = .pointer (some ⟨w.heap.size, 0, none⟩) := hS.at_ 3 rfl
      exact G.st_val (v := .pointer (some ⟨w.heap.size, 2, none⟩)) (w' := wq) (by simp [execOp, go_sem, e3, z1, z2] <;> omega) ⟨_, rfl, (by simpa [G.more] using hI), rfl, G.of2_own ⟨fun _ u h => h, fun _ u h => h, fun _ u h => h, fun _ u h => h, fun hL => absurd hL (by rw [hLi]; decide), fun _ u h => h, fun _ u h => h, fun _ u h => h, trivial⟩⟩
    · refine G.wanted_yes (G.wanted_plain rfl) ?_
      have e22 : a.tmps[22]?.getD undef = .pointer (some ⟨w.heap.size, 2, none⟩) := hp 4 _ rfl (hd ⟨4, .data⟩ (by simp) rfl)
      exact G.st_val (v := .int .u8 (o.fill.toNat : Int)) (w' := wq) (by simp [execOp, go_sem, e22, z1, z2] <;> omega) ⟨_, rfl, (by simpa [G.more] using hI), rfl, G.of2_own ⟨fun _ u h => h, fun _ u h => h, fun _ u h => h, fun _ u h => h, fun _ u h => h, fun hL => absurd hL (by rw [hLi]; decide), fun _ u h => h, fun _ u h => h, trivial⟩⟩
    · refine G.wanted_yes (G.wanted_plain rfl) ?_
      have e23 : a.tmps[23]?.getD undef = .int .u8 (o.fill.toNat : Int) := hp 5 _ rfl (hd ⟨5, .data⟩ (by simp) rfl)
      refine G.st_call (f := 14) (args := #[.int .u8 (o.fill.toNat : Int)]) (by simp [execOp, go_sem, e23]) ((block_any o.fill wq).mono ?_); rintro e w2 ⟨rfl, hb2⟩; have h7 : L 7 = false := (by cases h : L 7 with | false => rfl | true => exact absurd (hcl 7 _ rfl h ⟨6, .data⟩ (by simp) rfl) (by rw [hLi]; decide)); exact ⟨_, rfl, _, rfl, DkI.fresh hI h7 hb2 (by simp [G.more, h7]), rfl, G.of2_own ⟨fun _ u h => h, fun _ u h => h, fun _ u h => h, fun _ u h => h, fun _ u h => h, fun _ u h => h, fun hL => absurd hL (by rw [hLi]; decide), fun _ u h => h, trivial⟩⟩
    · refine G.wanted_yes (G.wanted_plain rfl) ?_
      have e19 : a.tmps[19]?.getD undef = .pointer (some ⟨b, 0, none⟩) := hp 1 _ rfl (hd ⟨1, .data⟩ (by simp) rfl)
      have e21 : a.tmps[21]?.getD undef = .int .i64 o.at_ := hp 3 _ rfl (hd ⟨3, .data⟩ (by simp) rfl)
      have e24 : a.tmps[24]?.getD undef = .agg (bvs (pat o.fill)).toArray := hp 6 _ rfl (hd ⟨6, .data⟩ (by simp) rfl)
      refine G.st_call (f := 33) (args := #[.pointer (some ⟨b, 0, none⟩), .int .i64 o.at_, .agg (bvs (pat o.fill)).toArray]) (by simp [execOp, go_sem, e19, e21, e24]) ((write_any (HD1.out.below (hI.1 hLi)) hn o.at_ h12 h13 (pat o.fill) (pat_len _)).mono ?_); rintro e w2 ⟨rfl, hg2⟩; exact ⟨_, rfl, _, rfl, DkI.goes (hI.1 hLi) hg2 (by simp [G.more]), rfl, G.of2_own ⟨fun _ u h => h, fun _ u h => h, fun _ u h => h, fun _ u h => h, fun _ u h => h, fun _ u h => h, fun _ u h => h, fun hL => absurd hL (by rw [hLi]; decide), trivial⟩⟩
  · intro L a wq hL hI hS hp
    have e18 : G.slot a (some 18) = .agg (bvs zblk).toArray := hp 0 _ rfl
    have e19 : G.slot a (some 19) = .pointer (some ⟨b, 0, none⟩) := hp 1 _ rfl
    have e20 : G.slot a (some 20) = .pointer (some ⟨w.heap.size, 1, none⟩) := hp 2 _ rfl
    have e21 : G.slot a (some 21) = .int .i64 o.at_ := hp 3 _ rfl
    have e22 : G.slot a (some 22) = .pointer (some ⟨w.heap.size, 2, none⟩) := hp 4 _ rfl
    have e23 : G.slot a (some 23) = .int .u8 (o.fill.toNat : Int) := hp 5 _ rfl
    have e24 : G.slot a (some 24) = .agg (bvs (pat o.fill)).toArray := hp 6 _ rfl
    have e25 : G.slot a (some 25) = .int .i64 (d.write o.at_ (pat o.fill)).1 := hp 7 _ rfl
    have ha := G.act_of hS
    simp only [List.take_succ_cons, List.take_zero, List.foldl_cons, List.foldl_nil, Act.put, List.setIfInBounds_toArray, List.set_cons_succ, List.set_cons_zero, e18, e19, e20, e21, e22, e23, e24, e25] at ha
    clear hp hS hBe e18 e19 e20 e21 e22 e23 e24 e25
    subst ha
    show wpList _ _ _ _ _ _
    simp only [List.drop_succ_cons, List.drop_zero]
    have hg2 : Goes w1 S b (d.write o.at_ (pat o.fill)).2 wq := hI.2 (hL 7 (by decide))
    obtain ⟨w2, rfl⟩ : ∃ w2, w2 = wq := ⟨_, rfl⟩
    have HU2 := Lib.hid hg2.upd
    have HG2 := Lib.hid hg2
    have hz2 : w2.heap[w.heap.size + 1]? = _ := (HU2.out).heap HZ1.out (fun hs => by have := HSL.out _ hs; omega)
    have HZ2 := Lib.hid hz2
    have HF := Lib.hid (setRow_heap _ _ _ (bvs zblk).toArray _ _ hz2)
    have HGF := Lib.hid (Goes.box HGB.out hg2 (upd_setRow w2 (w.heap.size + 1) (bvs zblk).toArray) (fun x hx => by omega) HSL.out)
    clear hz2 hg2
    go_wp2_with (refine wl_store_row rfl 27 _ _ rfl _ _ (bvs zblk).toArray _ HZ2.out rfl rfl (size_blk zblk_len) rfl (one_blk _) ?_)
    refine bodyPost_ret (does_results zblk_len rfl rfl HF.out) rfl ?_
    unfold DPost PD.does
    rw [HK.out]
    exact ⟨rfl, HGF.out⟩

end Go.Proofs.Ythjlmkmijehnjaa
