/- Layer 2's laws: a box of six blocks; DiskLast's walk. No condition beyond sizes. -/
import Derived.Test.YthjlmkmijehnjaaDl6
namespace Go.Proofs.Ythjlmkmijehnjaa
open Go.RowKit Go.Shelf K L
set_option linter.unusedVariables false
set_option linter.unusedSimpArgs false

/-- A box of six blocks. -/
structure SixAt (w : World) (p : Nat) (ls : List Blk) : Prop where
  heap : w.heap[p]? = some (.cells (ls.flatMap bvs).toArray 28 (0, 0))
  len : ls.length = 6
  blk : ∀ x ∈ ls, x.length = 64
theorem six_cells {ls : List Blk} (hl : ls.length = 6) (hb : ∀ x ∈ ls, x.length = 64) : (ls.flatMap bvs).length = 384 := by
  have : ∀ l : List Blk, (∀ x ∈ l, x.length = 64) → (l.flatMap bvs).length = l.length * 64 := fun l => by
    induction l with
    | nil => intro _; rfl
    | cons a l ih => intro h; rw [List.flatMap_cons, List.length_append, ih (fun x hx => h x (List.mem_cons_of_mem _ hx)), bvs_len, h a (List.mem_cons_self ..), List.length_cons]; omega
  rw [this ls hb, hl]
theorem SixAt.range {w : World} {p : Nat} {ls : List Blk} (h : SixAt w p ls) (i : Nat) (hi : i < ls.length) : w.rangeAt p (i * 64) (bvs ls[i]) := fun j v hv => by
  have hj : j < 64 := by have := (List.getElem?_eq_some_iff.1 hv).1; rwa [bvs_len, h.blk _ (List.getElem_mem hi)] at this
  rw [cell_in h.heap, List.getElem?_toArray, fm_get' ls (fun x hx => by rw [bvs_len]; exact h.blk x hx) i j hj, List.getElem?_eq_getElem hi]; exact hv
theorem SixAt.there {w : World} {p : Nat} {ls : List Blk} (h : SixAt w p ls) (i : Nat) (hi : i < 6) (n : Nat) (hn : n = 64) : w.there p (i * 64) n := fun j hj => by
  refine ⟨?_, frozen_in h.heap _⟩
  rw [cell_in h.heap, Array.getElem?_eq_getElem (by rw [List.size_toArray, six_cells h.len h.blk]; omega)]; rfl
theorem SixAt.set {w : World} {p : Nat} {ls : List Blk} (h : SixAt w p ls) (i : Nat) (hi : i < 6) (b : Blk) (hb : b.length = 64) : SixAt (w.setCells p (i * 64) (bvs b)) p (ls.set i b) := by
  have hc := six_cells h.len h.blk
  obtain ⟨cur', h1, h2, h3⟩ := toList_setCells p (bvs b) (i * 64) w _ _ h.heap (by rw [bvs_len, hb, List.size_toArray, hc]; omega)
  rw [bvs_len, hb, fm_set ls (fun x hx => by rw [bvs_len]; exact h.blk x hx) i b (by rw [h.len]; exact hi)] at h3
  refine ⟨by rw [h1, ← h3], by rw [List.length_set, h.len], fun x hx => ?_⟩
  rcases List.mem_or_eq_of_mem_set hx with hx | hx
  · exact h.blk x hx
  · rw [hx]; exact hb
theorem SixAt.upd {S : Nat → Prop} {w w' : World} {p : Nat} {ls : List Blk} (h : SixAt w p ls) (hu : Upd S w w') (hp : ¬ S p) : SixAt w' p ls := ⟨hu.heap h.heap hp, h.len, h.blk⟩
theorem SixAt.below {w w' : World} {p : Nat} {ls : List Blk} (h : SixAt w p ls) (hb : Below w.heap.size w w') : SixAt w' p ls := ⟨heap_bl hb h.heap, h.len, h.blk⟩
theorem zero_six : ∀ w, (zeroValue 28).run Try.prog w = .ok (.agg ((List.replicate 6 zblk).flatMap bvs).toArray) w := zero_of (by kernel_rfl)
theorem lasts_take (es : List DE) (j : Nat) (hj : j < es.length) : lasts ((es.take (j + 1)).map (·.1)) = lstep (lasts ((es.take j).map (·.1))) es[j].1 := by
  rw [List.take_add_one, List.getElem?_eq_getElem hj, List.map_append]; exact lasts_snoc _ _

set_option maxRecDepth 100000 in
set_option maxHeartbeats 8000000 in
theorem diskLast_walk (v : Value) (es : List DE) (w : World) (F : Nat → Prop) (h : Ds w F v es) :
    Calls Try.prog 3 #[v] w fun e w' => e = .returned (.bool true) ∧ Below w.heap.size w w' := by
  have H := Lib.hid h.low
  obtain ⟨A0, c0, rfl⟩ := h.form
  clear h
  go_enter Try.func3, Try.ntmps3
  go_wp2_with fail
  refine (wakes_any w).mono ?_
  rintro r w1 ⟨rfl, hb1⟩
  have HW := Lib.hid (worn_any _ es w1 _ (Ds.below H.out hb1))
  have HB1 := Lib.hid hb1
  clear hb1
  dsimp only
  go_wp2_with fail
  refine HW.out.mono ?_
  rintro r w2 ⟨b, S, rfl, hI, hS, hb2⟩
  obtain ⟨W, hW⟩ : ∃ W, w2.alloc (.cells ((List.replicate 6 zblk).flatMap bvs).toArray 28) = W := ⟨_, rfl⟩
  have hb3 : Below w2.heap.size w2 W := by rw [← hW]; exact below_al (Below.refl _ _) _
  have hx3 : SixAt W w2.heap.size (List.replicate 6 zblk) := ⟨by rw [← hW]; exact heap_alloc_last _ _, rfl, fun x hx => by rw [List.eq_of_mem_replicate hx]; rfl⟩
  have HB2 := Lib.hid (HB1.out.trans (hb2.mono HB1.out.size))
  have HF := Lib.hid (few_any _ es W _ (Ds.below (Ds.below H.out HB2.out) hb3))
  have HI := Lib.hid (hI.below hb3)
  have HLT := Lib.hid hI.lt
  have HS := Lib.hid (show ∀ x, S x → w.heap.size ≤ x from fun x hx => Nat.le_trans HB1.out.size (hS x hx))
  have HX := Lib.hid hx3
  have HB3 := Lib.hid hb3
  have HW := Lib.hid hW
  clear hI hS hb2 hb3 hx3 hW
  dsimp only
  go_wp2_with (first | (refine wl_alloc rfl 28 rfl zero_six ?_; rw [HW.out]) | fail)
  refine HF.out.mono ?_
  rintro r w4 ⟨v4, rfl, hds, rfl⟩
  have hl120 : (es.take 120).length ≤ 120 := by simp; omega
  obtain ⟨ks, hks⟩ : ∃ ks, es.take 120 = ks := ⟨_, rfl⟩
  rw [hks] at hds hl120 HI
  have HDS := Lib.hid hds
  obtain ⟨A, c, rfl⟩ := hds.form
  clear hds hks HF HW
  obtain ⟨p, hp⟩ : ∃ p, w2.heap.size = p := ⟨_, rfl⟩
  rw [hp] at HLT HX
  have HP := Lib.hid hp
  try rw [hp]
  clear hp
  dsimp only
  go_wp2
  go_loopw [18] (fun i wr => ∃ j : Nat, j ≤ ks.length ∧ i = .int .i64 j ∧ Upd (· = p) W wr ∧ SixAt wr p (lasts ((ks.take j).map (·.1)))) (fun i _ => ks.length - (intOf i).toNat)
  case atStart => exact ⟨0, Nat.zero_le _, rfl, Upd.refl _ _, HX.out⟩
  case round =>
    obtain ⟨j, hj, rfl, hu, hx⟩ := hrel
    by_cases hlt : j < ks.length
    · have hds := Ds.upd HDS.out hu (fun x hx hxp => by have := HB2.out.size; have := HP.out; omega)
      obtain ⟨q, oq, rfl, hr, hvk, hok⟩ := hds.at_ j hlt
      have hst := lasts_take ks j hlt
      generalize ks[j] = e at *
      generalize lasts ((ks.take j).map (·.1)) = ls at *
      obtain ⟨o, vk⟩ := e
      dsimp only at hvk hok hst
      obtain ⟨Ak, ck, rfl⟩ : ∃ A c, vk = .slice A o.keep.length c := by obtain ⟨-, A, c, h, -⟩ := hvk; exact ⟨A, c, h⟩
      obtain ⟨W2, hW2⟩ : ∃ W2, wr.alloc (.cells (DE.cells (o, .slice Ak o.keep.length ck)).toArray 32) = W2 := ⟨_, rfl⟩
      have hb0 : Below wr.heap.size wr W2 := by rw [← hW2]; exact below_al (Below.refl _ _) _
      have hx0 : W2.heap[wr.heap.size]? = some (.cells (DE.cells (o, .slice Ak o.keep.length ck)).toArray 32 (0, 0)) := by rw [← hW2]; exact heap_alloc_last _ _
      have HK := Lib.hid (kind_any2 (o, .slice Ak o.keep.length ck) W2 hok.k1 hok.k2 ⟨_, _, _, rfl⟩)
      unfold DE.agg at HK
      dsimp only at HK
      have HR := Lib.hid hr
      have HW := Lib.hid hW2
      have HX0 := Lib.hid hx0
      have HXS := Lib.hid (hx.below hb0)
      have HU := Lib.hid (hu.trans (T := fun _ => False) (Upd.of_below hb0) (fun _ _ h => h.elim))
      have HST := Lib.hid hst
      have ha1 := hok.a1
      have ha2 := hok.a2
      clear hds hr hvk hok hW2 hb0 hx0 hu hst hx
      go_wp2_with (first | (refine wpList_load_mid rfl 32 _ rfl _ _ rfl _ _ HR.out Try.underlying32 rfl (size_de _) ?_) | (refine wl_alloc rfl 32 rfl zero_op ?_) | (refine wl_store_new rfl 32 _ _ rfl _ (DE.cells (o, .slice Ak o.keep.length ck)).toArray _ rfl rfl size_op rfl one_de ?_; rw [HW.out]) | (refine wpList_load_row rfl 32 _ rfl _ rfl _ _ _ _ HX0.out Try.underlying32 rfl size_op ?_) | fail)
      refine HK.out.mono ?_
      rintro r w3 ⟨rfl, hb3⟩
      obtain ⟨-, y1, y2, -⟩ := de_cells (heap_bl hb3 HX0.out)
      have HXS3 := Lib.hid (HXS.out.below hb3)
      have HU3 := Lib.hid (HU.out.trans (T := fun _ => False) (Upd.of_below hb3) (fun _ _ h => h.elim))
      have HX3 := Lib.hid (heap_bl hb3 HX0.out)
      dsimp only at y1 y2
      clear hb3 HK
      dsimp only
      by_cases hk : opk o.kind = 1 ∧ 0 ≤ o.at_ ∧ o.at_ < 6
      · rw [lstep, if_pos hk] at HST
        obtain ⟨hk, h0, h6⟩ := hk
        rw [hk]
        obtain ⟨n0, ha⟩ : ∃ n0 : Nat, o.at_ = n0 := ⟨o.at_.toNat, by omega⟩
        rw [ha] at y1 HST
        have hal : n0 < 6 := by omega
        have HBL := Lib.hid (block_any o.fill)
        have HPL := Lib.hid (pat_len o.fill)
        generalize pat o.fill = bl at HBL HPL HST
        have HAT := Lib.hid (show some (Value.int .i64 o.at_) = some (.int .i64 (n0 : Nat)) by rw [ha])
        clear ha hk h0 h6 ha1 ha2
        obtain ⟨WQ, hWQ⟩ : ∃ WQ, WQ = w3 := ⟨_, rfl⟩
        subst hWQ
        go_wp2_with fail
        refine G.region_split 5 (by kernel_rfl) (by kernel_rfl) (G.any_inv (by kernel_rfl) (fun w w' => Below w.heap.size w w') (fun _ _ _ h k => below_tr h k) (fun w _ => Below.refl _ _) (Below.refl _ _)
          (G.of [(fun (_ : World) (v : Value) => v = .pointer (some ⟨wr.heap.size, 1, none⟩)), (fun (_ : World) (v : Value) => v = .int .i64 (n0 : Nat)), (fun (_ : World) (v : Value) => v = .pointer (some ⟨wr.heap.size, 2, none⟩)), (fun (_ : World) (v : Value) => v = .int .u8 (o.fill.toNat : Int)), (fun (_ : World) (v : Value) => v = .agg (bvs bl).toArray)])
          (G.of_stays _ ?_) ?_ (G.each_ops ?_) ?_)
        · exact ⟨(fun w w' v h k => h), (fun w w' v h k => h), (fun w w' v h k => h), (fun w w' v h k => h), (fun w w' v h k => h), trivial⟩
        · intro i o hi hd; exact absurd hd (G.no_none (by kernel_rfl) hi)
        · refine ⟨?_, ?_, ?_, ?_, ?_, trivial⟩
          all_goals intro a wq hT hS hp
          all_goals (have hTT : Below WQ.heap.size WQ wq := below_tr (Below.refl _ _).drew hT; obtain ⟨-, z1, z2, -⟩ := de_cells (heap_bl hTT HX3.out); dsimp only at z1 z2; have z1 := z1.trans HAT.out)
          · refine G.wanted_yes (G.wanted_plain rfl) ?_
            have e6 : a.tmps[6]?.getD undef = .pointer (some ⟨wr.heap.size, 0, none⟩) := hS.at_ 6 rfl
            exact G.st_val (v := .pointer (some ⟨wr.heap.size, 1, none⟩)) (w' := wq) (by simp [execOp, go_sem, e6, z1, z2] <;> omega) ⟨_, rfl, Below.refl _ _, rfl⟩
          · refine G.wanted_yes (G.wanted_plain rfl) ?_
            have e35 : a.tmps[35]?.getD undef = .pointer (some ⟨wr.heap.size, 1, none⟩) := hp ⟨0, .data⟩ (by simp) rfl _ rfl
            exact G.st_val (v := .int .i64 (n0 : Nat)) (w' := wq) (by simp [execOp, go_sem, e35, z1, z2] <;> omega) ⟨_, rfl, Below.refl _ _, rfl⟩
          · refine G.wanted_yes (G.wanted_plain rfl) ?_
            have e6 : a.tmps[6]?.getD undef = .pointer (some ⟨wr.heap.size, 0, none⟩) := hS.at_ 6 rfl
            exact G.st_val (v := .pointer (some ⟨wr.heap.size, 2, none⟩)) (w' := wq) (by simp [execOp, go_sem, e6, z1, z2] <;> omega) ⟨_, rfl, Below.refl _ _, rfl⟩
          · refine G.wanted_yes (G.wanted_plain rfl) ?_
            have e37 : a.tmps[37]?.getD undef = .pointer (some ⟨wr.heap.size, 2, none⟩) := hp ⟨2, .data⟩ (by simp) rfl _ rfl
            exact G.st_val (v := .int .u8 (o.fill.toNat : Int)) (w' := wq) (by simp [execOp, go_sem, e37, z1, z2] <;> omega) ⟨_, rfl, Below.refl _ _, rfl⟩
          · refine G.wanted_yes (G.wanted_plain rfl) ?_
            have e38 : a.tmps[38]?.getD undef = .int .u8 (o.fill.toNat : Int) := hp ⟨3, .data⟩ (by simp) rfl _ rfl
            exact G.st_call (f := 14) (args := #[.int .u8 (o.fill.toNat : Int)]) (by simp [execOp, go_sem, e38]) ((HBL.out wq).mono fun e w' ⟨he, hB⟩ => ⟨_, he, _, rfl, hB, rfl⟩)
        · intro a wq hT hS hp
          have e35 : G.slot a (some 35) = .pointer (some ⟨wr.heap.size, 1, none⟩) := hp 0 _ rfl
          have e36 : G.slot a (some 36) = .int .i64 (n0 : Nat) := hp 1 _ rfl
          have e37 : G.slot a (some 37) = .pointer (some ⟨wr.heap.size, 2, none⟩) := hp 2 _ rfl
          have e38 : G.slot a (some 38) = .int .u8 (o.fill.toNat : Int) := hp 3 _ rfl
          have e39 : G.slot a (some 39) = .agg (bvs bl).toArray := hp 4 _ rfl
          have ha := G.act_of hS
          simp only [List.take_succ_cons, List.take_zero, List.foldl_cons, List.foldl_nil, Act.put, List.setIfInBounds_toArray, List.set_cons_succ, List.set_cons_zero, e35, e36, e37, e38, e39] at ha
          clear hp hS e35 e36 e37 e38 e39
          subst ha
          show wpList _ _ _ _ _ _
          simp only [List.drop_succ_cons, List.drop_zero]
          have hTT : Below WQ.heap.size WQ wq := below_tr (Below.refl _ _).drew hT
          have HX4 := Lib.hid (HXS3.out.below hTT)
          have HU4 := Lib.hid (HU3.out.trans (T := fun _ => False) (Upd.of_below hTT) (fun _ _ h => h.elim))
          have HTH := Lib.hid (HX4.out.there n0 hal (bvs bl).toArray.size (by rw [List.size_toArray, bvs_len, HPL.out]))
          clear hT hTT y1 y2
          go_wp2_with (first | (refine wl_store_mid rfl 27 _ _ rfl p (n0 * 64) (bvs bl).toArray rfl rfl HTH.out (size_blk HPL.out) (one_blk _) ?_) | fail)
          exact ⟨⟨j + 1, by omega, by go_num, HU4.out.trans (setCells_upd (S := (· = p)) p rfl _ _ _) (fun _ _ h => h), by rw [HST.out]; exact HX4.out.set n0 hal _ HPL.out⟩, by simp only [intOf]; omega⟩
      · rw [lstep, if_neg hk] at HST
        have fin : ∀ i, i = Value.int .i64 ((j : Int) + 1) → (∃ j' : Nat, j' ≤ ks.length ∧ i = Value.int .i64 j' ∧ Upd (· = p) W w3 ∧ SixAt w3 p (lasts ((ks.take j').map (·.1)))) := fun i hi => ⟨j + 1, by omega, by rw [hi]; go_num, HU3.out, by rw [HST.out]; exact HXS3.out⟩
        have FIN := Lib.hid fin
        clear fin
        by_cases h1 : opk o.kind = 1
        · rw [h1]
          by_cases h0 : 0 ≤ o.at_
          · have h6 : ¬ o.at_ < 6 := fun h => hk ⟨h1, h0, h⟩
            clear hk h1
            go_wp2
            exact ⟨FIN.out _ rfl, by simp only [intOf]; omega⟩
          · clear hk h1
            go_wp2
            exact ⟨FIN.out _ rfl, by simp only [intOf]; omega⟩
        · have hq : (opk o.kind == 1) = false := by simpa using h1
          generalize opk o.kind = kk at *
          clear hk
          go_wp2
          exact ⟨FIN.out _ rfl, by simp only [intOf]; omega⟩
    · obtain rfl : j = ks.length := by omega
      rw [List.take_of_length_le (Nat.le_refl _)] at hx
      have hI := HI.out.keep hu (fun x hS hxp => by have := HLT.out x hS; omega)
      have hf := worn_fine (ks.map (·.1))
      have hop := hf.2
      rw [List.length_map] at hop
      have HH := Lib.hid (held_any hI (by rw [hf.1.six]; omega) hf.1.dead hf.1.fails)
      rw [hf.1.six, worn_helds] at HH
      generalize lasts (ks.map (·.1)) = ls at *
      have HX := Lib.hid hx
      have HU := Lib.hid hu
      clear hI hf hx hu hop
      go_wp2_with fail
      refine HH.out.mono ?_
      rintro r w5 ⟨v5, rfl, ho, -, hu5⟩
      have HX5 := Lib.hid (HX.out.upd hu5 (fun h => by have := HLT.out p h; omega))
      have HBW : Below w.heap.size w w5 := HB2.out.trans ((HB3.out.trans (by rw [HP.out]; exact (HU.out.below (B := p) (by have := HB3.out.size; have := HP.out; omega) (fun x hx => by omega)))).mono HB2.out.size |>.trans (hu5.below (B := w.heap.size) (by have := HB2.out.size; have := HB3.out.size; have := HU.out.size; omega) HS.out))
      have HO := Lib.hid ho
      have HB5 := Lib.hid HBW
      obtain ⟨A5, c5, rfl⟩ := own_at_slice ho
      clear ho hu5 HBW HH HU
      dsimp only
      go_wp2
      go_loopw [45] (fun i wr => ∃ j : Nat, j ≤ 6 ∧ i = .int .i64 j ∧ Below w5.heap.size w5 wr) (fun i _ => 6 - (intOf i).toNat)
      case atStart => exact ⟨0, Nat.zero_le _, rfl, Below.refl _ _⟩
      case round =>
        obtain ⟨j, hj, rfl, hb⟩ := hrel
        by_cases hlt : j < 6
        · have hl := HX5.out.len
          have hs : Sl w5 (fun _ => True) 64 (.slice A5 6 c5) ls.length (ls.flatMap bvs) := by rw [hl]; exact Sl.imp (Sl.of_own HO.out) (fun _ _ _ => trivial) (by decide)
          obtain ⟨q, oq, rfl, hq, hr⟩ := sl_range (fun x hx => by rw [bvs_len]; exact HX5.out.blk x hx) (by decide) (Sl.below hs (by decide) hb) j (by omega)
          have hxl := HX5.out.blk _ (List.getElem_mem (show j < ls.length by omega))
          have hr2 := (HX5.out.below hb).range j (by omega)
          have hp2 : p < wr.heap.size := (Array.getElem?_eq_some_iff.1 (HX5.out.below hb).heap).1
          generalize ls[j]'(by omega) = x at *
          obtain ⟨W4, hW4⟩ : ∃ W4, wr.alloc (.cells (bvs x).toArray 27) = W4 := ⟨_, rfl⟩
          have hb4 : Below wr.heap.size wr W4 := by rw [← hW4]; exact below_al (Below.refl _ _) _
          have hx4 : W4.heap[wr.heap.size]? = some (.cells (bvs x).toArray 27 (0, 0)) := by rw [← hW4]; exact heap_alloc_last _ _
          have HR := Lib.hid hr
          have HR2 := Lib.hid (range_bl hb4 hp2 hr2)
          have HP4 := Lib.hid (Nat.lt_of_lt_of_le hp2 hb4.size)
          have HX4 := Lib.hid hx4
          have HB4 := Lib.hid (hb.trans (hb4.mono hb.size))
          have HW4 := Lib.hid hW4
          have HXL := Lib.hid hxl
          clear hl hs hq hr hxl hr2 hp2 hW4 hb4 hx4 hb
          go_wp2_with (first | (refine wpList_load_mid rfl 27 _ rfl _ _ rfl _ _ HR.out Try.underlying27 rfl (size_blk' HXL.out) ?_) | (refine wl_alloc rfl 27 rfl zero_block ?_) | (refine wl_store_new rfl 27 _ _ rfl _ (bvs x).toArray _ rfl rfl (size_blk HXL.out) (size_zb HXL.out) (one_blk _) ?_; rw [HW4.out]) | fail)
          refine G.region_inv (by kernel_rfl) (by kernel_rfl) (fun w w' => Below w.heap.size w w') (fun _ _ _ h k => below_tr h k) (fun w _ => Below.refl _ _) (Below.refl _ _)
            (G.of [(fun (_ : World) (v : Value) => v = .agg (bvs x).toArray), (fun (_ : World) (v : Value) => v = .int .i64 (j : Nat)), (fun (_ : World) (v : Value) => v = .pointer (some ⟨p, j * 64, none⟩)), (fun (_ : World) (v : Value) => v = .agg (bvs x).toArray), (fun (_ : World) (v : Value) => v = .bool false)])
            (G.of_stays _ ?_) ?_ (G.each_ops ?_) ?_
          · exact ⟨(fun w w' v h k => h), (fun w w' v h k => h), (fun w w' v h k => h), (fun w w' v h k => h), (fun w w' v h k => h), trivial⟩
          · intro i o hi hd; exact absurd hd (G.no_none (by kernel_rfl) hi)
          · refine ⟨?_, ?_, ?_, ?_, ?_, trivial⟩
            all_goals intro a wq hT hS hp
            all_goals (have hTT : Below W4.heap.size W4 wq := below_tr (Below.refl _ _).drew hT)
            · refine G.wanted_yes (G.wanted_plain rfl) ?_
              have e8 : a.tmps[8]?.getD undef = .pointer (some ⟨wr.heap.size, 0, none⟩) := hS.at_ 8 rfl
              exact G.st_val (v := .agg (bvs x).toArray) (w' := wq) (ex_load 27 (.tmp 8) rfl wr.heap.size 0 (by rw [G.eval_tmp]; exact e8) (bvs x) _ (fun j u hu => by rw [Nat.zero_add, cell_in (heap_bl hTT HX4.out)]; simpa using hu) Try.underlying27 rfl (size_blk' HXL.out)) ⟨_, rfl, Below.refl _ _, rfl⟩
            · refine G.wanted_yes (G.wanted_plain rfl) ?_
              have e7 : a.tmps[7]?.getD undef = .int .i64 (j : Nat) := hS.at_ 7 rfl
              exact G.st_val (v := .int .i64 (j : Nat)) (w' := wq) (by simp [execOp, go_sem, e7, hlt] <;> omega) ⟨_, rfl, Below.refl _ _, rfl⟩
            · refine G.wanted_yes (G.wanted_plain rfl) ?_
              have e4 : a.tmps[4]?.getD undef = .pointer (some ⟨p, 0, none⟩) := hS.at_ 4 rfl
              have e51 : a.tmps[51]?.getD undef = .int .i64 (j : Nat) := hp ⟨1, .data⟩ (by simp) rfl _ rfl
              exact G.st_val (v := .pointer (some ⟨p, j * 64, none⟩)) (w' := wq) (by simp [execOp, go_sem, e4, e51, hlt] <;> omega) ⟨_, rfl, Below.refl _ _, rfl⟩
            · refine G.wanted_yes (G.wanted_plain rfl) ?_
              have e52 : a.tmps[52]?.getD undef = .pointer (some ⟨p, j * 64, none⟩) := hp ⟨2, .data⟩ (by simp) rfl _ rfl
              exact G.st_val (v := .agg (bvs x).toArray) (w' := wq) (ex_load 27 (.tmp 52) rfl p (j * 64) (by rw [G.eval_tmp]; exact e52) (bvs x) _ (range_bl hTT HP4.out HR2.out) Try.underlying27 rfl (size_blk' HXL.out)) ⟨_, rfl, Below.refl _ _, rfl⟩
            · refine G.wanted_yes (G.wanted_plain rfl) ?_
              have e50 : a.tmps[50]?.getD undef = .agg (bvs x).toArray := hp ⟨0, .data⟩ (by simp) rfl _ rfl
              have e53 : a.tmps[53]?.getD undef = .agg (bvs x).toArray := hp ⟨3, .data⟩ (by simp) rfl _ rfl
              exact G.st_val (v := .bool false) (w' := wq) ((ex_neq rfl x x (by rw [G.eval_tmp]; exact e50) (by rw [G.eval_tmp]; exact e53) HXL.out HXL.out).trans (by rw [show (x != x) = false from by simp])) ⟨_, rfl, Below.refl _ _, rfl⟩
          · intro a wq hT hS hp
            have e50 : G.slot a (some 50) = .agg (bvs x).toArray := hp 0 _ rfl
            have e51 : G.slot a (some 51) = .int .i64 (j : Nat) := hp 1 _ rfl
            have e52 : G.slot a (some 52) = .pointer (some ⟨p, j * 64, none⟩) := hp 2 _ rfl
            have e53 : G.slot a (some 53) = .agg (bvs x).toArray := hp 3 _ rfl
            have e54 : G.slot a (some 54) = .bool false := hp 4 _ rfl
            have ha := G.act_of hS
            simp only [List.foldl_cons, List.foldl_nil, Act.put, List.setIfInBounds_toArray, List.set_cons_succ, List.set_cons_zero, e50, e51, e52, e53, e54] at ha
            clear hp hS e50 e51 e52 e53 e54
            subst ha
            have HBF := Lib.hid (HB4.out.trans ((below_tr (Below.refl _ _).drew hT : Below W4.heap.size W4 wq).mono HB4.out.size))
            clear hT
            go_wp2
            exact ⟨⟨j + 1, by omega, by go_num, HBF.out⟩, by simp only [intOf]; omega⟩
        · obtain rfl : j = 6 := by omega
          have HBF := Lib.hid (HB5.out.trans (hb.mono HB5.out.size))
          clear hb
          go_wp2
          go_ret
          exact ⟨rfl, HBF.out⟩

end Go.Proofs.Ythjlmkmijehnjaa
