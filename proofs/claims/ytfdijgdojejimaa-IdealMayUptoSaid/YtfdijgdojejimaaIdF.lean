/- Law 27's walk: copied, IdealFiles. No condition beyond sizes. -/
import Derived.Test.YtfdijgdojejimaaId11
import Derived.Deep.Cut
namespace Go.Proofs.Ytfdijgdojejimaa
open Go.RowKit Go.Shelf K L
set_option linter.unusedVariables false
set_option linter.unusedSimpArgs false

theorem OwnFs.below {X Y : World} {n : Nat} {u : Value} {ls : List FE} (h : OwnFs X n 0 u ls) (hb : Below X.heap.size X Y) : OwnFs Y n 0 u ls := ⟨h.1.kept (below_any hb) (row_none_or h.1), fun e he => bst_below (h.2 e he) hb⟩

set_option maxRecDepth 100000 in
set_option maxHeartbeats 8000000 in
theorem copied_any (v : Value) (w : World) (es : List FE) (hle : es.length ≤ 1048576) (hL : Ls w v es) :
    Calls Try.prog 10 #[v] w fun e W' => ∃ u ls, e = .returned u ∧ OwnFs W' w.heap.size 0 u ls ∧ ls.map (·.1) = es.map (·.1) ∧ Below w.heap.size w W' := by
  have hL' := hL
  obtain ⟨⟨-, A, c, rfl, l1, l2, -, -⟩, -⟩ := hL
  unfold maxLen at l2
  go_enter Try.func10, Try.ntmps10
  go_wp2
  go_loopw [3, 5, 8] (fun s _ i wr => ∃ (k : Nat) (ls : List FE), k ≤ es.length ∧ i = .int .i64 k ∧ OwnFs wr w.heap.size 0 s ls ∧ ls.map (·.1) = (es.take k).map (·.1) ∧ Below w.heap.size w wr) (fun _ _ i _ => es.length - (intOf i).toNat)
  case atStart => exact ⟨0, [], Nat.zero_le _, rfl, ⟨World.ownsRow_nil _ _ _ _, fun e he => by cases he⟩, rfl, Below.refl _ _⟩
  case round =>
    obtain ⟨k, ls, hk, rfl, hO, hls, hb⟩ := hrel
    by_cases hlt : k < es.length
    · obtain ⟨b, o, Ab, cb, rfl, hbl, hvb, c0, c1, c2, c3, c4, c5, c6⟩ := (hL'.below hb).at k hlt
      have hx := ((hL'.below hb).2 _ (List.getElem_mem hlt)).1
      have hxl := (hL'.2 _ (List.getElem_mem hlt)).2
      have hsn : (es.take (k + 1)).map (·.1) = (es.take k).map (·.1) ++ [es[k].1] := by rw [take_snoc es k hlt, List.map_append]; rfl
      have hll : ls.length ≤ k := by
        have := congrArg List.length hls
        rw [List.length_map, List.length_map, List.length_take] at this
        omega
      have hsz := hb.size
      rw [hvb] at hx
      generalize es[k].1 = x at *
      clear hvb
      rw [← hls] at hsn
      have HSN := Lib.hid hsn
      clear hls hsn
      have e1 := heap_new wr (.cells #[.int .i64 x.kind, .int .i64 x.node, .int .i64 x.frm, .int .u32 (x.number : Nat), .string ⟨x.name.toArray⟩, .int .i64 x.code, .slice Ab x.bytes.length cb] 26)
      have b1 : Below wr.heap.size wr (wr.alloc (.cells #[.int .i64 x.kind, .int .i64 x.node, .int .i64 x.frm, .int .u32 (x.number : Nat), .string ⟨x.name.toArray⟩, .int .i64 x.code, .slice Ab x.bytes.length cb] 26)) := (Below.refl _ _).alloc (Nat.le_refl _) _
      have b2 : Below wr.heap.size wr ((wr.alloc (.cells #[.int .i64 x.kind, .int .i64 x.node, .int .i64 x.frm, .int .u32 (x.number : Nat), .string ⟨x.name.toArray⟩, .int .i64 x.code, .slice Ab x.bytes.length cb] 26)).alloc (.cells #[] 5)) := b1.alloc b1.size _
      have hown : ((wr.alloc (.cells #[.int .i64 x.kind, .int .i64 x.node, .int .i64 x.frm, .int .u32 (x.number : Nat), .string ⟨x.name.toArray⟩, .int .i64 x.code, .slice Ab x.bytes.length cb] 26)).alloc (.cells #[] 5)).ownsRow (wr.heap.size + 1) 5 1 (.slice (some ⟨wr.heap.size + 1, 0, none⟩) 0 0) 0 [] := by
        have := World.ownsRow_lit (base := wr.heap.size + 1) (e := 5) (size := 1) (wr.alloc (.cells #[.int .i64 x.kind, .int .i64 x.node, .int .i64 x.frm, .int .u32 (x.number : Nat), .string ⟨x.name.toArray⟩, .int .i64 x.code, .slice Ab x.bytes.length cb] 26)) #[] 0 (by simp only [World.size_alloc]; omega) (by simp [maxLen]) rfl
        simpa only [World.size_alloc] using this
      have hsrc := bs_lift hx b2
      have haf : ∀ (v' : Value) (w1 : World), w1.ownsRow (wr.heap.size + 1) 5 1 v' (0 + x.bytes.length) ([] ++ bvs x.bytes) → ((wr.alloc (.cells #[.int .i64 x.kind, .int .i64 x.node, .int .i64 x.frm, .int .u32 (x.number : Nat), .string ⟨x.name.toArray⟩, .int .i64 x.code, .slice Ab x.bytes.length cb] 26)).alloc (.cells #[] 5)).grownBy w1 (Value.ownBlock (.slice (some ⟨wr.heap.size + 1, 0, none⟩) 0 0)) →
          ∃ A7 c7, v' = .slice A7 x.bytes.length c7 ∧ BsT w1 (wr.heap.size + 1) v' x.bytes ∧ w1.heap[wr.heap.size]? = some (.cells #[.int .i64 x.kind, .int .i64 x.node, .int .i64 x.frm, .int .u32 (x.number : Nat), .string ⟨x.name.toArray⟩, .int .i64 x.code, .slice Ab x.bytes.length cb] 26) ∧ Below wr.heap.size wr w1 := by
        intro v' w1 ho hg
        have hob : Ob w1 (wr.heap.size + 1) 5 v' x.bytes := Ob.more (xs := []) ho rfl
        obtain ⟨A7, c7, rfl, -, -, -, -⟩ := hob.bs.open_
        have hg' : World.grownBy _ w1 (some (wr.heap.size + 1)) := hg
        exact ⟨A7, c7, rfl, bst_of_ob hob, gr_heap hg' (heap_al e1 _) (by omega), below_gr b2 hg' (by omega)⟩
      have HOWN := Lib.hid hown
      have HSRC := Lib.hid hsrc
      have HAF := Lib.hid haf
      have HO := Lib.hid hO
      clear e1 b1 b2 hown hsrc haf hx hO
      go_upto_region 6 with (at_builtin; go_must (refine app Try.el8 rfl _ _ rfl (wr.heap.size + 1) HOWN.out HSRC.out rfl rfl (one_bvs x.bytes) (by omega) (by omega) (by simp only [World.size_alloc]; omega) ?_); intro v' w1 ho hg; obtain ⟨A7, c7, rfl, hbt, hbox, hb1⟩ := HAF.out v' w1 ho hg; clear ho hg; have q6 := cell_of hbox 6; have f6 := frozen_of hbox 6; simp at q6)
      have g3 := grownBy_set w1 wr.heap.size 6 (.slice A7 x.bytes.length c7)
      have hB3 : Below wr.heap.size wr (w1.setCell ⟨wr.heap.size, 6, none⟩ (.slice A7 x.bytes.length c7)) := hb1.setCell (p := ⟨wr.heap.size, 6, none⟩) (Nat.le_refl _) _
      have hX3 := heap_setCell_same w1 wr.heap.size 6 _ _ (.slice A7 x.bytes.length c7) hbox
      simp only [List.setIfInBounds_toArray, List.set_cons_succ, List.set_cons_zero] at hX3
      have hbt3 := bst_kept g3 (not5_of_box hbox (by decide)) hbt
      clear g3 hbt hbox q6 f6 hb1
      generalize w1.setCell ⟨wr.heap.size, 6, none⟩ (.slice A7 x.bytes.length c7) = w3 at *
      have hO3 := HO.out.below hB3
      have hbw : Below w.heap.size w w3 := hb.trans (hB3.mono hb.size)
      have x0 := cell_of hX3 0
      have x1 := cell_of hX3 1
      have x2 := cell_of hX3 2
      have x3 := cell_of hX3 3
      have x4 := cell_of hX3 4
      have x5 := cell_of hX3 5
      have x6 := cell_of hX3 6
      simp at x0 x1 x2 x3 x4 x5 x6
      have hlit := Sl.lit w3 [.int .i64 x.kind, .int .i64 x.node, .int .i64 x.frm, .int .u32 (x.number : Nat), .string ⟨x.name.toArray⟩, .int .i64 x.code, .slice A7 x.bytes.length c7] 26 7 1 rfl (by simp [maxLen])
      have hone := one_fact (e := (x, .slice A7 x.bytes.length c7)) hbt3
      have HLIT := Lib.hid hlit
      have HONE := Lib.hid hone
      have HO3 := Lib.hid hO3
      have HBT := Lib.hid hbt3
      have HBW := Lib.hid hbw
      have hsw := hbw.size
      clear hlit hone hO3 hbt3 hbw hX3 hB3 c0 c1 c2 c3 c4 c5 c6 hb
      go_wp2_with (at_builtin; go_must (refine app elF rfl _ _ rfl w.heap.size (World.ownsRow.alloc HO3.out.1 _) HLIT.out rfl rfl HONE.out (by omega) (by omega) (by simp only [World.size_alloc]; omega) ?_); intro v2 w4 ho2 hg2)
      refine ⟨⟨k + 1, ls ++ [(x, .slice A7 x.bytes.length c7)], by omega, by go_num, ⟨row_cast ho2 (by simp) (by rw [List.flatMap_append]; simp [FE.cells, Fact.cells]), ?_⟩, by rw [HSN.out, List.map_append]; rfl, push_below HBW.out HO3.out.1 hg2 (Nat.le_refl _)⟩, by simp only [intOf]; omega⟩
      have hal := (Below.refl _ w3).alloc (Nat.le_refl _) (.cells #[.int .i64 x.kind, .int .i64 x.node, .int .i64 x.frm, .int .u32 (x.number : Nat), .string ⟨x.name.toArray⟩, .int .i64 x.code, .slice A7 x.bytes.length c7] 26)
      have hlow : BsT w3 w.heap.size (.slice A7 x.bytes.length c7) x.bytes := HBT.out.imp (fun b _ hF => ⟨by omega, hF.2⟩)
      intro e he
      rcases List.mem_append.1 he with he | he
      · exact bst_kept hg2 (not5_of_row (World.ownsRow.alloc HO3.out.1 _)) (bst_below (HO3.out.2 e he) hal)
      · obtain rfl := List.mem_singleton.1 he
        exact bst_kept hg2 (not5_of_row (World.ownsRow.alloc HO3.out.1 _)) (bst_below hlow hal)
    · obtain rfl : k = es.length := by omega
      rw [List.take_length] at hls
      go_wp2
      go_ret
      exact ⟨_, rfl, ls, hO, hls, hb⟩

theorem filter_at {α : Type} (p : α → Bool) (l : List α) (j : Nat) (hj : j < l.length) (h : p l[j] = true) : (l.filter p)[((l.take j).filter p).length]? = some l[j] := by
  have e : l = l.take j ++ l[j] :: l.drop (j + 1) := by
    conv => lhs; rw [← List.take_append_drop j l, List.drop_eq_getElem_cons hj]
  have e2 : l.filter p = (l.take j).filter p ++ l[j] :: (l.drop (j + 1)).filter p := by
    conv => lhs; rw [e]
    rw [List.filter_append, List.filter_cons_of_pos h]
  rw [e2, List.getElem?_append_right (Nat.le_refl _)]
  simp

set_option maxRecDepth 100000 in
set_option maxHeartbeats 16000000 in
theorem idealFiles_walk (v : Value) (node : Int) (w : World) (es : List FE) (hle : es.length ≤ 1048576) (hL : Ls w v es) :
    Calls Try.prog 5 #[v, .int .i64 node] w fun e w' => e = .returned (.bool true) ∧ Below w.heap.size w w' := by
  have hL' := hL
  obtain ⟨⟨-, A, c, rfl, l1, l2, -, -⟩, -⟩ := hL
  unfold maxLen at l2
  go_enter Try.func5, Try.ntmps5
  go_wp2_with fail
  refine (wakes_any w).mono ?_
  rintro e w1 ⟨rfl, hb1⟩
  have hL1 := hL'.below hb1
  go_wp2_with fail
  refine (large_any _ w1 es hle hL1).mono ?_
  rintro e w2 ⟨rfl, hb2⟩
  have hb := below_tr hb1 hb2
  clear hb1 hb2 hL1
  have hL2 := hL'.below hb
  cases hq : largeL (es.map (·.1))
  · go_wp2_with fail
    refine (copied_any _ w2 es hle hL2).mono ?_
    rintro e w3 ⟨u, ls, rfl, ⟨ho, hbs⟩, hls, hb3⟩
    have hlsl : ls.length = es.length := by
      have := congrArg List.length hls
      rwa [List.length_map, List.length_map] at this
    have hL3 : Ls w3 u ls := by
      refine ⟨(Sl.of_own ho).imp_lt (by decide), fun e he => ⟨bst_lt (hbs e he), ?_⟩⟩
      have hm : e.1 ∈ es.map (·.1) := by rw [← hls]; exact List.mem_map.2 ⟨e, he, rfl⟩
      obtain ⟨e', he', h⟩ := List.mem_map.1 hm
      rw [← h]
      exact (hL2.2 e' he').2
    clear ho hbs
    have hbw := below_tr hb hb3
    go_wp2_with fail
    refine (files_any u node w3 ls (by omega) hL3).mono ?_
    rintro e w4 ⟨u2, ls2, rfl, ⟨ho2, hbs2⟩, hls2, hb4⟩
    rw [hls] at hls2
    have hl2 : ls2.length ≤ es.length := by
      have := congrArg List.length hls2
      rw [List.length_map] at this
      rw [this]
      exact Nat.le_trans (List.length_filter_le _ _) (by simp)
    have hG : Ls w4 u2 ls2 := by
      refine ⟨(Sl.of_own ho2).imp_lt (by decide), fun e he => ⟨bst_lt (hbs2 e he), ?_⟩⟩
      have hm : e.1 ∈ (es.map (·.1)).filter (fileOf node) := by rw [← hls2]; exact List.mem_map.2 ⟨e, he, rfl⟩
      obtain ⟨e', he', h⟩ := List.mem_map.1 (List.mem_filter.1 hm).1
      rw [← h]
      exact (hL2.2 e' he').2
    have hbw4 := below_tr hbw hb4
    have hL4 := hL'.below hbw4
    clear ho2 hbs2 hb hb3 hb4 hbw hL2 hL3 hls hlsl
    have hG' := hG
    obtain ⟨⟨-, A2, k2, rfl, g1, g2, -, -⟩, -⟩ := hG
    unfold maxLen at g2
    have HLS := Lib.hid hls2
    have HBW := Lib.hid hbw4
    have HL4 := Lib.hid hL4
    have HG := Lib.hid hG'
    clear hls2 hbw4 hL4 hG'
    go_wp2
    go_loopw [6, 20] (fun s i wr => ∃ j : Nat, j ≤ es.length ∧ i = .int .i64 j ∧ s = .int .i64 ((((es.map (·.1)).take j).filter (fileOf node)).length : Nat) ∧ Below w4.heap.size w4 wr) (fun _ i _ => es.length - (intOf i).toNat)
    case atStart => exact ⟨0, Nat.zero_le _, rfl, rfl, Below.refl _ _⟩
    case round =>
      obtain ⟨j, hj, rfl, rfl, hb⟩ := hrel
      by_cases hlt : j < es.length
      · obtain ⟨b, o, Ab, cb, rfl, hbl, hvb, c0, c1, c2, c3, c4, c5, c6⟩ := (HL4.out.below hb).at j hlt
        have hxb := ((HL4.out.below hb).2 _ (List.getElem_mem hlt)).1
        rw [hvb] at hxb
        have hlt' : j < (es.map (·.1)).length := by simpa using hlt
        have hsn : ((es.map (·.1)).take (j + 1)).filter (fileOf node) = ((es.map (·.1)).take j).filter (fileOf node) ++ (if fileOf node es[j].1 = true then [es[j].1] else []) := by
          rw [take_snoc _ j hlt', List.filter_append, List.getElem_map]
          congr 1
          cases h : fileOf node es[j].1 <;> simp [h]
        have hat : fileOf node es[j].1 = true → ∃ h : (((es.map (·.1)).take j).filter (fileOf node)).length < ls2.length, ls2[(((es.map (·.1)).take j).filter (fileOf node)).length].1 = es[j].1 := by
          intro hf
          have h1 := filter_at (fileOf node) (es.map (·.1)) j hlt' (by rw [List.getElem_map]; exact hf)
          rw [← HLS.out, List.getElem?_map, List.getElem_map] at h1
          obtain ⟨y, h2, h3⟩ := Option.map_eq_some_iff.1 h1
          obtain ⟨h4, h5⟩ := List.getElem?_eq_some_iff.1 h2
          exact ⟨h4, by rw [h5]; exact h3⟩
        have hff : fileOf node es[j].1 = (es[j].1.node == node && es[j].1.kind == 6) := rfl
        generalize es[j].1 = x at *
        generalize hkk : (((es.map (·.1)).take j).filter (fileOf node)) = kk at *
        clear hkk hvb hlt'
        have HSN := Lib.hid hsn
        have HFF := Lib.hid hff
        clear hsn hff
        by_cases h6 : x.kind = 6
        · have hd1 : (x.kind != 6) = false := by simp [h6]
          by_cases hn : x.node = node
          · have hd2 : (x.node != node) = false := by simp [hn]
            have hf1 : fileOf node x = true := by rw [HFF.out]; simp [h6, hn]
            obtain ⟨hk, hx⟩ := hat hf1
            obtain ⟨b2, o2, Ax, cx, rfl, hbl2, hvx, d0, d1, d2, d3, d4, d5, d6⟩ := (HG.out.below hb).at _ hk
            have hyb := ((HG.out.below hb).2 _ (List.getElem_mem hk)).1
            rw [hvx, hx] at hyb
            rw [hx] at d0 d1 d2 d3 d4 d5 d6
            have hdk : (((kk.length : Nat) : Int) == ((ls2.length : Nat) : Int)) = false := by simp; omega
            have HF1 := Lib.hid hf1
            have HH6 := Lib.hid h6
            have HHN := Lib.hid hn
            have e0 := fun o => cell_al d0 o
            have e1 := fun o => cell_al d1 o
            have e2 := fun o => cell_al d2 o
            have e3 := fun o => cell_al d3 o
            have e4 := fun o => cell_al d4 o
            have e5 := fun o => cell_al d5 o
            have e6 := fun o => cell_al d6 o
            have hxl : kk.length ≤ es.length := by omega
            clear hat hf1 h6 hn hvx hx d0 d1 d2 d3 d4 d5 d6
            have HXB := Lib.hid hxb
            have HYB := Lib.hid hyb
            clear hxb hyb
            go_wp2_with fail
            have hba : Below wr.heap.size wr ((wr.alloc (.cells #[.int .i64 x.kind, .int .i64 x.node, .int .i64 x.frm, .int .u32 (x.number : Nat), .string ⟨x.name.toArray⟩, .int .i64 x.code, .slice Ab x.bytes.length cb] 26)).alloc (.cells #[.int .i64 x.kind, .int .i64 x.node, .int .i64 x.frm, .int .u32 (x.number : Nat), .string ⟨x.name.toArray⟩, .int .i64 x.code, .slice Ax x.bytes.length cx] 26)) := ((Below.refl _ _).alloc (Nat.le_refl _) _).alloc (by simp) _
            refine (same_any _ _ _ _ _ _ _ (HYB.out.below hba) (HXB.out.below hba)).mono ?_
            rintro e wz ⟨rfl, n, rfl⟩
            rw [beq_self_eq_true]
            have HBA := Lib.hid (below_tr hb (below_dn hba n))
            clear hba hb e0 e1 e2 e3 e4 e5 e6 c0 c1 c2 c3 c4 c5 c6
            go_wp2
            refine ⟨⟨j + 1, by omega, by go_num, ?_, HBA.out⟩, by simp only [intOf]; omega⟩
            rw [HSN.out, if_pos HF1.out, List.length_append]
            go_num
          · have hd2 : (x.node != node) = true := by simp [hn]
            have hba := below_tr hb ((Below.refl wr.heap.size wr).alloc (Nat.le_refl _) (.cells #[.int .i64 x.kind, .int .i64 x.node, .int .i64 x.frm, .int .u32 (x.number : Nat), .string ⟨x.name.toArray⟩, .int .i64 x.code, .slice Ab x.bytes.length cb] 26))
            have hf0 : fileOf node x = false := by rw [HFF.out]; simp [hn]
            have HF0 := Lib.hid hf0
            clear hat hn hf0 h6
            go_wp2
            refine ⟨⟨j + 1, by omega, by go_num, ?_, hba⟩, by simp only [intOf]; omega⟩
            rw [HSN.out, HF0.out]; simp
        · have hd1 : (x.kind != 6) = true := by simp [h6]
          have hba := below_tr hb ((Below.refl wr.heap.size wr).alloc (Nat.le_refl _) (.cells #[.int .i64 x.kind, .int .i64 x.node, .int .i64 x.frm, .int .u32 (x.number : Nat), .string ⟨x.name.toArray⟩, .int .i64 x.code, .slice Ab x.bytes.length cb] 26))
          have hf0 : fileOf node x = false := by rw [HFF.out]; simp [h6]
          have HF0 := Lib.hid hf0
          clear hat h6 hf0
          go_wp2
          refine ⟨⟨j + 1, by omega, by go_num, ?_, hba⟩, by simp only [intOf]; omega⟩
          rw [HSN.out, HF0.out]; simp
      · obtain rfl : j = es.length := by omega
        have hkl : ((((es.map (·.1)).take es.length).filter (fileOf node)).length : Nat) = ls2.length := by
          rw [List.take_of_length_le (by simp), ← HLS.out, List.length_map]
        rw [hkl]
        have hdd : (((ls2.length : Nat) : Int) == ((ls2.length : Nat) : Int)) = true := by simp
        go_wp2
        go_ret
        exact ⟨rfl, below_tr HBW.out hb⟩
  · go_wp2
    go_ret
    exact ⟨rfl, hb⟩

end Go.Proofs.Ytfdijgdojejimaa
