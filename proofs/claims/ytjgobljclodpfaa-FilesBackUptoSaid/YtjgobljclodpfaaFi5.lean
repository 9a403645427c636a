/- Layer 5's walks: slices.Insert and slices.Delete at files. No condition beyond sizes. -/
import Derived.Test.YtjgobljclodpfaaRow
import Derived.Test.YtjgobljclodpfaaFi4
import Derived.Lib.Overlaps
namespace Go.Proofs.Ytjgobljclodpfaa
open Go.RowKit Go.Shelf K L
set_option linter.unusedVariables false
set_option linter.unusedSimpArgs false

theorem one_cells (es : List FE) (h : ∀ e ∈ es, e.2.oneCell' = true) : ∀ u ∈ es.flatMap FE.cells, u.oneCell' = true := by
  intro u hu
  obtain ⟨e, he, hu⟩ := List.mem_flatMap.1 hu
  simp only [FE.cells, List.mem_cons, List.not_mem_nil, or_false] at hu
  rcases hu with rfl | rfl
  · rfl
  · exact h e he

/-- What insertion gives. -/
def InsP (w : World) (base : Nat) (v : Value) (es : List FE) (i : Nat) (x : FE) (e : Ending) (w' : World) : Prop :=
  ∃ v', e = .returned v' ∧ w'.ownsRow base 40 2 v' (es.length + 1) ((es.take i ++ [x] ++ es.drop i).flatMap FE.cells) ∧ w.grownBy w' v.ownBlock ∧ (v'.ownBlock = v.ownBlock ∨ ∀ g, v'.ownBlock = some g → w.heap.size ≤ g)

set_option maxRecDepth 100000 in
set_option maxHeartbeats 4000000 in
/-- At the end. -/
theorem insert_end (v : Value) (es : List FE) (x : Fl) (ux : Value) (w : World) (base vb : Nat) (h : w.ownsRow base 40 2 v es.length (es.flatMap FE.cells)) (hl : es.length ≤ 1000000)
    (hsrc : w.heap[vb]? = some (.cells #[.string ⟨x.name.toArray⟩, ux] 40 (0, 0))) (hu : ux.oneCell' = true) (hb : base ≤ w.heap.size) :
    Calls Try.prog 70 #[v, .int .i64 es.length, .slice (some ⟨vb, 0, none⟩) 1 1] w (InsP w base v es es.length (x, ux)) := by
  have HO := Lib.hid h
  have HS := Lib.hid hsrc
  have HU := Lib.hid hu
  have HSL : Hid (Sl w (fun _ => True) 2 (.slice (some ⟨vb, 0, none⟩) 1 1) 1 [.string ⟨x.name.toArray⟩, ux]) := Lib.hid ⟨rfl, _, 1, rfl, Nat.le_refl _, by simp [maxLen], (fun h => by cases h), fun _ => ⟨_, rfl, trivial, at_row HS.out _ (fun j v hv => by rw [Nat.zero_add]; exact hv)⟩⟩
  obtain ⟨A, c, rfl, l1, l2, l3, l4⟩ := own_slice h
  replace l2 : c ≤ 9223372036854775807 := by simpa [maxLen] using l2
  clear h hsrc l3 l4 hu
  by_cases hcc : c = es.length
  · subst hcc
    go_enter Try.func70, Try.ntmps70
    go_wp2_with (at_builtin; go_must (refine app2 Try.elF rfl _ _ rfl base HO.out HSL.out rfl rfl (by intro z hz; simp at hz; rcases hz with rfl | rfl; rfl; exact HU.out) (by omega) (by decide) hb ?_); intro v' w' ho hg hv; have HN := Lib.hid ho; have HG := Lib.hid hg; have HV := Lib.hid hv; clear ho hg hv)
    go_ret
    exact ⟨_, rfl, by rw [List.take_length, List.drop_length, List.append_nil, List.flatMap_append]; exact HN.out, HG.out, HV.out⟩
  · go_enter Try.func70, Try.ntmps70
    go_wp2_with (at_builtin; go_must (refine app2 Try.elF rfl _ _ rfl base HO.out HSL.out rfl rfl (by intro z hz; simp at hz; rcases hz with rfl | rfl; rfl; exact HU.out) (by omega) (by decide) hb ?_); intro v' w' ho hg hv; have HN := Lib.hid ho; have HG := Lib.hid hg; have HV := Lib.hid hv; clear ho hg hv)
    go_ret
    exact ⟨_, rfl, by rw [List.take_length, List.drop_length, List.append_nil, List.flatMap_append]; exact HN.out, HG.out, HV.out⟩

set_option maxRecDepth 100000 in
set_option maxHeartbeats 4000000 in
/-- There is room. -/
theorem insert_room (g c i : Nat) (es : List FE) (x : Fl) (ux : Value) (w : World) (base vb : Nat) (h : w.ownsRow base 40 2 (.slice (some ⟨g, 0, none⟩) es.length c) es.length (es.flatMap FE.cells)) (hi : i < es.length) (hroom : es.length + 1 ≤ c)
    (hsrc : w.heap[vb]? = some (.cells #[.string ⟨x.name.toArray⟩, ux] 40 (0, 0))) (hu : ux.oneCell' = true) (hne : vb ≠ g) (h1 : ∀ e ∈ es, e.2.oneCell' = true) :
    Calls Try.prog 70 #[.slice (some ⟨g, 0, none⟩) es.length c, .int .i64 i, .slice (some ⟨vb, 0, none⟩) 1 1] w (InsP w base (.slice (some ⟨g, 0, none⟩) es.length c) es i (x, ux)) := by
  obtain ⟨cur, hg, hb, hn, hc, hs, hxl, ht⟩ := own_open h
  have hov : ∀ (W : World), Below w.heap.size w W → ∀ o lb cb, (callFunc 74 #[.slice (some ⟨vb, 0, none⟩) 1 1, .slice (some ⟨g, o, none⟩) lb cb]).run Try.prog W = .ok (.value (.bool false)) W := by
    intro W hW o lb cb
    have h1' := heap_bl hW hsrc
    have h2' := heap_bl hW hg
    rw [run_callFunc_extern Try.func74 (by kernel_rfl) (by kernel_rfl) (by kernel_rfl) (e := Extern.SlicesOverlaps.overlaps #[22, 22] #[4]) (by kernel_rfl),
      Lib.run_overlaps_apart W 22 4 40 Try.underlying22 2 (fun _ => by kernel_rfl) ⟨vb, 0, none⟩ ⟨g, o, none⟩ 1 1 lb cb hne 40 40 2 (c * 2) (by simp [World.shape?, h1']) (by simp [World.shape?, h2', hs]) (by omega) (by simp [World.frozen?, h1']) (by simp [World.frozen?, h1'])]
    rfl
  obtain ⟨n, hnn⟩ : ∃ n, es.length = n := ⟨_, rfl⟩
  rw [hnn] at hi hroom hn hxl ht
  have hcl : c ≤ 9223372036854775807 := by simpa [maxLen] using hc
  have hb2 : ¬ (c = i + 1) := by omega
  have hb4 : ¬ (c = i) := by omega
  have hin : i ≤ n := by omega
  have hw1 : IntKind.i64.wrap ((i : Int) + 1) = (i : Int) + 1 := by rw [IntKind.wrap_i64]; omega
  have htn : ((i : Int) + 1).toNat = i + 1 := by omega
  have hb3 : (i : Int) + 1 ≤ (n : Int) + 1 := by omega
  have hb5 : (0 : Int) ≤ (i : Int) + 1 := by omega
  have hb6 : (i : Int) ≤ (n : Int) + 1 := by omega
  have hov1 := hov w (Below.refl _ _)
  have HNN := Lib.hid hnn
  have HT := Lib.hid ht
  have HG := Lib.hid hg
  have HC := Lib.hid hc
  have HS := Lib.hid hs
  have HX := Lib.hid hxl
  rw [hnn]
  clear hnn ht hg hc hs hxl h hov
  go_enter Try.func70, Try.ntmps70
  go_wp2_with (simp only [hov1])
  refine G.region_split 8 (by kernel_rfl) (by kernel_rfl) (G.any_inv (by kernel_rfl) (fun w w' => Below w.heap.size w w') (fun _ _ _ h k => below_tr h k) (fun w _ => Below.refl _ _) (Below.refl _ _)
    (G.of [(fun (_ : World) (v : Value) => v = .slice (some ⟨g, 0, none⟩) (n + 1) c), (fun (_ : World) (v : Value) => v = .int .i64 (i : Nat)), (fun (_ : World) (v : Value) => v = .int .i64 1), (fun (_ : World) (v : Value) => v = .int .i64 ((i : Int) + 1)), (fun (_ : World) (v : Value) => v = .slice (some ⟨g, (i + 1) * 2, none⟩) (n - i) (c - (i + 1))), (fun (_ : World) (v : Value) => v = .slice (some ⟨g, 0, none⟩) (n + 1) c), (fun (_ : World) (v : Value) => v = .int .i64 (i : Nat)), (fun (_ : World) (v : Value) => v = .slice (some ⟨g, i * 2, none⟩) (n + 1 - i) (c - i))])
    (G.of_stays _ ?_) ?_ (G.each_ops ?_) ?_)
  · exact ⟨(fun w w' v h k => h), (fun w w' v h k => h), (fun w w' v h k => h), (fun w w' v h k => h), (fun w w' v h k => h), (fun w w' v h k => h), (fun w w' v h k => h), (fun w w' v h k => h), trivial⟩
  · intro i o hi hd; exact absurd hd (G.no_none (by kernel_rfl) hi)
  · refine ⟨?_, ?_, ?_, ?_, ?_, ?_, ?_, ?_, trivial⟩
    all_goals intro a wq hT hS hp
    · refine G.wanted_yes (G.wanted_plain rfl) ?_
      have e0 : a.tmps[0]?.getD undef = .slice (some ⟨g, 0, none⟩) (n + 1) c := hS.at_ 0 rfl
      exact G.st_val (v := .slice (some ⟨g, 0, none⟩) (n + 1) c) (w' := wq) (by simp [execOp, go_sem, e0, hb2, hb4, hin, hroom, hi, hw1, htn, hb3, hb5, hb6] <;> omega) ⟨_, rfl, Below.refl _ _, rfl⟩
    · refine G.wanted_yes (G.wanted_plain rfl) ?_
      have e1 : a.tmps[1]?.getD undef = .int .i64 (i : Nat) := hS.at_ 1 rfl
      exact G.st_val (v := .int .i64 (i : Nat)) (w' := wq) (by simp [execOp, go_sem, e1, hb2, hb4, hin, hroom, hi, hw1, htn, hb3, hb5, hb6] <;> omega) ⟨_, rfl, Below.refl _ _, rfl⟩
    · refine G.wanted_yes (G.wanted_plain rfl) ?_
      have e7 : a.tmps[7]?.getD undef = .int .i64 1 := hS.at_ 7 rfl
      exact G.st_val (v := .int .i64 1) (w' := wq) (by simp [execOp, go_sem, e7, hb2, hb4, hin, hroom, hi, hw1, htn, hb3, hb5, hb6] <;> omega) ⟨_, rfl, Below.refl _ _, rfl⟩
    · refine G.wanted_yes (G.wanted_plain rfl) ?_
      have e70 : a.tmps[70]?.getD undef = .int .i64 (i : Nat) := hp ⟨1, .data⟩ (by simp) rfl _ rfl
      have e71 : a.tmps[71]?.getD undef = .int .i64 1 := hp ⟨2, .data⟩ (by simp) rfl _ rfl
      exact G.st_val (v := .int .i64 ((i : Int) + 1)) (w' := wq) (by simp [execOp, go_sem, e70, e71, hb2, hb4, hin, hroom, hi, hw1, htn, hb3, hb5, hb6] <;> omega) ⟨_, rfl, Below.refl _ _, rfl⟩
    · refine G.wanted_yes (G.wanted_plain rfl) ?_
      have e69 : a.tmps[69]?.getD undef = .slice (some ⟨g, 0, none⟩) (n + 1) c := hp ⟨0, .data⟩ (by simp) rfl _ rfl
      have e72 : a.tmps[72]?.getD undef = .int .i64 ((i : Int) + 1) := hp ⟨3, .data⟩ (by simp) rfl _ rfl
      exact G.st_val (v := .slice (some ⟨g, (i + 1) * 2, none⟩) (n - i) (c - (i + 1))) (w' := wq) (by simp [execOp, go_sem, e69, e72, hb2, hb4, hin, hroom, hi, hw1, htn, hb3, hb5, hb6] <;> omega) ⟨_, rfl, Below.refl _ _, rfl⟩
    · refine G.wanted_yes (G.wanted_plain rfl) ?_
      have e0 : a.tmps[0]?.getD undef = .slice (some ⟨g, 0, none⟩) (n + 1) c := hS.at_ 0 rfl
      exact G.st_val (v := .slice (some ⟨g, 0, none⟩) (n + 1) c) (w' := wq) (by simp [execOp, go_sem, e0, hb2, hb4, hin, hroom, hi, hw1, htn, hb3, hb5, hb6] <;> omega) ⟨_, rfl, Below.refl _ _, rfl⟩
    · refine G.wanted_yes (G.wanted_plain rfl) ?_
      have e1 : a.tmps[1]?.getD undef = .int .i64 (i : Nat) := hS.at_ 1 rfl
      exact G.st_val (v := .int .i64 (i : Nat)) (w' := wq) (by simp [execOp, go_sem, e1, hb2, hb4, hin, hroom, hi, hw1, htn, hb3, hb5, hb6] <;> omega) ⟨_, rfl, Below.refl _ _, rfl⟩
    · refine G.wanted_yes (G.wanted_plain rfl) ?_
      have e74 : a.tmps[74]?.getD undef = .slice (some ⟨g, 0, none⟩) (n + 1) c := hp ⟨5, .data⟩ (by simp) rfl _ rfl
      have e75 : a.tmps[75]?.getD undef = .int .i64 (i : Nat) := hp ⟨6, .data⟩ (by simp) rfl _ rfl
      exact G.st_val (v := .slice (some ⟨g, i * 2, none⟩) (n + 1 - i) (c - i)) (w' := wq) (by simp [execOp, go_sem, e74, e75, hb2, hb4, hin, hroom, hi, hw1, htn, hb3, hb5, hb6] <;> omega) ⟨_, rfl, Below.refl _ _, rfl⟩
  · intro a wq hT hS hp
    have e69 : G.slot a (some 69) = .slice (some ⟨g, 0, none⟩) (n + 1) c := hp 0 _ rfl
    have e70 : G.slot a (some 70) = .int .i64 (i : Nat) := hp 1 _ rfl
    have e71 : G.slot a (some 71) = .int .i64 1 := hp 2 _ rfl
    have e72 : G.slot a (some 72) = .int .i64 ((i : Int) + 1) := hp 3 _ rfl
    have e73 : G.slot a (some 73) = .slice (some ⟨g, (i + 1) * 2, none⟩) (n - i) (c - (i + 1)) := hp 4 _ rfl
    have e74 : G.slot a (some 74) = .slice (some ⟨g, 0, none⟩) (n + 1) c := hp 5 _ rfl
    have e75 : G.slot a (some 75) = .int .i64 (i : Nat) := hp 6 _ rfl
    have e76 : G.slot a (some 76) = .slice (some ⟨g, i * 2, none⟩) (n + 1 - i) (c - i) := hp 7 _ rfl
    have ha := G.act_of hS
    simp only [List.take_succ_cons, List.take_zero, List.foldl_cons, List.foldl_nil, Act.put, List.setIfInBounds_toArray, List.set_cons_succ, List.set_cons_zero, e69, e70, e71, e72, e73, e74, e75, e76] at ha
    clear hp hS e69 e70 e71 e72 e73 e74 e75 e76
    subst ha
    show wpList _ _ _ _ _ _
    simp only [List.drop_succ_cons, List.drop_zero]
    have hT2 : Below w.heap.size w wq := below_tr (Below.refl _ _).drew hT
    have hxs := one_cells es h1
    obtain ⟨xs, hxe⟩ : ∃ xs, es.flatMap FE.cells = xs := ⟨_, rfl⟩
    have hxl := HX.out
    have ht := HT.out
    have hfin : ((es.take i ++ [(x, ux)] ++ es.drop i).flatMap FE.cells) = xs.take (i * 2) ++ [.string ⟨x.name.toArray⟩, ux] ++ xs.drop (i * 2) := by
      rw [List.flatMap_append, List.flatMap_append, ← hxe, fm_take FE.len, fm_drop FE.len]; rfl
    rw [hxe] at hxs hxl ht
    have hcs := HS.out
    have hdl : (xs.drop (i * 2)).length = (n - i) * 2 := by rw [List.length_drop, hxl]; omega
    have hr1 : ∀ ty, (Builtin.copy_ #[22, 22] ty #[.slice (some ⟨g, (i + 1) * 2, none⟩) (n - i) (c - (i + 1)), .slice (some ⟨g, i * 2, none⟩) (n + 1 - i) (c - i)]).run Try.prog wq = .ok (goInt ((n - i : Nat) : Int)) (wq.setRow g (lay cur ((i + 1) * 2) (xs.drop (i * 2)))) := fun ty =>
      run_copyk Try.elF wq ty g ((i + 1) * 2) (n - i) (c - (i + 1)) ⟨g, i * 2, none⟩ (n + 1 - i) (c - i) (n - i) cur _ (xs.drop (i * 2)) (heap_bl hT2 HG.out) (by simp only [Nat.min_def]; split <;> omega) hdl
        (at_row (heap_bl hT2 HG.out) _ (fun j v hv => by
          rw [List.getElem?_drop, ← ht] at hv
          rw [List.getElem?_take] at hv
          split at hv
          · exact hv
          · cases hv)) (by rw [hdl, hcs]; omega) (fun u hu => hxs u (List.mem_of_mem_drop hu))
    obtain ⟨W2, hW2⟩ : ∃ W, wq.setRow g (lay cur ((i + 1) * 2) (xs.drop (i * 2))) = W := ⟨_, rfl⟩
    have hg2 : W2.heap[g]? = some (.cells (lay cur ((i + 1) * 2) (xs.drop (i * 2))) 40 (0, 0)) := by rw [← hW2]; exact setRow_heap _ _ _ _ _ _ (heap_bl hT2 HG.out)
    have hv2 : W2.heap[vb]? = some (.cells #[.string ⟨x.name.toArray⟩, ux] 40 (0, 0)) := by rw [← hW2, setRow_other _ _ _ _ hne]; exact heap_bl hT2 hsrc
    have hgr2 : wq.grownBy W2 (some g) := by rw [← hW2]; exact below_row _
    rw [hW2] at hr1
    have hls : (lay cur ((i + 1) * 2) (xs.drop (i * 2))).size = c * 2 := by rw [lay_size (by rw [hdl, hcs]; omega), hcs]
    have hr2 : ∀ ty, (Builtin.copy_ #[22, 22] ty #[.slice (some ⟨g, i * 2, none⟩) (n + 1 - i) (c - i), .slice (some ⟨vb, 0, none⟩) 1 1]).run Try.prog W2 = .ok (goInt ((1 : Nat) : Int)) (W2.setRow g (lay (lay cur ((i + 1) * 2) (xs.drop (i * 2))) (i * 2) [.string ⟨x.name.toArray⟩, ux])) := fun ty =>
      run_copyk Try.elF W2 ty g (i * 2) (n + 1 - i) (c - i) ⟨vb, 0, none⟩ 1 1 1 _ _ [.string ⟨x.name.toArray⟩, ux] hg2 (by simp only [Nat.min_def]; split <;> omega) rfl
        (at_row hv2 _ (fun j v hv => by rw [Nat.zero_add]; exact hv)) (by rw [hls]; simp; omega) (fun u hu' => by simp at hu'; rcases hu' with rfl | rfl; rfl; exact hu)
    obtain ⟨W3, hW3⟩ : ∃ W, W2.setRow g (lay (lay cur ((i + 1) * 2) (xs.drop (i * 2))) (i * 2) [.string ⟨x.name.toArray⟩, ux]) = W := ⟨_, rfl⟩
    have hg3 : W3.heap[g]? = some (.cells (lay (lay cur ((i + 1) * 2) (xs.drop (i * 2))) (i * 2) [.string ⟨x.name.toArray⟩, ux]) 40 (0, 0)) := by rw [← hW3]; exact setRow_heap _ _ _ _ _ _ hg2
    have hgr3 : W2.grownBy W3 (some g) := by rw [← hW3]; exact below_row _
    rw [hW3] at hr2
    obtain ⟨rest, hrest⟩ := ins_list (k := 2) (n := n) (i := i) (xs := xs) (news := [.string ⟨x.name.toArray⟩, ux]) (cur := cur.toList) hin hxl rfl (by rw [Array.length_toList, hcs]; omega) ht
    have hown : W3.ownsRow base 40 2 (.slice (some ⟨g, 0, none⟩) (n + 1) c) (n + 1) (xs.take (i * 2) ++ [.string ⟨x.name.toArray⟩, ux] ++ xs.drop (i * 2)) := by
      refine own_row hg3 hb hroom HC.out (by rw [lay_size (by rw [hls]; simp; omega), hls]) ?_ ?_
      · simp only [List.length_append, List.length_take, List.length_cons, List.length_nil, hdl, hxl]; omega
      · rw [lay_list, lay_list, hrest, List.take_append_of_le_length (by simp only [List.length_append, List.length_take, List.length_cons, List.length_nil, hdl, hxl]; omega)]
        refine List.take_of_length_le ?_
        simp only [List.length_append, List.length_take, List.length_cons, List.length_nil, hdl, hxl]; omega
    have HR1 := Lib.hid hr1
    have HR2 := Lib.hid hr2
    have HOWN := Lib.hid hown
    have HFIN := Lib.hid hfin
    have HGR := Lib.hid (grown_trans (grown_trans (grown_below hT2) hgr2) hgr3)
    clear hr1 hr2 hown hfin hrest hg3 hg2 hv2 hgr2 hgr3 hls hdl hxs hxl ht hcs hxe hT2 hT hW2 hW3 hov1
    go_wp2_with (first | (refine wpList_copy2 rfl (.tmp 73) (.tmp 76) 22 22 rfl _ _ rfl rfl (HR1.out _) ?_) | (refine wpList_copy2 rfl (.tmp 80) (.tmp 81) 22 22 rfl _ _ rfl rfl (HR2.out _) ?_))
    go_ret
    exact ⟨_, rfl, by rw [HFIN.out, HNN.out]; exact HOWN.out, HGR.out, .inl rfl⟩

set_option maxRecDepth 100000 in
set_option maxHeartbeats 4000000 in
/-- There is none. -/
theorem insert_grow (g c i : Nat) (es : List FE) (x : Fl) (ux : Value) (w : World) (base vb : Nat) (h : w.ownsRow base 40 2 (.slice (some ⟨g, 0, none⟩) es.length c) es.length (es.flatMap FE.cells)) (hi : i < es.length) (hroom : c < es.length + 1) (hl : es.length ≤ 1000000)
    (hsrc : w.heap[vb]? = some (.cells #[.string ⟨x.name.toArray⟩, ux] 40 (0, 0))) (hu : ux.oneCell' = true) (h1 : ∀ e ∈ es, e.2.oneCell' = true) (hbw : base ≤ w.heap.size) :
    Calls Try.prog 70 #[.slice (some ⟨g, 0, none⟩) es.length c, .int .i64 i, .slice (some ⟨vb, 0, none⟩) 1 1] w (InsP w base (.slice (some ⟨g, 0, none⟩) es.length c) es i (x, ux)) := by
  obtain ⟨i0, hi0, hz0, hs0, hb0⟩ := info_parts Try.elF.info
  obtain ⟨cur, hg, hb, hn, hc, hs, hxl, ht⟩ := own_open h
  have hxs := one_cells es h1
  have hvlt : vb < w.heap.size := (Array.getElem?_eq_some_iff.1 hsrc).1
  have hglt : g < w.heap.size := (Array.getElem?_eq_some_iff.1 hg).1
  obtain ⟨n, hnn⟩ : ∃ n, es.length = n := ⟨_, rfl⟩
  rw [hnn] at hi hroom hn hxl ht hl
  obtain rfl : c = n := by omega
  obtain ⟨xs, hxe⟩ : ∃ xs, es.flatMap FE.cells = xs := ⟨_, rfl⟩
  have hfin : ((es.take i ++ [(x, ux)] ++ es.drop i).flatMap FE.cells) = xs.take (i * 2) ++ [.string ⟨x.name.toArray⟩, ux] ++ xs.drop (i * 2) := by
    rw [List.flatMap_append, List.flatMap_append, ← hxe, fm_take FE.len, fm_drop FE.len]; rfl
  rw [hxe] at hxs hxl ht
  have hdl : (xs.drop (i * 2)).length = (c - i) * 2 := by rw [List.length_drop, hxl]; omega
  have htl : (xs.take (i * 2)).length = i * 2 := by rw [List.length_take, hxl]; omega
  have hget : ∀ j v, xs[j]? = some v → cur.toList[j]? = some v := fun j v hv => by
    rw [← ht, List.getElem?_take] at hv
    split at hv
    · exact hv
    · cases hv
  -- the new row
  have hold : (Builtin.firstCells i0.size i (.slice (some ⟨g, 0, none⟩) i c)).run Try.prog w.drew = .ok (xs.take (i * 2)).toArray w.drew := by
    rw [hs0]
    exact run_firstCells_some w.drew 2 i ⟨g, 0, none⟩ i c (xs.take (i * 2)) htl (at_row (w := w.drew) hg _ fun j v hv => by
      rw [Nat.zero_add]
      rw [List.getElem?_take] at hv
      split at hv
      · exact hget j v hv
      · cases hv)
  have hge := grownCap_ge w (c + 1) c 40
  have hcm := grownCap_le_maxLen w (c + 1) c 40 (by simp only [maxLen]; omega)
  have hrun := fun ty => Lib.run_append_grow_zeros (P := Try.prog) w 22 3 ty 40 i0 _ .i64 .i64 Try.underlying22 Try.underlying3 hi0 hz0 (some ⟨g, 0, none⟩) i c _ hold (c + 1 - i) (by omega) (by rw [hs0]; decide) (by omega) (by omega) (by rw [hb0]; omega) (by rw [hb0, show i + (c + 1 - i) = c + 1 from by omega]; exact growslice_fits (by omega) (by omega))
  rw [show i + (c + 1 - i) = c + 1 from by omega] at hrun
  generalize grownCap w (c + 1) c 40 = cp at *
  obtain ⟨row, hrow⟩ : ∃ row, (xs.take (i * 2)).toArray ++ Builtin.zeroCells (Value.agg #[.string ⟨#[]⟩, .slice none 0 0]).cells (c + 1 - i) ++ Builtin.zeroCells (Value.agg #[.string ⟨#[]⟩, .slice none 0 0]).cells (cp - (c + 1)) = row := ⟨_, rfl⟩
  have hrs : row.size = cp * 2 := by
    rw [← hrow]
    simp only [Array.size_append, List.size_toArray, size_zeroCells, htl]
    simp [Value.cells]; omega
  have hrt : row.toList.take (i * 2) = xs.take (i * 2) := by
    rw [← hrow]
    simp only [Array.toList_append, List.append_assoc]
    rw [List.take_append_of_le_length (by rw [htl]; exact Nat.le_refl _), List.take_of_length_le (by rw [htl]; exact Nat.le_refl _)]
  rw [hrow] at hrun
  obtain ⟨W1, hW1⟩ : ∃ W, w.drew.alloc (.cells row 40) = W := ⟨_, rfl⟩
  have hg1 : W1.heap[w.heap.size]? = some (.cells row 40 (0, 0)) := by rw [← hW1]; exact heap_alloc_new w.drew _
  have hB1 : Below w.heap.size w W1 := by rw [← hW1]; exact (Below.refl _ _).drew.alloc (Nat.le_refl _) _
  rw [hW1] at hrun
  have hr1 : ∀ ty, (Builtin.copy_ #[22, 22] ty #[.slice (some ⟨w.heap.size, i * 2, none⟩) (c + 1 - i) (cp - i), .slice (some ⟨vb, 0, none⟩) 1 1]).run Try.prog W1 = .ok (goInt ((1 : Nat) : Int)) (W1.setRow w.heap.size (lay row (i * 2) [.string ⟨x.name.toArray⟩, ux])) := fun ty =>
    run_copyk Try.elF W1 ty w.heap.size (i * 2) (c + 1 - i) (cp - i) ⟨vb, 0, none⟩ 1 1 1 _ _ [.string ⟨x.name.toArray⟩, ux] hg1 (by simp only [Nat.min_def]; split <;> omega) rfl
      (at_row (heap_bl hB1 hsrc) _ (fun j v hv => by rw [Nat.zero_add]; exact hv)) (by rw [hrs]; simp; omega) (fun u hu' => by simp at hu'; rcases hu' with rfl | rfl; rfl; exact hu)
  obtain ⟨W2, hW2⟩ : ∃ W, W1.setRow w.heap.size (lay row (i * 2) [.string ⟨x.name.toArray⟩, ux]) = W := ⟨_, rfl⟩
  have hg2 : W2.heap[w.heap.size]? = some (.cells (lay row (i * 2) [.string ⟨x.name.toArray⟩, ux]) 40 (0, 0)) := by rw [← hW2]; exact setRow_heap _ _ _ _ _ _ hg1
  have hB2 : Below w.heap.size w W2 := hB1.grown (by rw [← hW2]; exact below_row _) hB1.size (fun k e => by cases e; exact Nat.le_refl _)
  rw [hW2] at hr1
  have hls : (lay row (i * 2) [.string ⟨x.name.toArray⟩, ux]).size = cp * 2 := by rw [lay_size (by rw [hrs]; simp; omega), hrs]
  have hr2 : ∀ (Wx : World), Below W2.heap.size W2 Wx → ∀ ty, (Builtin.copy_ #[22, 22] ty #[.slice (some ⟨w.heap.size, (i + 1) * 2, none⟩) (c - i) (cp - (i + 1)), .slice (some ⟨g, i * 2, none⟩) (c - i) (c - i)]).run Try.prog Wx = .ok (goInt ((c - i : Nat) : Int)) (Wx.setRow w.heap.size (lay (lay row (i * 2) [.string ⟨x.name.toArray⟩, ux]) ((i + 1) * 2) (xs.drop (i * 2)))) := fun Wx hWx ty =>
    run_copyk Try.elF Wx ty w.heap.size ((i + 1) * 2) (c - i) (cp - (i + 1)) ⟨g, i * 2, none⟩ (c - i) (c - i) (c - i) _ _ (xs.drop (i * 2)) (heap_bl hWx hg2) (by simp only [Nat.min_def]; split <;> omega) hdl
      (at_row (heap_bl hWx (heap_bl hB2 hg)) _ (fun j v hv => by
        rw [List.getElem?_drop] at hv
        exact hget _ v hv)) (by rw [hdl, hls]; omega) (fun u hu => hxs u (List.mem_of_mem_drop hu))
  have hown : ∀ (Wx : World), Below W2.heap.size W2 Wx → (Wx.setRow w.heap.size (lay (lay row (i * 2) [.string ⟨x.name.toArray⟩, ux]) ((i + 1) * 2) (xs.drop (i * 2)))).ownsRow base 40 2 (.slice (some ⟨w.heap.size, 0, none⟩) (c + 1) cp) (c + 1) (xs.take (i * 2) ++ [.string ⟨x.name.toArray⟩, ux] ++ xs.drop (i * 2)) := by
    intro Wx hWx
    obtain ⟨rest, hrest⟩ := ins_list2 (k := 2) (n := c) (i := i) (xs := xs) (news := [.string ⟨x.name.toArray⟩, ux]) (cur := row.toList) (by omega) hxl rfl (by rw [Array.length_toList, hrs]; omega) hrt
    refine own_row (setRow_heap _ _ _ _ _ _ (heap_bl hWx hg2)) hbw hge hcm (by rw [lay_size (by rw [hdl, hls]; omega), hls]) ?_ ?_
    · simp only [List.length_append, htl, List.length_cons, List.length_nil, hdl]; omega
    · rw [lay_list, lay_list, hrest, List.take_append_of_le_length (by simp only [List.length_append, htl, List.length_cons, List.length_nil, hdl]; omega)]
      refine List.take_of_length_le ?_
      simp only [List.length_append, htl, List.length_cons, List.length_nil, hdl]; omega
  have hb2 : ¬ (cp = i + 1) := by omega
  have hb4 : ¬ (cp = i) := by omega
  have hb7 : ¬ (c = i) := by omega
  have hin : i ≤ c := by omega
  have hw1 : IntKind.i64.wrap ((i : Int) + 1) = (i : Int) + 1 := by rw [IntKind.wrap_i64]; omega
  have hw2 : IntKind.i64.wrap ((c : Int) + 1 - (i : Int)) = ((c + 1 - i : Nat) : Int) := by rw [IntKind.wrap_i64]; omega
  have hw3 : ((c : Int) + 1 - (i : Int)) = ((c + 1 - i : Nat) : Int) := by omega
  have htn : ((i : Int) + 1).toNat = i + 1 := by omega
  have hb3 : (i : Int) + 1 ≤ (c : Int) + 1 := by omega
  have hb5 : (0 : Int) ≤ (i : Int) + 1 := by omega
  have hb6 : (i : Int) ≤ (c : Int) + 1 := by omega
  have HRUN := Lib.hid hrun
  have HR1 := Lib.hid hr1
  have HR2 := Lib.hid hr2
  have HOWN := Lib.hid hown
  have HFIN := Lib.hid hfin
  have HNN := Lib.hid hnn
  have HB2 := Lib.hid hB2
  have hcl : c ≤ 9223372036854775807 := by omega
  have hcpl : cp ≤ 9223372036854775807 := by simpa [maxLen] using hcm
  rw [hnn]
  clear hrun hr1 hr2 hown hfin hnn hB2 hg2 hW2 hB1 hg1 hW1 hrt hrs hrow hold hget htl hdl hxl ht hxs hxe hc hs hg hcm hls hi0 hz0 hs0 hb0 h hw3
  go_enter Try.func70, Try.ntmps70
  go_wp2_with (first | (refine Lib.wpList_append_run _ rfl (.tmp 34) (.tmp 39) _ _ rfl _ _ rfl rfl _ _ (HRUN.out _) ?_) | (refine wpList_copy2 rfl (.tmp 43) (.tmp 44) 22 22 rfl _ _ rfl rfl (HR1.out _) ?_))
  go_frame
  refine G.region_split 8 (by kernel_rfl) (by kernel_rfl) (G.any_inv (by kernel_rfl) (fun w w' => Below w.heap.size w w') (fun _ _ _ h k => below_tr h k) (fun w _ => Below.refl _ _) (Below.refl _ _)
    (G.of [(fun (_ : World) (v : Value) => v = .slice (some ⟨w.heap.size, 0, none⟩) (c + 1) cp), (fun (_ : World) (v : Value) => v = .int .i64 (i : Nat)), (fun (_ : World) (v : Value) => v = .int .i64 1), (fun (_ : World) (v : Value) => v = .int .i64 ((i : Int) + 1)), (fun (_ : World) (v : Value) => v = .slice (some ⟨w.heap.size, (i + 1) * 2, none⟩) (c - i) (cp - (i + 1))), (fun (_ : World) (v : Value) => v = .slice (some ⟨g, 0, none⟩) c c), (fun (_ : World) (v : Value) => v = .int .i64 (i : Nat)), (fun (_ : World) (v : Value) => v = .slice (some ⟨g, i * 2, none⟩) (c - i) (c - i))])
    (G.of_stays _ ?_) ?_ (G.each_ops ?_) ?_)
  · exact ⟨(fun w w' v h k => h), (fun w w' v h k => h), (fun w w' v h k => h), (fun w w' v h k => h), (fun w w' v h k => h), (fun w w' v h k => h), (fun w w' v h k => h), (fun w w' v h k => h), trivial⟩
  · intro i o hi hd; exact absurd hd (G.no_none (by kernel_rfl) hi)
  · refine ⟨?_, ?_, ?_, ?_, ?_, ?_, ?_, ?_, trivial⟩
    all_goals intro a wq hT hS hp
    · refine G.wanted_yes (G.wanted_plain rfl) ?_
      have e9 : a.tmps[9]?.getD undef = .slice (some ⟨w.heap.size, 0, none⟩) (c + 1) cp := hS.at_ 9 rfl
      exact G.st_val (v := .slice (some ⟨w.heap.size, 0, none⟩) (c + 1) cp) (w' := wq) (by simp [execOp, go_sem, e9, hb2, hb4, hb7, hin, hi, hw1, htn, hb3, hb5, hb6] <;> omega) ⟨_, rfl, Below.refl _ _, rfl⟩
    · refine G.wanted_yes (G.wanted_plain rfl) ?_
      have e1 : a.tmps[1]?.getD undef = .int .i64 (i : Nat) := hS.at_ 1 rfl
      exact G.st_val (v := .int .i64 (i : Nat)) (w' := wq) (by simp [execOp, go_sem, e1, hb2, hb4, hb7, hin, hi, hw1, htn, hb3, hb5, hb6] <;> omega) ⟨_, rfl, Below.refl _ _, rfl⟩
    · refine G.wanted_yes (G.wanted_plain rfl) ?_
      have e7 : a.tmps[7]?.getD undef = .int .i64 1 := hS.at_ 7 rfl
      exact G.st_val (v := .int .i64 1) (w' := wq) (by simp [execOp, go_sem, e7, hb2, hb4, hb7, hin, hi, hw1, htn, hb3, hb5, hb6] <;> omega) ⟨_, rfl, Below.refl _ _, rfl⟩
    · refine G.wanted_yes (G.wanted_plain rfl) ?_
      have e47 : a.tmps[47]?.getD undef = .int .i64 (i : Nat) := hp ⟨1, .data⟩ (by simp) rfl _ rfl
      have e48 : a.tmps[48]?.getD undef = .int .i64 1 := hp ⟨2, .data⟩ (by simp) rfl _ rfl
      exact G.st_val (v := .int .i64 ((i : Int) + 1)) (w' := wq) (by simp [execOp, go_sem, e47, e48, hb2, hb4, hb7, hin, hi, hw1, htn, hb3, hb5, hb6] <;> omega) ⟨_, rfl, Below.refl _ _, rfl⟩
    · refine G.wanted_yes (G.wanted_plain rfl) ?_
      have e46 : a.tmps[46]?.getD undef = .slice (some ⟨w.heap.size, 0, none⟩) (c + 1) cp := hp ⟨0, .data⟩ (by simp) rfl _ rfl
      have e49 : a.tmps[49]?.getD undef = .int .i64 ((i : Int) + 1) := hp ⟨3, .data⟩ (by simp) rfl _ rfl
      exact G.st_val (v := .slice (some ⟨w.heap.size, (i + 1) * 2, none⟩) (c - i) (cp - (i + 1))) (w' := wq) (by simp [execOp, go_sem, e46, e49, hb2, hb4, hb7, hin, hi, hw1, htn, hb3, hb5, hb6] <;> omega) ⟨_, rfl, Below.refl _ _, rfl⟩
    · refine G.wanted_yes (G.wanted_plain rfl) ?_
      have e0 : a.tmps[0]?.getD undef = .slice (some ⟨g, 0, none⟩) c c := hS.at_ 0 rfl
      exact G.st_val (v := .slice (some ⟨g, 0, none⟩) c c) (w' := wq) (by simp [execOp, go_sem, e0, hb2, hb4, hb7, hin, hi, hw1, htn, hb3, hb5, hb6] <;> omega) ⟨_, rfl, Below.refl _ _, rfl⟩
    · refine G.wanted_yes (G.wanted_plain rfl) ?_
      have e1 : a.tmps[1]?.getD undef = .int .i64 (i : Nat) := hS.at_ 1 rfl
      exact G.st_val (v := .int .i64 (i : Nat)) (w' := wq) (by simp [execOp, go_sem, e1, hb2, hb4, hb7, hin, hi, hw1, htn, hb3, hb5, hb6] <;> omega) ⟨_, rfl, Below.refl _ _, rfl⟩
    · refine G.wanted_yes (G.wanted_plain rfl) ?_
      have e51 : a.tmps[51]?.getD undef = .slice (some ⟨g, 0, none⟩) c c := hp ⟨5, .data⟩ (by simp) rfl _ rfl
      have e52 : a.tmps[52]?.getD undef = .int .i64 (i : Nat) := hp ⟨6, .data⟩ (by simp) rfl _ rfl
      exact G.st_val (v := .slice (some ⟨g, i * 2, none⟩) (c - i) (c - i)) (w' := wq) (by simp [execOp, go_sem, e51, e52, hb2, hb4, hb7, hin, hi, hw1, htn, hb3, hb5, hb6] <;> omega) ⟨_, rfl, Below.refl _ _, rfl⟩
  · intro a wq hT hS hp
    have e46 : G.slot a (some 46) = .slice (some ⟨w.heap.size, 0, none⟩) (c + 1) cp := hp 0 _ rfl
    have e47 : G.slot a (some 47) = .int .i64 (i : Nat) := hp 1 _ rfl
    have e48 : G.slot a (some 48) = .int .i64 1 := hp 2 _ rfl
    have e49 : G.slot a (some 49) = .int .i64 ((i : Int) + 1) := hp 3 _ rfl
    have e50 : G.slot a (some 50) = .slice (some ⟨w.heap.size, (i + 1) * 2, none⟩) (c - i) (cp - (i + 1)) := hp 4 _ rfl
    have e51 : G.slot a (some 51) = .slice (some ⟨g, 0, none⟩) c c := hp 5 _ rfl
    have e52 : G.slot a (some 52) = .int .i64 (i : Nat) := hp 6 _ rfl
    have e53 : G.slot a (some 53) = .slice (some ⟨g, i * 2, none⟩) (c - i) (c - i) := hp 7 _ rfl
    have ha := G.act_of hS
    simp only [List.take_succ_cons, List.take_zero, List.foldl_cons, List.foldl_nil, Act.put, List.setIfInBounds_toArray, List.set_cons_succ, List.set_cons_zero, e46, e47, e48, e49, e50, e51, e52, e53] at ha
    clear hp hS e46 e47 e48 e49 e50 e51 e52 e53
    subst ha
    show wpList _ _ _ _ _ _
    simp only [List.drop_succ_cons, List.drop_zero]
    have hT2 : Below W2.heap.size W2 wq := below_tr (Below.refl _ _).drew hT
    have HR3 := Lib.hid (HR2.out wq hT2)
    have HO3 := Lib.hid (HOWN.out wq hT2)
    have HG3 := Lib.hid ((below_tr HB2.out hT2).grown (below_row (lay (lay row (i * 2) [.string ⟨x.name.toArray⟩, ux]) ((i + 1) * 2) (xs.drop (i * 2)))) (below_tr HB2.out hT2).size (fun k e => by cases e; exact Nat.le_refl _))
    clear hT2 hT
    go_wp2_with (refine wpList_copy2 rfl (.tmp 50) (.tmp 53) 22 22 rfl _ _ rfl rfl (HR3.out _) ?_)
    go_ret
    exact ⟨_, rfl, by rw [HFIN.out, HNN.out]; exact HO3.out, grown_below HG3.out, .inr fun q hq => by cases hq; exact Nat.le_refl _⟩

/-- Insert, wherever. -/
theorem insert_any (i : Nat) (v : Value) (es : List FE) (x : Fl) (ux : Value) (w : World) (base vb : Nat) (h : w.ownsRow base 40 2 v es.length (es.flatMap FE.cells)) (hi : i ≤ es.length) (hl : es.length ≤ 1000000)
    (hsrc : w.heap[vb]? = some (.cells #[.string ⟨x.name.toArray⟩, ux] 40 (0, 0))) (hu : ux.oneCell' = true) (hne : v.ownBlock ≠ some vb) (h1 : ∀ e ∈ es, e.2.oneCell' = true) (hbw : base ≤ w.heap.size) :
    Calls Try.prog 70 #[v, .int .i64 i, .slice (some ⟨vb, 0, none⟩) 1 1] w (InsP w base v es i (x, ux)) := by
  by_cases hlt : i < es.length
  · obtain ⟨g, c, rfl, l1, -⟩ := own_form h (by omega)
    by_cases hroom : es.length + 1 ≤ c
    · exact insert_room g c i es x ux w base vb h hlt hroom hsrc hu (fun e => hne (by rw [e]; rfl)) h1
    · exact insert_grow g c i es x ux w base vb h hlt (by omega) hl hsrc hu h1 hbw
  · obtain rfl : i = es.length := by omega
    exact insert_end v es x ux w base vb h hl hsrc hu hbw

end Go.Proofs.Ytjgobljclodpfaa
