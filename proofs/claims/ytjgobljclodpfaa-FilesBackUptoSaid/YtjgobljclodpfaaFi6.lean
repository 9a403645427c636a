/- Layer 5's walks: slices.Delete at files. No condition beyond sizes. -/
import Derived.Test.YtjgobljclodpfaaFi5
namespace Go.Proofs.Ytjgobljclodpfaa
open Go.RowKit Go.Shelf K L
set_option linter.unusedVariables false
set_option linter.unusedSimpArgs false

theorem del_list {k p i : Nat} {xs cur zs : List Value} (hi : i ≤ p) (hl : xs.length = (p + 1) * k) (hz : zs.length = k) (hcur : (p + 1) * k ≤ cur.length) (ht : cur.take ((p + 1) * k) = xs) :
    ((cur.take (i * k) ++ xs.drop ((i + 1) * k) ++ cur.drop (i * k + (xs.drop ((i + 1) * k)).length)).take (p * k) ++ zs ++ (cur.take (i * k) ++ xs.drop ((i + 1) * k) ++ cur.drop (i * k + (xs.drop ((i + 1) * k)).length)).drop (p * k + zs.length)).take (p * k) = xs.take (i * k) ++ xs.drop ((i + 1) * k) := by
  have hik : i * k ≤ p * k := Nat.mul_le_mul_right _ hi
  have hi1 : (i + 1) * k = i * k + k := Nat.succ_mul _ _
  have hn1 : (p + 1) * k = p * k + k := Nat.succ_mul _ _
  have hdl : (xs.drop ((i + 1) * k)).length = p * k - i * k := by rw [List.length_drop]; omega
  have h0 : cur.take (i * k) = xs.take (i * k) := by rw [← ht, List.take_take, Nat.min_eq_left (by omega)]
  have h1 : (cur.take (i * k) ++ xs.drop ((i + 1) * k) ++ cur.drop (i * k + (xs.drop ((i + 1) * k)).length)).take (p * k) = xs.take (i * k) ++ xs.drop ((i + 1) * k) := by
    rw [h0, List.take_append_of_le_length (by simp only [List.length_append, List.length_take, hdl]; omega), List.take_of_length_le (by simp only [List.length_append, List.length_take, hdl]; omega)]
  rw [h1, List.append_assoc, List.take_append_of_le_length (by simp only [List.length_append, List.length_take, hdl]; omega), List.take_of_length_le (by simp only [List.length_append, List.length_take, hdl]; omega)]

theorem zeros_one : (Builtin.zeroCells (Value.agg #[.string ⟨#[]⟩, .slice none 0 0]).cells 1).toList = [.string ⟨#[]⟩, .slice none 0 0] := by kernel_rfl

def DelP (w : World) (base g c : Nat) (es : List FE) (i : Nat) (e : Ending) (w' : World) : Prop :=
  e = .returned (.slice (some ⟨g, 0, none⟩) (es.length - 1) c) ∧ w'.ownsRow base 40 2 (.slice (some ⟨g, 0, none⟩) (es.length - 1) c) (es.length - 1) ((es.take i ++ es.drop (i + 1)).flatMap FE.cells) ∧ w.grownBy w' (some g)

set_option maxRecDepth 100000 in
set_option maxHeartbeats 4000000 in
theorem delete_any (g c i : Nat) (es : List FE) (w : World) (base : Nat) (h : w.ownsRow base 40 2 (.slice (some ⟨g, 0, none⟩) es.length c) es.length (es.flatMap FE.cells)) (hi : i < es.length) (h1 : ∀ e ∈ es, e.2.oneCell' = true) :
    Calls Try.prog 71 #[.slice (some ⟨g, 0, none⟩) es.length c, .int .i64 i, .int .i64 ((i : Int) + 1)] w (DelP w base g c es i) := by
  obtain ⟨cur, hg, hb, hn, hc, hs, hxl, ht⟩ := own_open h
  have hxs := one_cells es h1
  obtain ⟨p, hnn⟩ : ∃ p, es.length = p + 1 := ⟨es.length - 1, by omega⟩
  rw [hnn] at hi hn hxl ht
  obtain ⟨xs, hxe⟩ : ∃ xs, es.flatMap FE.cells = xs := ⟨_, rfl⟩
  have hfin : ((es.take i ++ es.drop (i + 1)).flatMap FE.cells) = xs.take (i * 2) ++ xs.drop ((i + 1) * 2) := by
    rw [List.flatMap_append, ← hxe, fm_take FE.len, fm_drop FE.len]
  rw [hxe] at hxs hxl ht
  have hdl : (xs.drop ((i + 1) * 2)).length = (p - i) * 2 := by rw [List.length_drop, hxl]; omega
  have hget : ∀ j v, xs[j]? = some v → cur.toList[j]? = some v := fun j v hv => by
    rw [← ht, List.getElem?_take] at hv
    split at hv
    · exact hv
    · cases hv
  have hr1 : ∀ (Wx : World), Below w.heap.size w Wx → ∀ (a : Addr) (cc : Nat), (0 < p - i → a = ⟨g, (i + 1) * 2, none⟩) → ∀ ty, (Builtin.append_ #[22, 22] ty #[.slice (some ⟨g, 0, none⟩) i c, .slice (some a) (p - i) cc]).run Try.prog Wx = .ok (.slice (some ⟨g, 0, none⟩) p c) (Wx.setRow g (lay cur (i * 2) (xs.drop ((i + 1) * 2)))) := fun Wx hWx a cc ha ty => by
    have := run_appk Try.elF Wx ty g i c a (p - i) cc cur _ (xs.drop ((i + 1) * 2)) (heap_bl hWx hg) hdl (by
      by_cases h0 : 0 < p - i
      · rw [ha h0]
        exact at_row (heap_bl hWx hg) _ (fun j v hv => by rw [List.getElem?_drop] at hv; exact hget _ v hv)
      · intro j v hv
        have : (xs.drop ((i + 1) * 2)) = [] := List.eq_nil_of_length_eq_zero (by rw [hdl]; omega)
        rw [this] at hv; simp at hv) (by omega) (by rw [hdl, hs]; omega) (fun u hu => hxs u (List.mem_of_mem_drop hu))
    rwa [show i + (p - i) = p from by omega] at this
  have hls : (lay cur (i * 2) (xs.drop ((i + 1) * 2))).size = c * 2 := by rw [lay_size (by rw [hdl, hs]; omega), hs]
  have hzl : (Builtin.zeroCells (Value.agg #[.string ⟨#[]⟩, .slice none 0 0]).cells 1).toList.length = 2 := by simp [size_zeroCells, Value.cells]
  have hr2 : ∀ (Wx : World), Below w.heap.size w Wx → ∀ ty, (Builtin.clear_ #[22] ty #[.slice (some ⟨g, p * 2, none⟩) 1 (c - p)]).run Try.prog (Wx.setRow g (lay cur (i * 2) (xs.drop ((i + 1) * 2)))) = .ok (.tuple #[]) ((Wx.setRow g (lay cur (i * 2) (xs.drop ((i + 1) * 2)))).setRow g (lay (lay cur (i * 2) (xs.drop ((i + 1) * 2))) (p * 2) (Builtin.zeroCells (Value.agg #[.string ⟨#[]⟩, .slice none 0 0]).cells 1).toList)) := fun Wx hWx ty => by
    exact run_cleark Try.elF _ ty g (p * 2) 1 (c - p) _ _ (by omega) (setRow_heap _ _ _ _ _ _ (heap_bl hWx hg)) (by rw [hls]; omega) (by rw [zeros_one]; intro u hu; simp only [List.mem_cons, List.not_mem_nil, or_false] at hu; rcases hu with rfl | rfl <;> rfl)
  have hown : ∀ (Wx : World), Below w.heap.size w Wx → ((Wx.setRow g (lay cur (i * 2) (xs.drop ((i + 1) * 2)))).setRow g (lay (lay cur (i * 2) (xs.drop ((i + 1) * 2))) (p * 2) (Builtin.zeroCells (Value.agg #[.string ⟨#[]⟩, .slice none 0 0]).cells 1).toList)).ownsRow base 40 2 (.slice (some ⟨g, 0, none⟩) p c) p (xs.take (i * 2) ++ xs.drop ((i + 1) * 2)) := by
    intro Wx hWx
    refine own_row (setRow_heap _ _ _ _ _ _ (setRow_heap _ _ _ _ _ _ (heap_bl hWx hg))) hb (by omega) hc (by rw [lay_size (by rw [hzl, hls]; omega), hls]) ?_ ?_
    · simp only [List.length_append, List.length_take, hdl, hxl]; omega
    · rw [lay_list, lay_list]
      exact del_list (by omega) hxl hzl (by rw [Array.length_toList, hs]; omega) ht
  have hgr : ∀ (Wx : World), Below w.heap.size w Wx → w.grownBy ((Wx.setRow g (lay cur (i * 2) (xs.drop ((i + 1) * 2)))).setRow g (lay (lay cur (i * 2) (xs.drop ((i + 1) * 2))) (p * 2) (Builtin.zeroCells (Value.agg #[.string ⟨#[]⟩, .slice none 0 0]).cells 1).toList)) (some g) := fun Wx hWx =>
    grown_trans (grown_trans (grown_below hWx) (below_row _)) (below_row _)
  generalize (Builtin.zeroCells (Value.agg #[.string ⟨#[]⟩, .slice none 0 0]).cells 1).toList = zs at *
  have hcl : c ≤ 9223372036854775807 := by simpa [maxLen] using hc
  have HR1 := Lib.hid hr1
  have HR2 := Lib.hid hr2
  have HOWN := Lib.hid hown
  have HGR := Lib.hid hgr
  have HFIN := Lib.hid hfin
  have HNN := Lib.hid hnn
  have hb1 : ¬ (p + 1 = i) := by omega
  have hb4 : ¬ (c = i) := by omega
  have hb5 : ¬ (c = p) := by omega
  have hin : i ≤ p := by omega
  have hw1 : IntKind.i64.wrap ((i : Int) + 1) = (i : Int) + 1 := by rw [IntKind.wrap_i64]; omega
  have htn : ((i : Int) + 1).toNat = i + 1 := by omega
  have htp : ((p : Int) + 1).toNat = p + 1 := by omega
  have hb3 : (i : Int) + 1 ≤ (p : Int) + 1 := by omega
  have hb6 : (0 : Int) ≤ (i : Int) + 1 := by omega
  have hb7 : (i : Int) ≤ (i : Int) + 1 := by omega
  have hb8 : (p : Int) + 1 ≤ (c : Int) := by omega
  have hb9 : (i : Int) ≤ (c : Int) := by omega
  rw [hnn]
  clear hr1 hr2 hown hgr hfin hnn hls hzl hget hdl hxl ht hxs hxe hc hs hg h
  have hall : ∀ (Wx : World), Below w.heap.size w Wx → ∀ (a : Addr) (cc : Nat), (0 < p - i → a = ⟨g, (i + 1) * 2, none⟩) → ∃ W2 W3 : World,
      (∀ ty, (Builtin.append_ #[22, 22] ty #[.slice (some ⟨g, 0, none⟩) i c, .slice (some a) (p - i) cc]).run Try.prog Wx = .ok (.slice (some ⟨g, 0, none⟩) p c) W2) ∧
      (∀ ty, (Builtin.clear_ #[22] ty #[.slice (some ⟨g, p * 2, none⟩) 1 (c - p)]).run Try.prog W2 = .ok (.tuple #[]) W3) ∧
      W3.ownsRow base 40 2 (.slice (some ⟨g, 0, none⟩) p c) p (xs.take (i * 2) ++ xs.drop ((i + 1) * 2)) ∧ w.grownBy W3 (some g) := fun Wx hWx a cc ha =>
    ⟨_, _, HR1.out Wx hWx a cc ha, HR2.out Wx hWx, HOWN.out Wx hWx, HGR.out Wx hWx⟩
  have HALL := Lib.hid hall
  clear hall HR1 HR2 HOWN HGR
  by_cases hcc : c = i + 1
  · have hct := eq_true hcc
    have hpi : p ≤ i := by omega
    clear hcc
    go_enter Try.func71, Try.ntmps71
    go_wp2
    refine G.region_split 6 (by kernel_rfl) (by kernel_rfl) (G.any_inv (by kernel_rfl) (fun w w' => Below w.heap.size w w') (fun _ _ _ h k => below_tr h k) (fun w _ => Below.refl _ _) (Below.refl _ _)
      (G.of [(fun (_ : World) (v : Value) => v = .slice (some ⟨g, 0, none⟩) (p + 1) c), (fun (_ : World) (v : Value) => v = .int .i64 (i : Nat)), (fun (_ : World) (v : Value) => v = .slice (some ⟨g, 0, none⟩) i c), (fun (_ : World) (v : Value) => v = .slice (some ⟨g, 0, none⟩) (p + 1) c), (fun (_ : World) (v : Value) => v = .int .i64 ((i : Int) + 1)), (fun (_ : World) (v : Value) => v = .slice (some ⟨g, 0, none⟩) (p - i) (c - (i + 1)))])
      (G.of_stays _ ?_) ?_ (G.each_ops ?_) ?_)
    · exact ⟨(fun w w' v h k => h), (fun w w' v h k => h), (fun w w' v h k => h), (fun w w' v h k => h), (fun w w' v h k => h), (fun w w' v h k => h), trivial⟩
    · intro i o hi hd; exact absurd hd (G.no_none (by kernel_rfl) hi)
    · refine ⟨?_, ?_, ?_, ?_, ?_, ?_, trivial⟩
      all_goals intro a wq hT hS hp
      · refine G.wanted_yes (G.wanted_plain rfl) ?_
        have e0 : a.tmps[0]?.getD undef = .slice (some ⟨g, 0, none⟩) (p + 1) c := hS.at_ 0 rfl
        exact G.st_val (v := .slice (some ⟨g, 0, none⟩) (p + 1) c) (w' := wq) (by simp [execOp, go_sem, e0, hct, hb4, hin, hi, hw1, htn, hb3, hb6, hb7, hb8, hb9] <;> omega) ⟨_, rfl, Below.refl _ _, rfl⟩
      · refine G.wanted_yes (G.wanted_plain rfl) ?_
        have e1 : a.tmps[1]?.getD undef = .int .i64 (i : Nat) := hS.at_ 1 rfl
        exact G.st_val (v := .int .i64 (i : Nat)) (w' := wq) (by simp [execOp, go_sem, e1, hct, hb4, hin, hi, hw1, htn, hb3, hb6, hb7, hb8, hb9] <;> omega) ⟨_, rfl, Below.refl _ _, rfl⟩
      · refine G.wanted_yes (G.wanted_plain rfl) ?_
        have e20 : a.tmps[20]?.getD undef = .slice (some ⟨g, 0, none⟩) (p + 1) c := hp ⟨0, .data⟩ (by simp) rfl _ rfl
        have e21 : a.tmps[21]?.getD undef = .int .i64 (i : Nat) := hp ⟨1, .data⟩ (by simp) rfl _ rfl
        exact G.st_val (v := .slice (some ⟨g, 0, none⟩) i c) (w' := wq) (by simp [execOp, go_sem, e20, e21, hct, hb4, hin, hi, hw1, htn, hb3, hb6, hb7, hb8, hb9] <;> omega) ⟨_, rfl, Below.refl _ _, rfl⟩
      · refine G.wanted_yes (G.wanted_plain rfl) ?_
        have e0 : a.tmps[0]?.getD undef = .slice (some ⟨g, 0, none⟩) (p + 1) c := hS.at_ 0 rfl
        exact G.st_val (v := .slice (some ⟨g, 0, none⟩) (p + 1) c) (w' := wq) (by simp [execOp, go_sem, e0, hct, hb4, hin, hi, hw1, htn, hb3, hb6, hb7, hb8, hb9] <;> omega) ⟨_, rfl, Below.refl _ _, rfl⟩
      · refine G.wanted_yes (G.wanted_plain rfl) ?_
        have e2 : a.tmps[2]?.getD undef = .int .i64 ((i : Int) + 1) := hS.at_ 2 rfl
        exact G.st_val (v := .int .i64 ((i : Int) + 1)) (w' := wq) (by simp [execOp, go_sem, e2, hct, hb4, hin, hi, hw1, htn, hb3, hb6, hb7, hb8, hb9] <;> omega) ⟨_, rfl, Below.refl _ _, rfl⟩
      · refine G.wanted_yes (G.wanted_plain rfl) ?_
        have e23 : a.tmps[23]?.getD undef = .slice (some ⟨g, 0, none⟩) (p + 1) c := hp ⟨3, .data⟩ (by simp) rfl _ rfl
        have e24 : a.tmps[24]?.getD undef = .int .i64 ((i : Int) + 1) := hp ⟨4, .data⟩ (by simp) rfl _ rfl
        exact G.st_val (v := .slice (some ⟨g, 0, none⟩) (p - i) (c - (i + 1))) (w' := wq) (by simp [execOp, go_sem, e23, e24, hct, hb4, hin, hi, hw1, htn, hb3, hb6, hb7, hb8, hb9] <;> omega) ⟨_, rfl, Below.refl _ _, rfl⟩
    · intro a wq hT hS hp
      have e20 : G.slot a (some 20) = .slice (some ⟨g, 0, none⟩) (p + 1) c := hp 0 _ rfl
      have e21 : G.slot a (some 21) = .int .i64 (i : Nat) := hp 1 _ rfl
      have e22 : G.slot a (some 22) = .slice (some ⟨g, 0, none⟩) i c := hp 2 _ rfl
      have e23 : G.slot a (some 23) = .slice (some ⟨g, 0, none⟩) (p + 1) c := hp 3 _ rfl
      have e24 : G.slot a (some 24) = .int .i64 ((i : Int) + 1) := hp 4 _ rfl
      have e25 : G.slot a (some 25) = .slice (some ⟨g, 0, none⟩) (p - i) (c - (i + 1)) := hp 5 _ rfl
      have ha := G.act_of hS
      simp only [List.take_succ_cons, List.take_zero, List.foldl_cons, List.foldl_nil, Act.put, List.setIfInBounds_toArray, List.set_cons_succ, List.set_cons_zero, e20, e21, e22, e23, e24, e25] at ha
      clear hp hS e20 e21 e22 e23 e24 e25
      subst ha
      show wpList _ _ _ _ _ _
      simp only [List.drop_succ_cons, List.drop_zero]
      obtain ⟨W2, W3, h2, h3, h4, h5⟩ := HALL.out wq (below_tr (Below.refl _ _).drew hT) ⟨g, 0, none⟩ (c - (i + 1)) (fun h => by omega)
      have HR3 := Lib.hid h2
      have HR4 := Lib.hid h3
      have HO3 := Lib.hid h4
      have HG3 := Lib.hid h5
      clear hT h2 h3 h4 h5
      go_wp2_with (first | (refine Lib.wpList_append_run _ rfl (.tmp 22) (.tmp 25) _ _ rfl _ _ rfl rfl _ _ (HR3.out _) ?_) | (refine wpList_clear2 rfl (.tmp 31) 22 rfl _ rfl (HR4.out _) ?_))
      go_ret
      exact ⟨by rw [HNN.out]; rfl, by rw [HFIN.out, HNN.out]; exact HO3.out, HG3.out⟩
  · go_enter Try.func71, Try.ntmps71
    go_wp2
    refine G.region_split 6 (by kernel_rfl) (by kernel_rfl) (G.any_inv (by kernel_rfl) (fun w w' => Below w.heap.size w w') (fun _ _ _ h k => below_tr h k) (fun w _ => Below.refl _ _) (Below.refl _ _)
      (G.of [(fun (_ : World) (v : Value) => v = .slice (some ⟨g, 0, none⟩) (p + 1) c), (fun (_ : World) (v : Value) => v = .int .i64 (i : Nat)), (fun (_ : World) (v : Value) => v = .slice (some ⟨g, 0, none⟩) i c), (fun (_ : World) (v : Value) => v = .slice (some ⟨g, 0, none⟩) (p + 1) c), (fun (_ : World) (v : Value) => v = .int .i64 ((i : Int) + 1)), (fun (_ : World) (v : Value) => v = .slice (some ⟨g, (i + 1) * 2, none⟩) (p - i) (c - (i + 1)))])
      (G.of_stays _ ?_) ?_ (G.each_ops ?_) ?_)
    · exact ⟨(fun w w' v h k => h), (fun w w' v h k => h), (fun w w' v h k => h), (fun w w' v h k => h), (fun w w' v h k => h), (fun w w' v h k => h), trivial⟩
    · intro i o hi hd; exact absurd hd (G.no_none (by kernel_rfl) hi)
    · refine ⟨?_, ?_, ?_, ?_, ?_, ?_, trivial⟩
      all_goals intro a wq hT hS hp
      · refine G.wanted_yes (G.wanted_plain rfl) ?_
        have e0 : a.tmps[0]?.getD undef = .slice (some ⟨g, 0, none⟩) (p + 1) c := hS.at_ 0 rfl
        exact G.st_val (v := .slice (some ⟨g, 0, none⟩) (p + 1) c) (w' := wq) (by simp [execOp, go_sem, e0, hcc, hb4, hin, hi, hw1, htn, hb3, hb6, hb7, hb8, hb9] <;> omega) ⟨_, rfl, Below.refl _ _, rfl⟩
      · refine G.wanted_yes (G.wanted_plain rfl) ?_
        have e1 : a.tmps[1]?.getD undef = .int .i64 (i : Nat) := hS.at_ 1 rfl
        exact G.st_val (v := .int .i64 (i : Nat)) (w' := wq) (by simp [execOp, go_sem, e1, hcc, hb4, hin, hi, hw1, htn, hb3, hb6, hb7, hb8, hb9] <;> omega) ⟨_, rfl, Below.refl _ _, rfl⟩
      · refine G.wanted_yes (G.wanted_plain rfl) ?_
        have e20 : a.tmps[20]?.getD undef = .slice (some ⟨g, 0, none⟩) (p + 1) c := hp ⟨0, .data⟩ (by simp) rfl _ rfl
        have e21 : a.tmps[21]?.getD undef = .int .i64 (i : Nat) := hp ⟨1, .data⟩ (by simp) rfl _ rfl
        exact G.st_val (v := .slice (some ⟨g, 0, none⟩) i c) (w' := wq) (by simp [execOp, go_sem, e20, e21, hcc, hb4, hin, hi, hw1, htn, hb3, hb6, hb7, hb8, hb9] <;> omega) ⟨_, rfl, Below.refl _ _, rfl⟩
      · refine G.wanted_yes (G.wanted_plain rfl) ?_
        have e0 : a.tmps[0]?.getD undef = .slice (some ⟨g, 0, none⟩) (p + 1) c := hS.at_ 0 rfl
        exact G.st_val (v := .slice (some ⟨g, 0, none⟩) (p + 1) c) (w' := wq) (by simp [execOp, go_sem, e0, hcc, hb4, hin, hi, hw1, htn, hb3, hb6, hb7, hb8, hb9] <;> omega) ⟨_, rfl, Below.refl _ _, rfl⟩
      · refine G.wanted_yes (G.wanted_plain rfl) ?_
        have e2 : a.tmps[2]?.getD undef = .int .i64 ((i : Int) + 1) := hS.at_ 2 rfl
        exact G.st_val (v := .int .i64 ((i : Int) + 1)) (w' := wq) (by simp [execOp, go_sem, e2, hcc, hb4, hin, hi, hw1, htn, hb3, hb6, hb7, hb8, hb9] <;> omega) ⟨_, rfl, Below.refl _ _, rfl⟩
      · refine G.wanted_yes (G.wanted_plain rfl) ?_
        have e23 : a.tmps[23]?.getD undef = .slice (some ⟨g, 0, none⟩) (p + 1) c := hp ⟨3, .data⟩ (by simp) rfl _ rfl
        have e24 : a.tmps[24]?.getD undef = .int .i64 ((i : Int) + 1) := hp ⟨4, .data⟩ (by simp) rfl _ rfl
        exact G.st_val (v := .slice (some ⟨g, (i + 1) * 2, none⟩) (p - i) (c - (i + 1))) (w' := wq) (by simp [execOp, go_sem, e23, e24, hcc, hb4, hin, hi, hw1, htn, hb3, hb6, hb7, hb8, hb9] <;> omega) ⟨_, rfl, Below.refl _ _, rfl⟩
    · intro a wq hT hS hp
      have e20 : G.slot a (some 20) = .slice (some ⟨g, 0, none⟩) (p + 1) c := hp 0 _ rfl
      have e21 : G.slot a (some 21) = .int .i64 (i : Nat) := hp 1 _ rfl
      have e22 : G.slot a (some 22) = .slice (some ⟨g, 0, none⟩) i c := hp 2 _ rfl
      have e23 : G.slot a (some 23) = .slice (some ⟨g, 0, none⟩) (p + 1) c := hp 3 _ rfl
      have e24 : G.slot a (some 24) = .int .i64 ((i : Int) + 1) := hp 4 _ rfl
      have e25 : G.slot a (some 25) = .slice (some ⟨g, (i + 1) * 2, none⟩) (p - i) (c - (i + 1)) := hp 5 _ rfl
      have ha := G.act_of hS
      simp only [List.take_succ_cons, List.take_zero, List.foldl_cons, List.foldl_nil, Act.put, List.setIfInBounds_toArray, List.set_cons_succ, List.set_cons_zero, e20, e21, e22, e23, e24, e25] at ha
      clear hp hS e20 e21 e22 e23 e24 e25
      subst ha
      show wpList _ _ _ _ _ _
      simp only [List.drop_succ_cons, List.drop_zero]
      obtain ⟨W2, W3, h2, h3, h4, h5⟩ := HALL.out wq (below_tr (Below.refl _ _).drew hT) ⟨g, (i + 1) * 2, none⟩ (c - (i + 1)) (fun _ => rfl)
      have HR3 := Lib.hid h2
      have HR4 := Lib.hid h3
      have HO3 := Lib.hid h4
      have HG3 := Lib.hid h5
      clear hT h2 h3 h4 h5
      go_wp2_with (first | (refine Lib.wpList_append_run _ rfl (.tmp 22) (.tmp 25) _ _ rfl _ _ rfl rfl _ _ (HR3.out _) ?_) | (refine wpList_clear2 rfl (.tmp 31) 22 rfl _ rfl (HR4.out _) ?_))
      go_ret
      exact ⟨by rw [HNN.out]; rfl, by rw [HFIN.out, HNN.out]; exact HO3.out, HG3.out⟩

end Go.Proofs.Ytjgobljclodpfaa
