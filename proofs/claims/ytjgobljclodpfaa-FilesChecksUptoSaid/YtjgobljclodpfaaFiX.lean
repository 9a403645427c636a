/- FilesChecks' walk. No condition beyond sizes. -/
import Derived.Test.YtjgobljclodpfaaFiW
import Derived.Test.YtjgobljclodpfaaFr2
namespace Go.Proofs.Ytjgobljclodpfaa
open Go.RowKit Go.Shelf K L
set_option linter.unusedVariables false
set_option linter.unusedSimpArgs false

/-- Files that a call gave. -/
def CpF (B : Nat) (l : List Fl) (w : World) (v : Value) : Prop := ∃ v' es', v = .agg #[v'] ∧ fls es' = l ∧ Fs w (B ≤ ·) v' es'
theorem CpF.fresh {B : Nat} {l : List Fl} {w w' : World} {v : Value} (h : CpF B l w v) (hb : Below w.heap.size w w') : CpF B l w' v := by obtain ⟨v', es', h1, h2, h3⟩ := h; exact ⟨v', es', h1, h2, h3.below hb⟩

theorem len_bytes (es : List FE) : ∀ e ∈ es, e.1.bytes.length ≤ cost (fls es) := by
  intro e he
  obtain ⟨i, hi, rfl⟩ := List.getElem_of_mem he
  have := cost_at es i hi
  omega

set_option maxRecDepth 100000 in
set_option maxHeartbeats 8000000 in
theorem filesChecks_walk (u vn : Value) (es : List FE) (ss : List (List UInt8)) (w : World) (F Gn : Nat → Prop) (h : Fs w F u es) (hc : cost (fls es) + es.length ≤ 1048576)
    (hn : Sl w Gn 1 vn ss.length (ss.map fun s => .string ⟨s.toArray⟩)) (hnl : ss.length ≤ 1048576) :
    Calls Try.prog 6 #[.agg #[u], vn] w fun e w' => e = .returned (.bool true) ∧ Below w.heap.size w w' := by
  have hs := h
  obtain ⟨A, c, rfl, l1, l2⟩ := fs_form h
  clear h
  have hbl := len_bytes es
  obtain ⟨-, An, cn, rfl, m1, m2, -, -⟩ := id hn
  replace m2 : cn ≤ 9223372036854775807 := by simpa [maxLen] using m2
  obtain ⟨W, hW⟩ : ∃ W, w.alloc (.cells #[.slice A es.length c] 24) = W := ⟨_, rfl⟩
  have hB0 : Below w.heap.size w W := by rw [← hW]; exact below_al (Below.refl _ _) _
  have hx0 : W.heap[w.heap.size]? = some (.cells #[.slice A es.length c] 24 (0, 0)) := by rw [← hW]; exact heap_alloc_new _ _
  have HSW := Lib.hid (hs.below hB0)
  have HNW := Lib.hid (Sl.below hn (by decide) hB0)
  have HX0 := Lib.hid hx0
  have HB0 := Lib.hid hB0
  have HBL := Lib.hid hbl
  clear hs hn hx0 hB0 hbl
  go_enter Try.func6, Try.ntmps6
  go_wp2_with fail
  refine (wakes_any W).mono ?_
  rintro e w1 ⟨rfl, hb1⟩
  have q1 := cell_of (heap_bl hb1 HX0.out) 0
  simp at q1
  have HB1 := Lib.hid hb1
  have HL := Lib.hid (large_any _ es w1 F (HSW.out.below hb1))
  clear hb1 hW
  go_wp2_with fail
  refine HL.out.mono ?_
  rintro e w2 ⟨rfl, hb2⟩
  have hb12 := HB1.out.trans (hb2.mono HB1.out.size)
  have HB2 := Lib.hid hb12
  clear hb2 q1
  cases big (fls es)
  case true =>
    go_wp2
    go_ret
    exact ⟨rfl, below_tr HB0.out HB2.out⟩
  have q2 := cell_of (heap_bl hb12 HX0.out) 0
  simp at q2
  have HR := Lib.hid (right_any _ es w2 F (HSW.out.below hb12) (by omega))
  clear hb12
  go_wp2_with fail
  refine HR.out.mono ?_
  rintro e w3 ⟨rfl, hb3⟩
  have hb13 := HB2.out.trans (hb3.mono HB2.out.size)
  have HB3 := Lib.hid hb13
  have HS3 := Lib.hid (HSW.out.below hb13)
  have HN3 := Lib.hid (Sl.below HNW.out (by decide) hb13)
  have HX3 := Lib.hid (heap_bl hb13 HX0.out)
  have hw3 : w.heap.size < w3.heap.size := (Array.getElem?_eq_some_iff.1 HX3.out).1
  have HBW := Lib.hid (below_tr HB0.out hb13)
  clear hb3 hb13 q2 HR HL
  cases hok : okFs (fls es)
  case false =>
    have HCK := Lib.hid (show ckErr (fls es) = 150 from ck_no hok)
    have HOK := Lib.hid hok
    clear hok
    go_wp2
    refine G.region_inv (by kernel_rfl) (by kernel_rfl) (fun w w' => Below w.heap.size w w') (fun _ _ _ h k => below_tr h k) (fun w _ => Below.refl _ _) (Below.refl _ _)
      (G.of [(fun (_ : World) (v : Value) => v = .agg #[.slice A es.length c]), (CpF w3.heap.size (fls es)), (fun (_ : World) (v : Value) => v = .int .i64 150), (fun (_ : World) (v : Value) => v = .int .i64 150), (fun (_ : World) (v : Value) => v = .bool false), (fun (_ : World) (v : Value) => v = .bool false), (fun (_ : World) (v : Value) => v = .agg #[.slice A es.length c]), (CpF w3.heap.size (fls es)), (fun (_ : World) (v : Value) => v = .int .i64 (cost (fls es) : Nat)), (fun (_ : World) (v : Value) => v = .pointer (some ⟨w.heap.size, 0, none⟩)), (fun (_ : World) (v : Value) => v = .slice A es.length c), (fun (_ : World) (v : Value) => v = .int .i64 (cost (fls es) : Nat)), (fun (_ : World) (v : Value) => v = .bool false), (fun (_ : World) (v : Value) => v = .bool false), (fun (_ : World) (v : Value) => v = .bool false), (fun (_ : World) (v : Value) => v = .agg #[.slice A es.length c]), (fun (_ : World) (v : Value) => v = .agg #[.slice A es.length c]), (CpF w3.heap.size (fls es)), (fun (_ : World) (v : Value) => v = .bool true), (fun (_ : World) (v : Value) => v = .bool false), (fun (_ : World) (v : Value) => v = .bool false)])
      (G.of_stays _ ?_) ?_ (G.each_ops ?_) ?_
    · exact ⟨(fun w w' v h k => h), (fun w w' v h k => by first | exact h | exact G.keep_bs h k | exact Ls.below h k | exact CopP.fresh h k | exact AggP.fresh h k | exact SrcP.fresh h k | exact Bs.below h k | exact ClP.fresh h k | exact Emp.fresh h k | exact LitF.fresh h k | exact ObP.fresh h k | exact CpF.fresh h k | (obtain ⟨x1, x2, F', hb⟩ := h; exact ⟨x1, x2, F', hb.below k⟩)), (fun w w' v h k => h), (fun w w' v h k => h), (fun w w' v h k => h), (fun w w' v h k => h), (fun w w' v h k => h), (fun w w' v h k => by first | exact h | exact G.keep_bs h k | exact Ls.below h k | exact CopP.fresh h k | exact AggP.fresh h k | exact SrcP.fresh h k | exact Bs.below h k | exact ClP.fresh h k | exact Emp.fresh h k | exact LitF.fresh h k | exact ObP.fresh h k | exact CpF.fresh h k | (obtain ⟨x1, x2, F', hb⟩ := h; exact ⟨x1, x2, F', hb.below k⟩)), (fun w w' v h k => h), (fun w w' v h k => h), (fun w w' v h k => h), (fun w w' v h k => h), (fun w w' v h k => h), (fun w w' v h k => h), (fun w w' v h k => h), (fun w w' v h k => h), (fun w w' v h k => h), (fun w w' v h k => by first | exact h | exact G.keep_bs h k | exact Ls.below h k | exact CopP.fresh h k | exact AggP.fresh h k | exact SrcP.fresh h k | exact Bs.below h k | exact ClP.fresh h k | exact Emp.fresh h k | exact LitF.fresh h k | exact ObP.fresh h k | exact CpF.fresh h k | (obtain ⟨x1, x2, F', hb⟩ := h; exact ⟨x1, x2, F', hb.below k⟩)), (fun w w' v h k => h), (fun w w' v h k => h), (fun w w' v h k => h), trivial⟩
    · intro i o hi hd; exact absurd hd (G.no_none (by kernel_rfl) hi)
    · refine ⟨?_, ?_, ?_, ?_, ?_, ?_, ?_, ?_, ?_, ?_, ?_, ?_, ?_, ?_, ?_, ?_, ?_, ?_, ?_, ?_, ?_, trivial⟩
      all_goals intro a wq hT hS hp
      all_goals (have hT' : Below w3.heap.size w3 wq := below_tr (Below.refl _ _).drew hT; have k0 := cell_of (heap_bl hT' HX3.out) 0; simp at k0)
      · refine G.wanted_yes (G.wanted_plain rfl) ?_
        have e2 : a.tmps[2]?.getD undef = .pointer (some ⟨w.heap.size, 0, none⟩) := hS.at_ 2 rfl
        exact G.st_val (v := .agg #[.slice A es.length c]) (w' := wq) (by simp [execOp, go_sem, e2, k0] <;> omega) ⟨_, rfl, Below.refl _ _, rfl⟩
      · refine G.wanted_yes (G.wanted_plain rfl) ?_
        have e23 : a.tmps[23]?.getD undef = .agg #[.slice A es.length c] := hp ⟨0, .data⟩ (by simp) rfl _ rfl
        refine G.st_call (f := 13) (args := #[.agg #[.slice A es.length c]]) (by simp [execOp, go_sem, e23]) ((copied_any _ es wq _ (HS3.out.below hT') (by omega) (fun e he => Nat.le_trans (HBL.out e he) (by omega))).mono ?_); rintro e w' ⟨v', es', rfl, hfl, ho, hb⟩; exact ⟨_, rfl, _, rfl, hb, v', es', rfl, hfl, (ho.low hT'.size).fs⟩
      · refine G.wanted_yes (G.wanted_plain rfl) ?_
        have q24 : (CpF w3.heap.size (fls es)) wq (G.slot a (some 24)) := hp ⟨1, .data⟩ (by simp) rfl _ rfl
        obtain ⟨v', es', hv, hfl, hs⟩ := q24; have e24 : a.tmps[24]?.getD undef = .agg #[v'] := hv; refine G.st_call (f := 17) (args := #[.agg #[v']]) (by simp [execOp, go_sem, e24]) ((check_any v' es' wq _ hs (by rw [hfl]; omega)).mono fun e w' ⟨he, hB⟩ => ⟨_, he, _, rfl, hB, by rw [hfl, HCK.out]; rfl⟩)
      · refine G.wanted_yes (G.wanted_plain rfl) ?_
        have e6 : a.tmps[6]?.getD undef = .int .i64 150 := hS.at_ 6 rfl
        exact G.st_val (v := .int .i64 150) (w' := wq) (by simp [execOp, go_sem, e6, k0] <;> omega) ⟨_, rfl, Below.refl _ _, rfl⟩
      · refine G.wanted_yes (G.wanted_plain rfl) ?_
        have e25 : a.tmps[25]?.getD undef = .int .i64 150 := hp ⟨2, .data⟩ (by simp) rfl _ rfl
        have e26 : a.tmps[26]?.getD undef = .int .i64 150 := hp ⟨3, .data⟩ (by simp) rfl _ rfl
        exact G.st_val (v := .bool false) (w' := wq) (by simp [execOp, go_sem, e25, e26, k0] <;> omega) ⟨_, rfl, Below.refl _ _, rfl⟩
      · refine G.wanted_yes (G.wanted_plain rfl) ?_
        have e27 : a.tmps[27]?.getD undef = .bool false := hp ⟨4, .data⟩ (by simp) rfl _ rfl
        exact G.st_val (v := .bool false) (w' := wq) (by simp [execOp, go_sem, e27, k0] <;> omega) ⟨_, rfl, Below.refl _ _, rfl⟩
      · refine G.wanted_yes (G.wanted_guard rfl (G.yielded_of rfl rfl (hp ⟨5, .guard⟩ (by simp) rfl _ rfl))) ?_
        have e2 : a.tmps[2]?.getD undef = .pointer (some ⟨w.heap.size, 0, none⟩) := hS.at_ 2 rfl
        exact G.st_val (v := .agg #[.slice A es.length c]) (w' := wq) (by simp [execOp, go_sem, e2, k0] <;> omega) ⟨_, rfl, Below.refl _ _, rfl⟩
      · refine G.wanted_yes (G.wanted_guard rfl (G.yielded_of rfl rfl (hp ⟨5, .chain⟩ (by simp) rfl _ rfl))) ?_
        have e29 : a.tmps[29]?.getD undef = .agg #[.slice A es.length c] := hp ⟨6, .data⟩ (by simp) rfl _ rfl
        refine G.st_call (f := 13) (args := #[.agg #[.slice A es.length c]]) (by simp [execOp, go_sem, e29]) ((copied_any _ es wq _ (HS3.out.below hT') (by omega) (fun e he => Nat.le_trans (HBL.out e he) (by omega))).mono ?_); rintro e w' ⟨v', es', rfl, hfl, ho, hb⟩; exact ⟨_, rfl, _, rfl, hb, v', es', rfl, hfl, (ho.low hT'.size).fs⟩
      · refine G.wanted_yes (G.wanted_guard rfl (G.yielded_of rfl rfl (hp ⟨5, .guard⟩ (by simp) rfl _ rfl))) ?_
        have q30 : (CpF w3.heap.size (fls es)) wq (G.slot a (some 30)) := hp ⟨7, .data⟩ (by simp) rfl _ rfl
        obtain ⟨v', es', hv, hfl, hs⟩ := q30; have e30 : a.tmps[30]?.getD undef = .agg #[v'] := hv; refine G.st_call (f := 21) (args := #[.agg #[v']]) (by simp [execOp, go_sem, e30]) ((cost_any v' es' wq _ hs (by rw [hfl]; omega)).mono fun e w' ⟨he, hB⟩ => ⟨_, he, _, rfl, hB, by rw [hfl]; rfl⟩)
      · refine G.wanted_yes (G.wanted_guard rfl (G.yielded_of rfl rfl (hp ⟨5, .guard⟩ (by simp) rfl _ rfl))) ?_
        have e2 : a.tmps[2]?.getD undef = .pointer (some ⟨w.heap.size, 0, none⟩) := hS.at_ 2 rfl
        exact G.st_val (v := .pointer (some ⟨w.heap.size, 0, none⟩)) (w' := wq) (by simp [execOp, go_sem, e2, k0] <;> omega) ⟨_, rfl, Below.refl _ _, rfl⟩
      · refine G.wanted_yes (G.wanted_guard rfl (G.yielded_of rfl rfl (hp ⟨5, .guard⟩ (by simp) rfl _ rfl))) ?_
        have e32 : a.tmps[32]?.getD undef = .pointer (some ⟨w.heap.size, 0, none⟩) := hp ⟨9, .data⟩ (by simp) rfl _ rfl
        exact G.st_val (v := .slice A es.length c) (w' := wq) (by simp [execOp, go_sem, e32, k0] <;> omega) ⟨_, rfl, Below.refl _ _, rfl⟩
      · refine G.wanted_yes (G.wanted_guard rfl (G.yielded_of rfl rfl (hp ⟨5, .guard⟩ (by simp) rfl _ rfl))) ?_
        have e33 : a.tmps[33]?.getD undef = .slice A es.length c := hp ⟨10, .data⟩ (by simp) rfl _ rfl
        refine G.st_call (f := 22) (args := #[.slice A es.length c]) (by simp [execOp, go_sem, e33]) ((rcost_any _ es wq _ (HS3.out.below hT') (by omega)).mono fun e w' ⟨he, hB⟩ => ⟨_, he, _, rfl, hB, rfl⟩)
      · refine G.wanted_yes (G.wanted_guard rfl (G.yielded_of rfl rfl (hp ⟨5, .guard⟩ (by simp) rfl _ rfl))) ?_
        have e31 : a.tmps[31]?.getD undef = .int .i64 (cost (fls es) : Nat) := hp ⟨8, .data⟩ (by simp) rfl _ rfl
        have e34 : a.tmps[34]?.getD undef = .int .i64 (cost (fls es) : Nat) := hp ⟨11, .data⟩ (by simp) rfl _ rfl
        exact G.st_val (v := .bool false) (w' := wq) (by simp [execOp, go_sem, e31, e34, k0] <;> omega) ⟨_, rfl, Below.refl _ _, rfl⟩
      · refine G.wanted_yes (G.wanted_plain rfl) ?_
        have e28 : a.tmps[28]?.getD undef = .bool false := hp ⟨5, .data⟩ (by simp) rfl _ rfl
        have e35 : a.tmps[35]?.getD undef = .bool false := hp ⟨12, .data⟩ (by simp) rfl _ rfl
        exact G.st_val (v := .bool false) (w' := wq) (by simp [execOp, go_sem, e28, e35, k0] <;> omega) ⟨_, rfl, Below.refl _ _, rfl⟩
      · refine G.wanted_yes (G.wanted_plain rfl) ?_
        have e36 : a.tmps[36]?.getD undef = .bool false := hp ⟨13, .data⟩ (by simp) rfl _ rfl
        exact G.st_val (v := .bool false) (w' := wq) (by simp [execOp, go_sem, e36, k0] <;> omega) ⟨_, rfl, Below.refl _ _, rfl⟩
      · refine G.wanted_yes (G.wanted_guard rfl (G.yielded_of rfl rfl (hp ⟨14, .guard⟩ (by simp) rfl _ rfl))) ?_
        have e2 : a.tmps[2]?.getD undef = .pointer (some ⟨w.heap.size, 0, none⟩) := hS.at_ 2 rfl
        exact G.st_val (v := .agg #[.slice A es.length c]) (w' := wq) (by simp [execOp, go_sem, e2, k0] <;> omega) ⟨_, rfl, Below.refl _ _, rfl⟩
      · refine G.wanted_yes (G.wanted_guard rfl (G.yielded_of rfl rfl (hp ⟨14, .guard⟩ (by simp) rfl _ rfl))) ?_
        have e2 : a.tmps[2]?.getD undef = .pointer (some ⟨w.heap.size, 0, none⟩) := hS.at_ 2 rfl
        exact G.st_val (v := .agg #[.slice A es.length c]) (w' := wq) (by simp [execOp, go_sem, e2, k0] <;> omega) ⟨_, rfl, Below.refl _ _, rfl⟩
      · refine G.wanted_yes (G.wanted_guard rfl (G.yielded_of rfl rfl (hp ⟨14, .chain⟩ (by simp) rfl _ rfl))) ?_
        have e39 : a.tmps[39]?.getD undef = .agg #[.slice A es.length c] := hp ⟨16, .data⟩ (by simp) rfl _ rfl
        refine G.st_call (f := 13) (args := #[.agg #[.slice A es.length c]]) (by simp [execOp, go_sem, e39]) ((copied_any _ es wq _ (HS3.out.below hT') (by omega) (fun e he => Nat.le_trans (HBL.out e he) (by omega))).mono ?_); rintro e w' ⟨v', es', rfl, hfl, ho, hb⟩; exact ⟨_, rfl, _, rfl, hb, v', es', rfl, hfl, (ho.low hT'.size).fs⟩
      · refine G.wanted_yes (G.wanted_guard rfl (G.yielded_of rfl rfl (hp ⟨14, .guard⟩ (by simp) rfl _ rfl))) ?_
        have e38 : a.tmps[38]?.getD undef = .agg #[.slice A es.length c] := hp ⟨15, .data⟩ (by simp) rfl _ rfl
        have q40 : (CpF w3.heap.size (fls es)) wq (G.slot a (some 40)) := hp ⟨17, .data⟩ (by simp) rfl _ rfl
        obtain ⟨v', es', hv, hfl, hs⟩ := q40; have e40 : a.tmps[40]?.getD undef = .agg #[v'] := hv; refine G.st_call (f := 20) (args := #[.agg #[.slice A es.length c], .agg #[v']]) (by simp [execOp, go_sem, e38, e40]) ((fsame_any _ v' es es' wq _ _ (HS3.out.below hT') hs).mono fun e w' ⟨he, hB⟩ => ⟨_, he, _, rfl, hB, by show Value.bool _ = Value.bool true; rw [hfl]; simp⟩)
      · refine G.wanted_yes (G.wanted_guard rfl (G.yielded_of rfl rfl (hp ⟨14, .guard⟩ (by simp) rfl _ rfl))) ?_
        have e41 : a.tmps[41]?.getD undef = .bool true := hp ⟨18, .data⟩ (by simp) rfl _ rfl
        exact G.st_val (v := .bool false) (w' := wq) (by simp [execOp, go_sem, e41, k0] <;> omega) ⟨_, rfl, Below.refl _ _, rfl⟩
      · refine G.wanted_yes (G.wanted_plain rfl) ?_
        have e37 : a.tmps[37]?.getD undef = .bool false := hp ⟨14, .data⟩ (by simp) rfl _ rfl
        have e42 : a.tmps[42]?.getD undef = .bool false := hp ⟨19, .data⟩ (by simp) rfl _ rfl
        exact G.st_val (v := .bool false) (w' := wq) (by simp [execOp, go_sem, e37, e42, k0] <;> omega) ⟨_, rfl, Below.refl _ _, rfl⟩
    · intro a wq hT hS hp
      have e23 : G.slot a (some 23) = .agg #[.slice A es.length c] := hp 0 _ rfl
      have q24 : (CpF w3.heap.size (fls es)) wq (G.slot a (some 24)) := hp 1 _ rfl
      have e25 : G.slot a (some 25) = .int .i64 150 := hp 2 _ rfl
      have e26 : G.slot a (some 26) = .int .i64 150 := hp 3 _ rfl
      have e27 : G.slot a (some 27) = .bool false := hp 4 _ rfl
      have e28 : G.slot a (some 28) = .bool false := hp 5 _ rfl
      have e29 : G.slot a (some 29) = .agg #[.slice A es.length c] := hp 6 _ rfl
      have q30 : (CpF w3.heap.size (fls es)) wq (G.slot a (some 30)) := hp 7 _ rfl
      have e31 : G.slot a (some 31) = .int .i64 (cost (fls es) : Nat) := hp 8 _ rfl
      have e32 : G.slot a (some 32) = .pointer (some ⟨w.heap.size, 0, none⟩) := hp 9 _ rfl
      have e33 : G.slot a (some 33) = .slice A es.length c := hp 10 _ rfl
      have e34 : G.slot a (some 34) = .int .i64 (cost (fls es) : Nat) := hp 11 _ rfl
      have e35 : G.slot a (some 35) = .bool false := hp 12 _ rfl
      have e36 : G.slot a (some 36) = .bool false := hp 13 _ rfl
      have e37 : G.slot a (some 37) = .bool false := hp 14 _ rfl
      have e38 : G.slot a (some 38) = .agg #[.slice A es.length c] := hp 15 _ rfl
      have e39 : G.slot a (some 39) = .agg #[.slice A es.length c] := hp 16 _ rfl
      have q40 : (CpF w3.heap.size (fls es)) wq (G.slot a (some 40)) := hp 17 _ rfl
      have e41 : G.slot a (some 41) = .bool true := hp 18 _ rfl
      have e42 : G.slot a (some 42) = .bool false := hp 19 _ rfl
      have e43 : G.slot a (some 43) = .bool false := hp 20 _ rfl
      have ha := G.act_of hS
      simp only [List.foldl_cons, List.foldl_nil, Act.put, List.setIfInBounds_toArray, List.set_cons_succ, List.set_cons_zero, e23, e25, e26, e27, e28, e29, e31, e32, e33, e34, e35, e36, e37, e38, e39, e41, e42, e43] at ha
      generalize G.slot a (some 24) = s24 at q24 ha
      generalize G.slot a (some 30) = s30 at q30 ha
      generalize G.slot a (some 40) = s40 at q40 ha
      clear hp hS e23 e25 e26 e27 e28 e29 e31 e32 e33 e34 e35 e36 e37 e38 e39 e41 e42 e43
      subst ha
      have hT2 : Below w3.heap.size w3 wq := below_tr (Below.refl _ _).drew hT
      have HTq := Lib.hid hT2
      clear hT hT2
      obtain ⟨W4, rfl⟩ : ∃ W4, W4 = wq := ⟨_, rfl⟩
      go_wp2
      go_loopw [46] (fun i wr => ∃ k : Nat, k ≤ ss.length ∧ i = .int .i64 k ∧ Below w3.heap.size w3 wr) (fun i _ => ss.length - (intOf i).toNat)
      case atStart => exact ⟨0, Nat.zero_le _, rfl, HTq.out⟩
      case round =>
        obtain ⟨k, hk, rfl, hbr⟩ := hrel
        have HBR := Lib.hid hbr
        by_cases hlt : k < ss.length
        · have hrow := Sl.below HN3.out (by decide) hbr
          obtain ⟨b, o, hA, -, hbb, hcc⟩ := Sl.cells hrow (by omega) (by decide)
          subst hA
          have hx := hcc k (.string ⟨ss[k].toArray⟩) (by simp [List.getElem?_eq_getElem hlt])
          have q1 := cell_of (heap_bl hbr HX3.out) 0
          simp at q1
          generalize ss[k] = s at *
          by_cases h20 : k = 20
          · subst h20
            clear hbr hcc hrow
            go_wp2
            go_ret
            exact ⟨rfl, below_tr HBW.out HBR.out⟩
          · have HFI := Lib.hid (find_any s _ es wr _ (HS3.out.below hbr) (by omega))
            have h20d : ((k : Int) == 20) = false := by simp; omega
            clear hbr hcc hrow
            go_wp2_with fail
            refine HFI.out.mono ?_
            rintro e w5 ⟨rfl, hb5⟩
            have hb35 := below_tr HBR.out hb5
            have HB5 := Lib.hid hb35
            have q5 := cell_of (heap_bl hb35 HX3.out) 0
            simp at q5
            have HG := Lib.hid (get_any s _ es w5 _ (HS3.out.below hb35) (by omega))
            clear hb35 hb5 HFI q1
            go_wp2_with fail
            refine HG.out.mono ?_
            rintro e w6 ⟨vb, rfl, ho6, hb6⟩
            have hb36 := below_tr HB5.out hb6
            have HB6 := Lib.hid hb36
            have q6 := cell_of (heap_bl hb36 HX3.out) 0
            simp at q6
            have hbs := ho6.bs
            obtain ⟨A6, c6, rfl, -, -, -, -⟩ := hbs.open_
            have HV6 := Lib.hid hbs
      
            have h1 : findP (fls es) s = 0 := by unfold findP; rw [if_neg (by rw [HOK.out]; decide)]
            have h2 : findT (fls es) s = false := by unfold findT; rw [HOK.out]; rfl
            have h3 : getE (fls es) s = 150 := by unfold getE; rw [if_neg (by rw [HOK.out]; decide)]
            have h4 : getB (fls es) s = [] := by unfold getB; rw [h3, if_neg (by decide)]
            rw [h1, h2, h3, h4]
            clear hb36 ho6 hbs h1 h2 h3 h4 HG q5 HV6
            go_wp2
            refine ⟨⟨k + 1, by omega, by go_num, HB6.out⟩, by simp only [intOf]; omega⟩
        · obtain rfl : k = ss.length := by omega
          clear hbr
          go_wp2
          go_ret
          exact ⟨rfl, below_tr HBW.out HBR.out⟩
  case true =>
    have HCK := Lib.hid (show ckErr (fls es) = 0 from ck_yes hok)
    have HOK := Lib.hid hok
    clear hok
    go_wp2
    refine G.region_inv (by kernel_rfl) (by kernel_rfl) (fun w w' => Below w.heap.size w w') (fun _ _ _ h k => below_tr h k) (fun w _ => Below.refl _ _) (Below.refl _ _)
      (G.of [(fun (_ : World) (v : Value) => v = .agg #[.slice A es.length c]), (CpF w3.heap.size (fls es)), (fun (_ : World) (v : Value) => v = .int .i64 0), (fun (_ : World) (v : Value) => v = .int .i64 0), (fun (_ : World) (v : Value) => v = .bool false), (fun (_ : World) (v : Value) => v = .bool false), (fun (_ : World) (v : Value) => v = .agg #[.slice A es.length c]), (CpF w3.heap.size (fls es)), (fun (_ : World) (v : Value) => v = .int .i64 (cost (fls es) : Nat)), (fun (_ : World) (v : Value) => v = .pointer (some ⟨w.heap.size, 0, none⟩)), (fun (_ : World) (v : Value) => v = .slice A es.length c), (fun (_ : World) (v : Value) => v = .int .i64 (cost (fls es) : Nat)), (fun (_ : World) (v : Value) => v = .bool false), (fun (_ : World) (v : Value) => v = .bool false), (fun (_ : World) (v : Value) => v = .bool false), (fun (_ : World) (v : Value) => v = .agg #[.slice A es.length c]), (fun (_ : World) (v : Value) => v = .agg #[.slice A es.length c]), (CpF w3.heap.size (fls es)), (fun (_ : World) (v : Value) => v = .bool true), (fun (_ : World) (v : Value) => v = .bool false), (fun (_ : World) (v : Value) => v = .bool false)])
      (G.of_stays _ ?_) ?_ (G.each_ops ?_) ?_
    · exact ⟨(fun w w' v h k => h), (fun w w' v h k => by first | exact h | exact G.keep_bs h k | exact Ls.below h k | exact CopP.fresh h k | exact AggP.fresh h k | exact SrcP.fresh h k | exact Bs.below h k | exact ClP.fresh h k | exact Emp.fresh h k | exact LitF.fresh h k | exact ObP.fresh h k | exact CpF.fresh h k | (obtain ⟨x1, x2, F', hb⟩ := h; exact ⟨x1, x2, F', hb.below k⟩)), (fun w w' v h k => h), (fun w w' v h k => h), (fun w w' v h k => h), (fun w w' v h k => h), (fun w w' v h k => h), (fun w w' v h k => by first | exact h | exact G.keep_bs h k | exact Ls.below h k | exact CopP.fresh h k | exact AggP.fresh h k | exact SrcP.fresh h k | exact Bs.below h k | exact ClP.fresh h k | exact Emp.fresh h k | exact LitF.fresh h k | exact ObP.fresh h k | exact CpF.fresh h k | (obtain ⟨x1, x2, F', hb⟩ := h; exact ⟨x1, x2, F', hb.below k⟩)), (fun w w' v h k => h), (fun w w' v h k => h), (fun w w' v h k => h), (fun w w' v h k => h), (fun w w' v h k => h), (fun w w' v h k => h), (fun w w' v h k => h), (fun w w' v h k => h), (fun w w' v h k => h), (fun w w' v h k => by first | exact h | exact G.keep_bs h k | exact Ls.below h k | exact CopP.fresh h k | exact AggP.fresh h k | exact SrcP.fresh h k | exact Bs.below h k | exact ClP.fresh h k | exact Emp.fresh h k | exact LitF.fresh h k | exact ObP.fresh h k | exact CpF.fresh h k | (obtain ⟨x1, x2, F', hb⟩ := h; exact ⟨x1, x2, F', hb.below k⟩)), (fun w w' v h k => h), (fun w w' v h k => h), (fun w w' v h k => h), trivial⟩
    · intro i o hi hd; exact absurd hd (G.no_none (by kernel_rfl) hi)
    · refine ⟨?_, ?_, ?_, ?_, ?_, ?_, ?_, ?_, ?_, ?_, ?_, ?_, ?_, ?_, ?_, ?_, ?_, ?_, ?_, ?_, ?_, trivial⟩
      all_goals intro a wq hT hS hp
      all_goals (have hT' : Below w3.heap.size w3 wq := below_tr (Below.refl _ _).drew hT; have k0 := cell_of (heap_bl hT' HX3.out) 0; simp at k0)
      · refine G.wanted_yes (G.wanted_plain rfl) ?_
        have e2 : a.tmps[2]?.getD undef = .pointer (some ⟨w.heap.size, 0, none⟩) := hS.at_ 2 rfl
        exact G.st_val (v := .agg #[.slice A es.length c]) (w' := wq) (by simp [execOp, go_sem, e2, k0] <;> omega) ⟨_, rfl, Below.refl _ _, rfl⟩
      · refine G.wanted_yes (G.wanted_plain rfl) ?_
        have e23 : a.tmps[23]?.getD undef = .agg #[.slice A es.length c] := hp ⟨0, .data⟩ (by simp) rfl _ rfl
        refine G.st_call (f := 13) (args := #[.agg #[.slice A es.length c]]) (by simp [execOp, go_sem, e23]) ((copied_any _ es wq _ (HS3.out.below hT') (by omega) (fun e he => Nat.le_trans (HBL.out e he) (by omega))).mono ?_); rintro e w' ⟨v', es', rfl, hfl, ho, hb⟩; exact ⟨_, rfl, _, rfl, hb, v', es', rfl, hfl, (ho.low hT'.size).fs⟩
      · refine G.wanted_yes (G.wanted_plain rfl) ?_
        have q24 : (CpF w3.heap.size (fls es)) wq (G.slot a (some 24)) := hp ⟨1, .data⟩ (by simp) rfl _ rfl
        obtain ⟨v', es', hv, hfl, hs⟩ := q24; have e24 : a.tmps[24]?.getD undef = .agg #[v'] := hv; refine G.st_call (f := 17) (args := #[.agg #[v']]) (by simp [execOp, go_sem, e24]) ((check_any v' es' wq _ hs (by rw [hfl]; omega)).mono fun e w' ⟨he, hB⟩ => ⟨_, he, _, rfl, hB, by rw [hfl, HCK.out]; rfl⟩)
      · refine G.wanted_yes (G.wanted_plain rfl) ?_
        have e6 : a.tmps[6]?.getD undef = .int .i64 0 := hS.at_ 6 rfl
        exact G.st_val (v := .int .i64 0) (w' := wq) (by simp [execOp, go_sem, e6, k0] <;> omega) ⟨_, rfl, Below.refl _ _, rfl⟩
      · refine G.wanted_yes (G.wanted_plain rfl) ?_
        have e25 : a.tmps[25]?.getD undef = .int .i64 0 := hp ⟨2, .data⟩ (by simp) rfl _ rfl
        have e26 : a.tmps[26]?.getD undef = .int .i64 0 := hp ⟨3, .data⟩ (by simp) rfl _ rfl
        exact G.st_val (v := .bool false) (w' := wq) (by simp [execOp, go_sem, e25, e26, k0] <;> omega) ⟨_, rfl, Below.refl _ _, rfl⟩
      · refine G.wanted_yes (G.wanted_plain rfl) ?_
        have e27 : a.tmps[27]?.getD undef = .bool false := hp ⟨4, .data⟩ (by simp) rfl _ rfl
        exact G.st_val (v := .bool false) (w' := wq) (by simp [execOp, go_sem, e27, k0] <;> omega) ⟨_, rfl, Below.refl _ _, rfl⟩
      · refine G.wanted_yes (G.wanted_guard rfl (G.yielded_of rfl rfl (hp ⟨5, .guard⟩ (by simp) rfl _ rfl))) ?_
        have e2 : a.tmps[2]?.getD undef = .pointer (some ⟨w.heap.size, 0, none⟩) := hS.at_ 2 rfl
        exact G.st_val (v := .agg #[.slice A es.length c]) (w' := wq) (by simp [execOp, go_sem, e2, k0] <;> omega) ⟨_, rfl, Below.refl _ _, rfl⟩
      · refine G.wanted_yes (G.wanted_guard rfl (G.yielded_of rfl rfl (hp ⟨5, .chain⟩ (by simp) rfl _ rfl))) ?_
        have e29 : a.tmps[29]?.getD undef = .agg #[.slice A es.length c] := hp ⟨6, .data⟩ (by simp) rfl _ rfl
        refine G.st_call (f := 13) (args := #[.agg #[.slice A es.length c]]) (by simp [execOp, go_sem, e29]) ((copied_any _ es wq _ (HS3.out.below hT') (by omega) (fun e he => Nat.le_trans (HBL.out e he) (by omega))).mono ?_); rintro e w' ⟨v', es', rfl, hfl, ho, hb⟩; exact ⟨_, rfl, _, rfl, hb, v', es', rfl, hfl, (ho.low hT'.size).fs⟩
      · refine G.wanted_yes (G.wanted_guard rfl (G.yielded_of rfl rfl (hp ⟨5, .guard⟩ (by simp) rfl _ rfl))) ?_
        have q30 : (CpF w3.heap.size (fls es)) wq (G.slot a (some 30)) := hp ⟨7, .data⟩ (by simp) rfl _ rfl
        obtain ⟨v', es', hv, hfl, hs⟩ := q30; have e30 : a.tmps[30]?.getD undef = .agg #[v'] := hv; refine G.st_call (f := 21) (args := #[.agg #[v']]) (by simp [execOp, go_sem, e30]) ((cost_any v' es' wq _ hs (by rw [hfl]; omega)).mono fun e w' ⟨he, hB⟩ => ⟨_, he, _, rfl, hB, by rw [hfl]; rfl⟩)
      · refine G.wanted_yes (G.wanted_guard rfl (G.yielded_of rfl rfl (hp ⟨5, .guard⟩ (by simp) rfl _ rfl))) ?_
        have e2 : a.tmps[2]?.getD undef = .pointer (some ⟨w.heap.size, 0, none⟩) := hS.at_ 2 rfl
        exact G.st_val (v := .pointer (some ⟨w.heap.size, 0, none⟩)) (w' := wq) (by simp [execOp, go_sem, e2, k0] <;> omega) ⟨_, rfl, Below.refl _ _, rfl⟩
      · refine G.wanted_yes (G.wanted_guard rfl (G.yielded_of rfl rfl (hp ⟨5, .guard⟩ (by simp) rfl _ rfl))) ?_
        have e32 : a.tmps[32]?.getD undef = .pointer (some ⟨w.heap.size, 0, none⟩) := hp ⟨9, .data⟩ (by simp) rfl _ rfl
        exact G.st_val (v := .slice A es.length c) (w' := wq) (by simp [execOp, go_sem, e32, k0] <;> omega) ⟨_, rfl, Below.refl _ _, rfl⟩
      · refine G.wanted_yes (G.wanted_guard rfl (G.yielded_of rfl rfl (hp ⟨5, .guard⟩ (by simp) rfl _ rfl))) ?_
        have e33 : a.tmps[33]?.getD undef = .slice A es.length c := hp ⟨10, .data⟩ (by simp) rfl _ rfl
        refine G.st_call (f := 22) (args := #[.slice A es.length c]) (by simp [execOp, go_sem, e33]) ((rcost_any _ es wq _ (HS3.out.below hT') (by omega)).mono fun e w' ⟨he, hB⟩ => ⟨_, he, _, rfl, hB, rfl⟩)
      · refine G.wanted_yes (G.wanted_guard rfl (G.yielded_of rfl rfl (hp ⟨5, .guard⟩ (by simp) rfl _ rfl))) ?_
        have e31 : a.tmps[31]?.getD undef = .int .i64 (cost (fls es) : Nat) := hp ⟨8, .data⟩ (by simp) rfl _ rfl
        have e34 : a.tmps[34]?.getD undef = .int .i64 (cost (fls es) : Nat) := hp ⟨11, .data⟩ (by simp) rfl _ rfl
        exact G.st_val (v := .bool false) (w' := wq) (by simp [execOp, go_sem, e31, e34, k0] <;> omega) ⟨_, rfl, Below.refl _ _, rfl⟩
      · refine G.wanted_yes (G.wanted_plain rfl) ?_
        have e28 : a.tmps[28]?.getD undef = .bool false := hp ⟨5, .data⟩ (by simp) rfl _ rfl
        have e35 : a.tmps[35]?.getD undef = .bool false := hp ⟨12, .data⟩ (by simp) rfl _ rfl
        exact G.st_val (v := .bool false) (w' := wq) (by simp [execOp, go_sem, e28, e35, k0] <;> omega) ⟨_, rfl, Below.refl _ _, rfl⟩
      · refine G.wanted_yes (G.wanted_plain rfl) ?_
        have e36 : a.tmps[36]?.getD undef = .bool false := hp ⟨13, .data⟩ (by simp) rfl _ rfl
        exact G.st_val (v := .bool false) (w' := wq) (by simp [execOp, go_sem, e36, k0] <;> omega) ⟨_, rfl, Below.refl _ _, rfl⟩
      · refine G.wanted_yes (G.wanted_guard rfl (G.yielded_of rfl rfl (hp ⟨14, .guard⟩ (by simp) rfl _ rfl))) ?_
        have e2 : a.tmps[2]?.getD undef = .pointer (some ⟨w.heap.size, 0, none⟩) := hS.at_ 2 rfl
        exact G.st_val (v := .agg #[.slice A es.length c]) (w' := wq) (by simp [execOp, go_sem, e2, k0] <;> omega) ⟨_, rfl, Below.refl _ _, rfl⟩
      · refine G.wanted_yes (G.wanted_guard rfl (G.yielded_of rfl rfl (hp ⟨14, .guard⟩ (by simp) rfl _ rfl))) ?_
        have e2 : a.tmps[2]?.getD undef = .pointer (some ⟨w.heap.size, 0, none⟩) := hS.at_ 2 rfl
        exact G.st_val (v := .agg #[.slice A es.length c]) (w' := wq) (by simp [execOp, go_sem, e2, k0] <;> omega) ⟨_, rfl, Below.refl _ _, rfl⟩
      · refine G.wanted_yes (G.wanted_guard rfl (G.yielded_of rfl rfl (hp ⟨14, .chain⟩ (by simp) rfl _ rfl))) ?_
        have e39 : a.tmps[39]?.getD undef = .agg #[.slice A es.length c] := hp ⟨16, .data⟩ (by simp) rfl _ rfl
        refine G.st_call (f := 13) (args := #[.agg #[.slice A es.length c]]) (by simp [execOp, go_sem, e39]) ((copied_any _ es wq _ (HS3.out.below hT') (by omega) (fun e he => Nat.le_trans (HBL.out e he) (by omega))).mono ?_); rintro e w' ⟨v', es', rfl, hfl, ho, hb⟩; exact ⟨_, rfl, _, rfl, hb, v', es', rfl, hfl, (ho.low hT'.size).fs⟩
      · refine G.wanted_yes (G.wanted_guard rfl (G.yielded_of rfl rfl (hp ⟨14, .guard⟩ (by simp) rfl _ rfl))) ?_
        have e38 : a.tmps[38]?.getD undef = .agg #[.slice A es.length c] := hp ⟨15, .data⟩ (by simp) rfl _ rfl
        have q40 : (CpF w3.heap.size (fls es)) wq (G.slot a (some 40)) := hp ⟨17, .data⟩ (by simp) rfl _ rfl
        obtain ⟨v', es', hv, hfl, hs⟩ := q40; have e40 : a.tmps[40]?.getD undef = .agg #[v'] := hv; refine G.st_call (f := 20) (args := #[.agg #[.slice A es.length c], .agg #[v']]) (by simp [execOp, go_sem, e38, e40]) ((fsame_any _ v' es es' wq _ _ (HS3.out.below hT') hs).mono fun e w' ⟨he, hB⟩ => ⟨_, he, _, rfl, hB, by show Value.bool _ = Value.bool true; rw [hfl]; simp⟩)
      · refine G.wanted_yes (G.wanted_guard rfl (G.yielded_of rfl rfl (hp ⟨14, .guard⟩ (by simp) rfl _ rfl))) ?_
        have e41 : a.tmps[41]?.getD undef = .bool true := hp ⟨18, .data⟩ (by simp) rfl _ rfl
        exact G.st_val (v := .bool false) (w' := wq) (by simp [execOp, go_sem, e41, k0] <;> omega) ⟨_, rfl, Below.refl _ _, rfl⟩
      · refine G.wanted_yes (G.wanted_plain rfl) ?_
        have e37 : a.tmps[37]?.getD undef = .bool false := hp ⟨14, .data⟩ (by simp) rfl _ rfl
        have e42 : a.tmps[42]?.getD undef = .bool false := hp ⟨19, .data⟩ (by simp) rfl _ rfl
        exact G.st_val (v := .bool false) (w' := wq) (by simp [execOp, go_sem, e37, e42, k0] <;> omega) ⟨_, rfl, Below.refl _ _, rfl⟩
    · intro a wq hT hS hp
      have e23 : G.slot a (some 23) = .agg #[.slice A es.length c] := hp 0 _ rfl
      have q24 : (CpF w3.heap.size (fls es)) wq (G.slot a (some 24)) := hp 1 _ rfl
      have e25 : G.slot a (some 25) = .int .i64 0 := hp 2 _ rfl
      have e26 : G.slot a (some 26) = .int .i64 0 := hp 3 _ rfl
      have e27 : G.slot a (some 27) = .bool false := hp 4 _ rfl
      have e28 : G.slot a (some 28) = .bool false := hp 5 _ rfl
      have e29 : G.slot a (some 29) = .agg #[.slice A es.length c] := hp 6 _ rfl
      have q30 : (CpF w3.heap.size (fls es)) wq (G.slot a (some 30)) := hp 7 _ rfl
      have e31 : G.slot a (some 31) = .int .i64 (cost (fls es) : Nat) := hp 8 _ rfl
      have e32 : G.slot a (some 32) = .pointer (some ⟨w.heap.size, 0, none⟩) := hp 9 _ rfl
      have e33 : G.slot a (some 33) = .slice A es.length c := hp 10 _ rfl
      have e34 : G.slot a (some 34) = .int .i64 (cost (fls es) : Nat) := hp 11 _ rfl
      have e35 : G.slot a (some 35) = .bool false := hp 12 _ rfl
      have e36 : G.slot a (some 36) = .bool false := hp 13 _ rfl
      have e37 : G.slot a (some 37) = .bool false := hp 14 _ rfl
      have e38 : G.slot a (some 38) = .agg #[.slice A es.length c] := hp 15 _ rfl
      have e39 : G.slot a (some 39) = .agg #[.slice A es.length c] := hp 16 _ rfl
      have q40 : (CpF w3.heap.size (fls es)) wq (G.slot a (some 40)) := hp 17 _ rfl
      have e41 : G.slot a (some 41) = .bool true := hp 18 _ rfl
      have e42 : G.slot a (some 42) = .bool false := hp 19 _ rfl
      have e43 : G.slot a (some 43) = .bool false := hp 20 _ rfl
      have ha := G.act_of hS
      simp only [List.foldl_cons, List.foldl_nil, Act.put, List.setIfInBounds_toArray, List.set_cons_succ, List.set_cons_zero, e23, e25, e26, e27, e28, e29, e31, e32, e33, e34, e35, e36, e37, e38, e39, e41, e42, e43] at ha
      generalize G.slot a (some 24) = s24 at q24 ha
      generalize G.slot a (some 30) = s30 at q30 ha
      generalize G.slot a (some 40) = s40 at q40 ha
      clear hp hS e23 e25 e26 e27 e28 e29 e31 e32 e33 e34 e35 e36 e37 e38 e39 e41 e42 e43
      subst ha
      have hT2 : Below w3.heap.size w3 wq := below_tr (Below.refl _ _).drew hT
      have HTq := Lib.hid hT2
      clear hT hT2
      obtain ⟨W4, rfl⟩ : ∃ W4, W4 = wq := ⟨_, rfl⟩
      go_wp2
      go_loopw [46] (fun i wr => ∃ k : Nat, k ≤ ss.length ∧ i = .int .i64 k ∧ Below w3.heap.size w3 wr) (fun i _ => ss.length - (intOf i).toNat)
      case atStart => exact ⟨0, Nat.zero_le _, rfl, HTq.out⟩
      case round =>
        obtain ⟨k, hk, rfl, hbr⟩ := hrel
        have HBR := Lib.hid hbr
        by_cases hlt : k < ss.length
        · have hrow := Sl.below HN3.out (by decide) hbr
          obtain ⟨b, o, hA, -, hbb, hcc⟩ := Sl.cells hrow (by omega) (by decide)
          subst hA
          have hx := hcc k (.string ⟨ss[k].toArray⟩) (by simp [List.getElem?_eq_getElem hlt])
          have q1 := cell_of (heap_bl hbr HX3.out) 0
          simp at q1
          generalize ss[k] = s at *
          by_cases h20 : k = 20
          · subst h20
            clear hbr hcc hrow
            go_wp2
            go_ret
            exact ⟨rfl, below_tr HBW.out HBR.out⟩
          · have HFI := Lib.hid (find_any s _ es wr _ (HS3.out.below hbr) (by omega))
            have h20d : ((k : Int) == 20) = false := by simp; omega
            clear hbr hcc hrow
            go_wp2_with fail
            refine HFI.out.mono ?_
            rintro e w5 ⟨rfl, hb5⟩
            have hb35 := below_tr HBR.out hb5
            have HB5 := Lib.hid hb35
            have q5 := cell_of (heap_bl hb35 HX3.out) 0
            simp at q5
            have HG := Lib.hid (get_any s _ es w5 _ (HS3.out.below hb35) (by omega))
            clear hb35 hb5 HFI q1
            go_wp2_with fail
            refine HG.out.mono ?_
            rintro e w6 ⟨vb, rfl, ho6, hb6⟩
            have hb36 := below_tr HB5.out hb6
            have HB6 := Lib.hid hb36
            have q6 := cell_of (heap_bl hb36 HX3.out) 0
            simp at q6
            have hbs := ho6.bs
            obtain ⟨A6, c6, rfl, -, -, -, -⟩ := hbs.open_
            have HV6 := Lib.hid hbs
      
            have HP := Lib.hid (rplace_any s _ es w6 _ (HS3.out.below hb36))
            have h1 : findP (fls es) s = place (fls es) s := by unfold findP; rw [if_pos HOK.out]
            have h2 : findT (fls es) s = there (fls es) s := by unfold findT; rw [HOK.out]; rfl
            rw [h1, h2]
            clear h1 h2
            cases ht : there (fls es) s
            · have h3 : getE (fls es) s = 4 := by unfold getE; rw [if_pos HOK.out, if_neg (by rw [ht]; decide)]
              have h4 : getB (fls es) s = [] := by unfold getB; rw [h3, if_neg (by decide)]
              rw [h3, h4]
              rw [ht] at HP
              clear hb36 ho6 hbs h3 h4 HG q5 HV6 ht
              obtain ⟨p, hp⟩ : ∃ p, place (fls es) s = p := ⟨_, rfl⟩
              rw [hp] at HP ⊢
              clear hp
              go_wp2_with fail
              refine HP.out.mono ?_
              rintro e w7 ⟨rfl, hb7⟩
              have hb37 := below_tr HB6.out hb7
              have HB7 := Lib.hid hb37
              have q7 := cell_of (heap_bl hb37 HX3.out) 0
              simp at q7
              clear hb37 hb7 HP q6
              go_wp2
              refine ⟨⟨k + 1, by omega, by go_num, HB7.out⟩, by simp only [intOf]; omega⟩
            · have hpl := there_lt ht
              rw [fls_len] at hpl
              have h3 : getE (fls es) s = 0 := by unfold getE; rw [if_pos HOK.out, if_pos ht]
              have h4 : getB (fls es) s = es[place (fls es) s].1.bytes := by unfold getB; rw [if_pos h3, List.getElem?_eq_getElem (by rw [fls_len]; exact hpl), fls_get es _ hpl]; rfl
              rw [h4] at HV6 ⊢
              rw [h3]
              rw [ht] at HP
              clear hb36 ho6 hbs h3 h4 HG q5 ht
              generalize place (fls es) s = p at *
              go_wp2_with fail
              refine HP.out.mono ?_
              rintro e w7 ⟨rfl, hb7⟩
              have hb37 := below_tr HB6.out hb7
              have HB7 := Lib.hid hb37
              have q7 := cell_of (heap_bl hb37 HX3.out) 0
              simp at q7
              obtain ⟨bF, oF, hA, hbF, r0, r1⟩ := fs_at (HS3.out.below hb37) p hpl
              subst hA
              have hvy := (HS3.out.below hb37).2 es[p] (List.getElem_mem hpl)
              have hly := HBL.out es[p] (List.getElem_mem hpl)
              generalize es[p] = y at *
              obtain ⟨y, vy⟩ := y
              dsimp only at *
              obtain ⟨Ay, cy, rfl, y1, y2, -, -⟩ := hvy.open_
              replace y2 : cy ≤ 9223372036854775807 := by simpa [maxLen] using y2
              have HSA := Lib.hid (same_any _ _ y.bytes y.bytes w7 _ _ (HV6.out.below hb7) hvy)
              clear hb37 hb7 HP q6 hvy
              rw [beq_self_eq_true] at HSA
              go_wp2_with fail
              refine HSA.out.mono ?_
              rintro e w8 ⟨rfl, n8, rfl⟩
              go_wp2
              refine ⟨⟨k + 1, by omega, by go_num, below_dn HB7.out n8⟩, by simp only [intOf]; omega⟩
        · obtain rfl : k = ss.length := by omega
          clear hbr
          go_wp2
          go_ret
          exact ⟨rfl, below_tr HBW.out HBR.out⟩

end Go.Proofs.Ytjgobljclodpfaa
