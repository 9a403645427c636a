/- Layer 5's reference: With. Printed by genwith.py. No condition beyond sizes. -/
import Derived.Test.YtjgobljclodpfaaFr3
namespace Go.Proofs.Ytjgobljclodpfaa
open Go.RowKit Go.Shelf K L
set_option linter.unusedVariables false
set_option linter.unusedSimpArgs false

def wStep (nm b : List UInt8) (s : Bool × List Fl) (x : Fl) : Bool × List Fl :=
  let s1 := if s.1 = false ∧ slt x.name nm = false then (true, s.2 ++ [⟨nm, b⟩]) else s
  if x.name == nm then s1 else (s1.1, s1.2 ++ [x])
def wRun (l : List Fl) (nm b : List UInt8) : Bool × List Fl := l.foldl (wStep nm b) (false, [])
def withF (l : List Fl) (nm b : List UInt8) : List Fl := if (wRun l nm b).1 = true then (wRun l nm b).2 else (wRun l nm b).2 ++ [⟨nm, b⟩]
theorem wRun_snoc (l : List Fl) (x : Fl) (nm b : List UInt8) : wRun (l ++ [x]) nm b = wStep nm b (wRun l nm b) x := by simp [wRun]

set_option maxRecDepth 100000 in
set_option maxHeartbeats 8000000 in
theorem rwith_any (nm : List UInt8) (v : Value) (es : List FE) (vb : Value) (nb : List UInt8) (w : World) (F F2 : Nat → Prop) (h : Fs w F v es) (hl : es.length ≤ 10000000) (hvb : Bs w F2 vb nb) :
    Calls Try.prog 62 #[.agg #[v], .string ⟨nm.toArray⟩, vb] w fun e w' => ∃ v' es', e = .returned (.agg #[v']) ∧ fls es' = withF (fls es) nm nb ∧ RFs w' w.heap.size v' es' ∧ Below w.heap.size w w' := by
  have hs := h
  obtain ⟨A, c, rfl, l1, l2⟩ := fs_form h
  have HNB := Lib.hid hvb.lt
  obtain ⟨An, cn, rfl, -⟩ := hvb.open_
  clear h hvb
  have HST := Lib.hid (BX.start w (.slice A es.length c))
  go_enter Try.func62, Try.ntmps62
  go_wp2
  go_loopw [8, 9] (fun d i wr => ∃ (k : Nat) (dn : Bool) (vo : Value) (eo : List FE), k ≤ es.length ∧ i = .int .i64 k ∧ d = .bool dn ∧ eo.length ≤ 2 * k ∧ wRun (fls (es.take k)) nm nb = (dn, fls eo) ∧ BX w wr (.slice A es.length c) vo eo) (fun _ i _ => es.length - (intOf i).toNat)
  case atStart => exact ⟨0, false, _, [], Nat.zero_le _, rfl, rfl, Nat.le_refl _, rfl, HST.out⟩
  case round =>
    clear HST
    obtain ⟨k, dn, vo, eo, hk, rfl, rfl, hel, hfl, hBX⟩ := hrel
    have HX := Lib.hid hBX
    have hB := hBX.below
    have hsz := hBX.size
    have q0 := cell_of hBX.b0 0
    simp at q0
    by_cases hlt : k < es.length
    · obtain ⟨b, o, hA, hb, e0, e1⟩ := fs_at hs k hlt
      subst hA
      have c0 := (World.cell?_of_block (hB.block b hb)).trans e0
      have c1 := (World.cell?_of_block (hB.block b hb)).trans e1
      clear e0 e1
      have hyw := hs.2 es[k] (List.getElem_mem hlt)
      have hyb := (hs.2 es[k] (List.getElem_mem hlt)).belowB hB
      have hsn := fls_take_snoc es k hlt
      generalize es[k] = y at *
      obtain ⟨y, vy⟩ := y
      dsimp only at c0 c1 hyb hyw hsn
      have hrun : wRun (fls (es.take (k + 1))) nm nb = wStep nm nb (dn, fls eo) y := by rw [hsn, wRun_snoc, hfl]
      have HRUN := Lib.hid hrun
      have HVB := Lib.hid hyb
      have HYW := Lib.hid hyw
      have HCE := Lib.hid (⟨c0, c1⟩ : _ ∧ _)
      obtain ⟨Ay, cy, rfl, -⟩ := hyb.open_
      clear hyb hyw hsn hfl hBX hB hrun
      have hbn : b ≠ w.heap.size + 1 + 1 := by omega
      cases h1 : y.name == nm
      · have H1 := Lib.hid h1
        cases dn
        · cases h2 : Op.bytesLess y.name nm
          · have H2 := Lib.hid (show slt y.name nm = false from h2)
            have hBl := below_al (Below.refl wr.heap.size wr) (.cells #[.string ⟨nm.toArray⟩, .slice An nb.length cn] 40)
            have HXl := Lib.hid (HX.out.next hBl)
            have HSl := Lib.hid (lit_src wr nm (.slice An nb.length cn))
            have HVl := Lib.hid ((HNB.out.belowB HX.out.below).below hBl)
            have q2 := cell_of HX.out.b2 0
            simp at q2
            have hal : wr.heap.size + 1 = (wr.alloc (.cells #[.string ⟨nm.toArray⟩, .slice An nb.length cn] 40)).heap.size := (World.size_alloc _ _).symm
            have hal2 : w.heap.size + 1 + 1 + 1 ≤ (wr.alloc (.cells #[.string ⟨nm.toArray⟩, .slice An nb.length cn] 40)).heap.size := by rw [World.size_alloc]; omega
            clear hal
            go_wp2_with (at_builtin; go_must (refine app2 Try.elF rfl _ _ rfl (w.heap.size + 1 + 1 + 1) HXl.out.own HSl.out rfl rfl (by intro z hz; simp at hz; rcases hz with rfl | rfl <;> rfl) (by first | omega | (simp; omega)) (by decide) (by omega) ?_); intro v' w' ho hg hv; have HN := Lib.hid (BX.push (x := ⟨nm, nb⟩) HXl.out HVl.out ho hg); have hm3 := HXl.out.mid hg; have g0 := (World.cell?_of_block (a := (⟨b, o + k * 2, none⟩ : Addr)) (HXl.out.far hg (by show b < _; omega))).trans ((World.cell?_of_block (a := (⟨b, o + k * 2, none⟩ : Addr)) (hBl.block b (by omega))).trans c0); have g1 := (World.cell?_of_block (a := (⟨b, o + k * 2 + 1, none⟩ : Addr)) (HXl.out.far hg (by show b < _; omega))).trans ((World.cell?_of_block (a := (⟨b, o + k * 2 + 1, none⟩ : Addr)) (hBl.block b (by omega))).trans c1); have g2 := cell_of ((HXl.out.far hg (by omega)).trans HXl.out.b0) 0; simp at g2;  obtain ⟨A4, c4, rfl, -⟩ := own_slice ho; have e0 := cell_of hm3 0; have f0 := frozen_of hm3 0; simp at e0; clear ho hg hv hm3)
            have k0 := (World.cell?_of_block (a := (⟨b, o + k * 2, none⟩ : Addr)) (heap_setCell_other w' ⟨w.heap.size + 1 + 1, 0, none⟩ b (.slice A4 (eo.length + 1) c4) (by simp; omega))).trans g0
            have k1 := (World.cell?_of_block (a := (⟨b, o + k * 2 + 1, none⟩ : Addr)) (heap_setCell_other w' ⟨w.heap.size + 1 + 1, 0, none⟩ b (.slice A4 (eo.length + 1) c4) (by simp; omega))).trans g1
            have HCF := Lib.hid (⟨k0, k1⟩ : _ ∧ _)
            have HN1 := HN
            have hb5 : b < (w'.setCell ⟨w.heap.size + 1 + 1, 0, none⟩ (.slice A4 (eo.length + 1) c4)).heap.size := Nat.lt_of_lt_of_le hb HN1.out.below.size
            have hsz5 := HN1.out.size
            obtain ⟨e5, he5⟩ : ∃ e5, eo ++ [((⟨nm, nb⟩ : Fl), Value.slice An nb.length cn)] = e5 := ⟨_, rfl⟩
            have hfe5 : fls e5 = fls eo ++ [⟨nm, nb⟩] := by rw [← he5]; simp [fls]
            have hle5 : e5.length = eo.length + 1 := by rw [← he5]; simp
            have hlt5 : e5.length ≤ 2 * k + 1 := by omega
            rw [he5] at HN1
            have HF5 := Lib.hid hfe5
            clear hle5 hfe5 he5
            clear g0 g1 g2 k0 k1 e0 f0 hal2 hBl HN c0 c1 q0 q2
            generalize w'.setCell ⟨w.heap.size + 1 + 1, 0, none⟩ (.slice A4 (eo.length + 1) c4) = w5 at *
            refine G.region_split 8 (by kernel_rfl) (by kernel_rfl) (G.any_inv (by kernel_rfl) (fun w w' => Below w.heap.size w w') (fun _ _ _ h k => below_tr h k) (fun w _ => Below.refl _ _) (Below.refl _ _)
              (G.of [(fun (_ : World) (v : Value) => v = .pointer (some ⟨w.heap.size + 1 + 1, 0, none⟩)), (fun (_ : World) (v : Value) => v = .slice A4 (eo.length + 1) c4), (fun (_ : World) (v : Value) => v = .pointer (some ⟨w.heap.size, 0, none⟩)), (fun (_ : World) (v : Value) => v = .slice (some ⟨b, o, none⟩) es.length c), (fun (_ : World) (v : Value) => v = .int .i64 (k : Nat)), (fun (_ : World) (v : Value) => v = .pointer (some ⟨b, o + k * 2, none⟩)), (fun (_ : World) (v : Value) => v = .agg #[.string ⟨y.name.toArray⟩, .slice Ay y.bytes.length cy]), (LitF y.name (.slice Ay y.bytes.length cy))])
              (G.of_stays _ ?_) ?_ (G.each_ops ?_) ?_)
            · exact ⟨(fun w w' v h k => h), (fun w w' v h k => h), (fun w w' v h k => h), (fun w w' v h k => h), (fun w w' v h k => h), (fun w w' v h k => h), (fun w w' v h k => h), (fun w w' v h k => by first | exact h | exact G.keep_bs h k | exact Ls.below h k | exact CopP.fresh h k | exact AggP.fresh h k | exact SrcP.fresh h k | exact Bs.below h k | exact ClP.fresh h k | exact Emp.fresh h k | exact LitF.fresh h k | exact ObP.fresh h k | exact CpF.fresh h k | (obtain ⟨x1, x2, F', hb⟩ := h; exact ⟨x1, x2, F', hb.below k⟩)), trivial⟩
            · intro i o hi hd; exact absurd hd (G.no_none (by kernel_rfl) hi)
            · refine ⟨?_, ?_, ?_, ?_, ?_, ?_, ?_, ?_, trivial⟩
              all_goals intro a wq hT hS hp
              all_goals (have hT' : Below w5.heap.size w5 wq := below_tr (Below.refl _ _).drew hT; have d0 := cell_of (HN1.out.next hT').b0 0; have d1 := cell_of (HN1.out.next hT').b2 0; have d2 := (World.cell?_of_block (hT'.block b hb5)).trans HCF.out.1; have d3 := (World.cell?_of_block (hT'.block b hb5)).trans HCF.out.2; simp at d0 d1)
              · refine G.wanted_yes (G.wanted_plain rfl) ?_
                have e7 : a.tmps[7]?.getD undef = .pointer (some ⟨w.heap.size + 1 + 1, 0, none⟩) := hS.at_ 7 rfl
                exact G.st_val (v := .pointer (some ⟨w.heap.size + 1 + 1, 0, none⟩)) (w' := wq) (by simp [execOp, go_sem, e7, d0, d1, d2, d3, hlt] <;> omega) ⟨_, rfl, Below.refl _ _, rfl⟩
              · refine G.wanted_yes (G.wanted_plain rfl) ?_
                have e45 : a.tmps[45]?.getD undef = .pointer (some ⟨w.heap.size + 1 + 1, 0, none⟩) := hp ⟨0, .data⟩ (by simp) rfl _ rfl
                exact G.st_val (v := .slice A4 (eo.length + 1) c4) (w' := wq) (by simp [execOp, go_sem, e45, d0, d1, d2, d3, hlt] <;> omega) ⟨_, rfl, Below.refl _ _, rfl⟩
              · refine G.wanted_yes (G.wanted_plain rfl) ?_
                have e3 : a.tmps[3]?.getD undef = .pointer (some ⟨w.heap.size, 0, none⟩) := hS.at_ 3 rfl
                exact G.st_val (v := .pointer (some ⟨w.heap.size, 0, none⟩)) (w' := wq) (by simp [execOp, go_sem, e3, d0, d1, d2, d3, hlt] <;> omega) ⟨_, rfl, Below.refl _ _, rfl⟩
              · refine G.wanted_yes (G.wanted_plain rfl) ?_
                have e47 : a.tmps[47]?.getD undef = .pointer (some ⟨w.heap.size, 0, none⟩) := hp ⟨2, .data⟩ (by simp) rfl _ rfl
                exact G.st_val (v := .slice (some ⟨b, o, none⟩) es.length c) (w' := wq) (by simp [execOp, go_sem, e47, d0, d1, d2, d3, hlt] <;> omega) ⟨_, rfl, Below.refl _ _, rfl⟩
              · refine G.wanted_yes (G.wanted_plain rfl) ?_
                have e9 : a.tmps[9]?.getD undef = .int .i64 (k : Nat) := hS.at_ 9 rfl
                exact G.st_val (v := .int .i64 (k : Nat)) (w' := wq) (by simp [execOp, go_sem, e9, d0, d1, d2, d3, hlt] <;> omega) ⟨_, rfl, Below.refl _ _, rfl⟩
              · refine G.wanted_yes (G.wanted_plain rfl) ?_
                have e48 : a.tmps[48]?.getD undef = .slice (some ⟨b, o, none⟩) es.length c := hp ⟨3, .data⟩ (by simp) rfl _ rfl
                have e49 : a.tmps[49]?.getD undef = .int .i64 (k : Nat) := hp ⟨4, .data⟩ (by simp) rfl _ rfl
                exact G.st_val (v := .pointer (some ⟨b, o + k * 2, none⟩)) (w' := wq) (by simp [execOp, go_sem, e48, e49, d0, d1, d2, d3, hlt] <;> omega) ⟨_, rfl, Below.refl _ _, rfl⟩
              · refine G.wanted_yes (G.wanted_plain rfl) ?_
                have e50 : a.tmps[50]?.getD undef = .pointer (some ⟨b, o + k * 2, none⟩) := hp ⟨5, .data⟩ (by simp) rfl _ rfl
                exact G.st_val (v := .agg #[.string ⟨y.name.toArray⟩, .slice Ay y.bytes.length cy]) (w' := wq) (by simp [execOp, go_sem, e50, d0, d1, d2, d3, hlt] <;> omega) ⟨_, rfl, Below.refl _ _, rfl⟩
              · refine G.wanted_yes (G.wanted_plain rfl) ?_
                have e51 : a.tmps[51]?.getD undef = .agg #[.string ⟨y.name.toArray⟩, .slice Ay y.bytes.length cy] := hp ⟨6, .data⟩ (by simp) rfl _ rfl
                exact G.st_val (v := .slice (some ⟨wq.heap.size, 0, none⟩) 1 1) (w' := wq.alloc (.cells #[.string ⟨y.name.toArray⟩, .slice Ay y.bytes.length cy] 40)) (by simp [execOp, go_sem, e51]) ⟨_, rfl, below_al (Below.refl _ _) _, lit_src _ _ _⟩
            · intro a wq hT hS hp
              have e45 : G.slot a (some 45) = .pointer (some ⟨w.heap.size + 1 + 1, 0, none⟩) := hp 0 _ rfl
              have e46 : G.slot a (some 46) = .slice A4 (eo.length + 1) c4 := hp 1 _ rfl
              have e47 : G.slot a (some 47) = .pointer (some ⟨w.heap.size, 0, none⟩) := hp 2 _ rfl
              have e48 : G.slot a (some 48) = .slice (some ⟨b, o, none⟩) es.length c := hp 3 _ rfl
              have e49 : G.slot a (some 49) = .int .i64 (k : Nat) := hp 4 _ rfl
              have e50 : G.slot a (some 50) = .pointer (some ⟨b, o + k * 2, none⟩) := hp 5 _ rfl
              have e51 : G.slot a (some 51) = .agg #[.string ⟨y.name.toArray⟩, .slice Ay y.bytes.length cy] := hp 6 _ rfl
              have q52 : (LitF y.name (.slice Ay y.bytes.length cy)) wq (G.slot a (some 52)) := hp 7 _ rfl
              have ha := G.act_of hS
              simp only [List.take_succ_cons, List.take_zero, List.foldl_cons, List.foldl_nil, Act.put, List.setIfInBounds_toArray, List.set_cons_succ, List.set_cons_zero, e45, e46, e47, e48, e49, e50, e51] at ha
              generalize G.slot a (some 52) = s52 at q52 ha
              clear hp hS e45 e46 e47 e48 e49 e50 e51
              subst ha
              show wpList _ _ _ _ _ _
              simp only [List.drop_succ_cons, List.drop_zero]
              have hT2 : Below w5.heap.size w5 wq := below_tr (Below.refl _ _).drew hT
              have HX2 := Lib.hid (HN1.out.next hT2)
              have HV2 := Lib.hid ((HYW.out.belowB HN1.out.below).below hT2)
              have HSRC := Lib.hid q52
              have hsz2 := hT2.size
              clear hT2 hT q52
              go_wp2_with (at_builtin; go_must (refine app2 Try.elF rfl _ _ rfl (w.heap.size + 1 + 1 + 1) HX2.out.own HSRC.out rfl rfl (by intro z hz; simp at hz; rcases hz with rfl | rfl <;> rfl) (by first | omega | (simp; omega)) (by decide) (by omega) ?_); intro v' w' ho hg hv; have HN := Lib.hid (BX.push (x := y) HX2.out HV2.out ho hg); have hm3 := HX2.out.mid hg;  obtain ⟨A4, c4, rfl, -⟩ := own_slice ho; have e0 := cell_of hm3 0; have f0 := frozen_of hm3 0; simp at e0; clear ho hg hv hm3)
              refine ⟨⟨k + 1, true, _, _, by omega, by go_num, rfl, by simp; omega, ?_, HN.out⟩, by simp only [intOf]; omega⟩
              rw [HRUN.out]
              have := HF5.out; simp only [fls] at this; simp [wStep, fls, H1.out, H2.out, this]
          · have H2 := Lib.hid (show slt y.name nm = true from h2)
            go_wp2
            refine G.region_split 8 (by kernel_rfl) (by kernel_rfl) (G.any_inv (by kernel_rfl) (fun w w' => Below w.heap.size w w') (fun _ _ _ h k => below_tr h k) (fun w _ => Below.refl _ _) (Below.refl _ _)
              (G.of [(fun (_ : World) (v : Value) => v = .pointer (some ⟨w.heap.size + 1 + 1, 0, none⟩)), (fun (_ : World) (v : Value) => v = vo), (fun (_ : World) (v : Value) => v = .pointer (some ⟨w.heap.size, 0, none⟩)), (fun (_ : World) (v : Value) => v = .slice (some ⟨b, o, none⟩) es.length c), (fun (_ : World) (v : Value) => v = .int .i64 (k : Nat)), (fun (_ : World) (v : Value) => v = .pointer (some ⟨b, o + k * 2, none⟩)), (fun (_ : World) (v : Value) => v = .agg #[.string ⟨y.name.toArray⟩, .slice Ay y.bytes.length cy]), (LitF y.name (.slice Ay y.bytes.length cy))])
              (G.of_stays _ ?_) ?_ (G.each_ops ?_) ?_)
            · exact ⟨(fun w w' v h k => h), (fun w w' v h k => h), (fun w w' v h k => h), (fun w w' v h k => h), (fun w w' v h k => h), (fun w w' v h k => h), (fun w w' v h k => h), (fun w w' v h k => by first | exact h | exact G.keep_bs h k | exact Ls.below h k | exact CopP.fresh h k | exact AggP.fresh h k | exact SrcP.fresh h k | exact Bs.below h k | exact ClP.fresh h k | exact Emp.fresh h k | exact LitF.fresh h k | exact ObP.fresh h k | exact CpF.fresh h k | (obtain ⟨x1, x2, F', hb⟩ := h; exact ⟨x1, x2, F', hb.below k⟩)), trivial⟩
            · intro i o hi hd; exact absurd hd (G.no_none (by kernel_rfl) hi)
            · refine ⟨?_, ?_, ?_, ?_, ?_, ?_, ?_, ?_, trivial⟩
              all_goals intro a wq hT hS hp
              all_goals (have hT' : Below wr.heap.size wr wq := below_tr (Below.refl _ _).drew hT; have d0 := cell_of (HX.out.next hT').b0 0; have d1 := cell_of (HX.out.next hT').b2 0; have d2 := (World.cell?_of_block (hT'.block b (by omega))).trans HCE.out.1; have d3 := (World.cell?_of_block (hT'.block b (by omega))).trans HCE.out.2; simp at d0 d1)
              · refine G.wanted_yes (G.wanted_plain rfl) ?_
                have e7 : a.tmps[7]?.getD undef = .pointer (some ⟨w.heap.size + 1 + 1, 0, none⟩) := hS.at_ 7 rfl
                exact G.st_val (v := .pointer (some ⟨w.heap.size + 1 + 1, 0, none⟩)) (w' := wq) (by simp [execOp, go_sem, e7, d0, d1, d2, d3, hlt] <;> omega) ⟨_, rfl, Below.refl _ _, rfl⟩
              · refine G.wanted_yes (G.wanted_plain rfl) ?_
                have e45 : a.tmps[45]?.getD undef = .pointer (some ⟨w.heap.size + 1 + 1, 0, none⟩) := hp ⟨0, .data⟩ (by simp) rfl _ rfl
                exact G.st_val (v := vo) (w' := wq) (by simp [execOp, go_sem, e45, d0, d1, d2, d3, hlt] <;> omega) ⟨_, rfl, Below.refl _ _, rfl⟩
              · refine G.wanted_yes (G.wanted_plain rfl) ?_
                have e3 : a.tmps[3]?.getD undef = .pointer (some ⟨w.heap.size, 0, none⟩) := hS.at_ 3 rfl
                exact G.st_val (v := .pointer (some ⟨w.heap.size, 0, none⟩)) (w' := wq) (by simp [execOp, go_sem, e3, d0, d1, d2, d3, hlt] <;> omega) ⟨_, rfl, Below.refl _ _, rfl⟩
              · refine G.wanted_yes (G.wanted_plain rfl) ?_
                have e47 : a.tmps[47]?.getD undef = .pointer (some ⟨w.heap.size, 0, none⟩) := hp ⟨2, .data⟩ (by simp) rfl _ rfl
                exact G.st_val (v := .slice (some ⟨b, o, none⟩) es.length c) (w' := wq) (by simp [execOp, go_sem, e47, d0, d1, d2, d3, hlt] <;> omega) ⟨_, rfl, Below.refl _ _, rfl⟩
              · refine G.wanted_yes (G.wanted_plain rfl) ?_
                have e9 : a.tmps[9]?.getD undef = .int .i64 (k : Nat) := hS.at_ 9 rfl
                exact G.st_val (v := .int .i64 (k : Nat)) (w' := wq) (by simp [execOp, go_sem, e9, d0, d1, d2, d3, hlt] <;> omega) ⟨_, rfl, Below.refl _ _, rfl⟩
              · refine G.wanted_yes (G.wanted_plain rfl) ?_
                have e48 : a.tmps[48]?.getD undef = .slice (some ⟨b, o, none⟩) es.length c := hp ⟨3, .data⟩ (by simp) rfl _ rfl
                have e49 : a.tmps[49]?.getD undef = .int .i64 (k : Nat) := hp ⟨4, .data⟩ (by simp) rfl _ rfl
                exact G.st_val (v := .pointer (some ⟨b, o + k * 2, none⟩)) (w' := wq) (by simp [execOp, go_sem, e48, e49, d0, d1, d2, d3, hlt] <;> omega) ⟨_, rfl, Below.refl _ _, rfl⟩
              · refine G.wanted_yes (G.wanted_plain rfl) ?_
                have e50 : a.tmps[50]?.getD undef = .pointer (some ⟨b, o + k * 2, none⟩) := hp ⟨5, .data⟩ (by simp) rfl _ rfl
                exact G.st_val (v := .agg #[.string ⟨y.name.toArray⟩, .slice Ay y.bytes.length cy]) (w' := wq) (by simp [execOp, go_sem, e50, d0, d1, d2, d3, hlt] <;> omega) ⟨_, rfl, Below.refl _ _, rfl⟩
              · refine G.wanted_yes (G.wanted_plain rfl) ?_
                have e51 : a.tmps[51]?.getD undef = .agg #[.string ⟨y.name.toArray⟩, .slice Ay y.bytes.length cy] := hp ⟨6, .data⟩ (by simp) rfl _ rfl
                exact G.st_val (v := .slice (some ⟨wq.heap.size, 0, none⟩) 1 1) (w' := wq.alloc (.cells #[.string ⟨y.name.toArray⟩, .slice Ay y.bytes.length cy] 40)) (by simp [execOp, go_sem, e51]) ⟨_, rfl, below_al (Below.refl _ _) _, lit_src _ _ _⟩
            · intro a wq hT hS hp
              have e45 : G.slot a (some 45) = .pointer (some ⟨w.heap.size + 1 + 1, 0, none⟩) := hp 0 _ rfl
              have e46 : G.slot a (some 46) = vo := hp 1 _ rfl
              have e47 : G.slot a (some 47) = .pointer (some ⟨w.heap.size, 0, none⟩) := hp 2 _ rfl
              have e48 : G.slot a (some 48) = .slice (some ⟨b, o, none⟩) es.length c := hp 3 _ rfl
              have e49 : G.slot a (some 49) = .int .i64 (k : Nat) := hp 4 _ rfl
              have e50 : G.slot a (some 50) = .pointer (some ⟨b, o + k * 2, none⟩) := hp 5 _ rfl
              have e51 : G.slot a (some 51) = .agg #[.string ⟨y.name.toArray⟩, .slice Ay y.bytes.length cy] := hp 6 _ rfl
              have q52 : (LitF y.name (.slice Ay y.bytes.length cy)) wq (G.slot a (some 52)) := hp 7 _ rfl
              have ha := G.act_of hS
              simp only [List.take_succ_cons, List.take_zero, List.foldl_cons, List.foldl_nil, Act.put, List.setIfInBounds_toArray, List.set_cons_succ, List.set_cons_zero, e45, e46, e47, e48, e49, e50, e51] at ha
              generalize G.slot a (some 52) = s52 at q52 ha
              clear hp hS e45 e46 e47 e48 e49 e50 e51
              subst ha
              show wpList _ _ _ _ _ _
              simp only [List.drop_succ_cons, List.drop_zero]
              have hT2 : Below wr.heap.size wr wq := below_tr (Below.refl _ _).drew hT
              have HX2 := Lib.hid (HX.out.next hT2)
              have HV2 := Lib.hid (HVB.out.below hT2)
              have HSRC := Lib.hid q52
              have hsz2 := hT2.size
              clear hT2 hT q52
              go_wp2_with (at_builtin; go_must (refine app2 Try.elF rfl _ _ rfl (w.heap.size + 1 + 1 + 1) HX2.out.own HSRC.out rfl rfl (by intro z hz; simp at hz; rcases hz with rfl | rfl <;> rfl) (by first | omega | (simp; omega)) (by decide) (by omega) ?_); intro v' w' ho hg hv; have HN := Lib.hid (BX.push (x := y) HX2.out HV2.out ho hg); have hm3 := HX2.out.mid hg;  obtain ⟨A4, c4, rfl, -⟩ := own_slice ho; have e0 := cell_of hm3 0; have f0 := frozen_of hm3 0; simp at e0; clear ho hg hv hm3)
              refine ⟨⟨k + 1, false, _, _, by omega, by go_num, rfl, by simp; omega, ?_, HN.out⟩, by simp only [intOf]; omega⟩
              rw [HRUN.out]
              simp [wStep, fls, H1.out, H2.out]
        · go_wp2
          refine G.region_split 8 (by kernel_rfl) (by kernel_rfl) (G.any_inv (by kernel_rfl) (fun w w' => Below w.heap.size w w') (fun _ _ _ h k => below_tr h k) (fun w _ => Below.refl _ _) (Below.refl _ _)
            (G.of [(fun (_ : World) (v : Value) => v = .pointer (some ⟨w.heap.size + 1 + 1, 0, none⟩)), (fun (_ : World) (v : Value) => v = vo), (fun (_ : World) (v : Value) => v = .pointer (some ⟨w.heap.size, 0, none⟩)), (fun (_ : World) (v : Value) => v = .slice (some ⟨b, o, none⟩) es.length c), (fun (_ : World) (v : Value) => v = .int .i64 (k : Nat)), (fun (_ : World) (v : Value) => v = .pointer (some ⟨b, o + k * 2, none⟩)), (fun (_ : World) (v : Value) => v = .agg #[.string ⟨y.name.toArray⟩, .slice Ay y.bytes.length cy]), (LitF y.name (.slice Ay y.bytes.length cy))])
            (G.of_stays _ ?_) ?_ (G.each_ops ?_) ?_)
          · exact ⟨(fun w w' v h k => h), (fun w w' v h k => h), (fun w w' v h k => h), (fun w w' v h k => h), (fun w w' v h k => h), (fun w w' v h k => h), (fun w w' v h k => h), (fun w w' v h k => by first | exact h | exact G.keep_bs h k | exact Ls.below h k | exact CopP.fresh h k | exact AggP.fresh h k | exact SrcP.fresh h k | exact Bs.below h k | exact ClP.fresh h k | exact Emp.fresh h k | exact LitF.fresh h k | exact ObP.fresh h k | exact CpF.fresh h k | (obtain ⟨x1, x2, F', hb⟩ := h; exact ⟨x1, x2, F', hb.below k⟩)), trivial⟩
          · intro i o hi hd; exact absurd hd (G.no_none (by kernel_rfl) hi)
          · refine ⟨?_, ?_, ?_, ?_, ?_, ?_, ?_, ?_, trivial⟩
            all_goals intro a wq hT hS hp
            all_goals (have hT' : Below wr.heap.size wr wq := below_tr (Below.refl _ _).drew hT; have d0 := cell_of (HX.out.next hT').b0 0; have d1 := cell_of (HX.out.next hT').b2 0; have d2 := (World.cell?_of_block (hT'.block b (by omega))).trans HCE.out.1; have d3 := (World.cell?_of_block (hT'.block b (by omega))).trans HCE.out.2; simp at d0 d1)
            · refine G.wanted_yes (G.wanted_plain rfl) ?_
              have e7 : a.tmps[7]?.getD undef = .pointer (some ⟨w.heap.size + 1 + 1, 0, none⟩) := hS.at_ 7 rfl
              exact G.st_val (v := .pointer (some ⟨w.heap.size + 1 + 1, 0, none⟩)) (w' := wq) (by simp [execOp, go_sem, e7, d0, d1, d2, d3, hlt] <;> omega) ⟨_, rfl, Below.refl _ _, rfl⟩
            · refine G.wanted_yes (G.wanted_plain rfl) ?_
              have e45 : a.tmps[45]?.getD undef = .pointer (some ⟨w.heap.size + 1 + 1, 0, none⟩) := hp ⟨0, .data⟩ (by simp) rfl _ rfl
              exact G.st_val (v := vo) (w' := wq) (by simp [execOp, go_sem, e45, d0, d1, d2, d3, hlt] <;> omega) ⟨_, rfl, Below.refl _ _, rfl⟩
            · refine G.wanted_yes (G.wanted_plain rfl) ?_
              have e3 : a.tmps[3]?.getD undef = .pointer (some ⟨w.heap.size, 0, none⟩) := hS.at_ 3 rfl
              exact G.st_val (v := .pointer (some ⟨w.heap.size, 0, none⟩)) (w' := wq) (by simp [execOp, go_sem, e3, d0, d1, d2, d3, hlt] <;> omega) ⟨_, rfl, Below.refl _ _, rfl⟩
            · refine G.wanted_yes (G.wanted_plain rfl) ?_
              have e47 : a.tmps[47]?.getD undef = .pointer (some ⟨w.heap.size, 0, none⟩) := hp ⟨2, .data⟩ (by simp) rfl _ rfl
              exact G.st_val (v := .slice (some ⟨b, o, none⟩) es.length c) (w' := wq) (by simp [execOp, go_sem, e47, d0, d1, d2, d3, hlt] <;> omega) ⟨_, rfl, Below.refl _ _, rfl⟩
            · refine G.wanted_yes (G.wanted_plain rfl) ?_
              have e9 : a.tmps[9]?.getD undef = .int .i64 (k : Nat) := hS.at_ 9 rfl
              exact G.st_val (v := .int .i64 (k : Nat)) (w' := wq) (by simp [execOp, go_sem, e9, d0, d1, d2, d3, hlt] <;> omega) ⟨_, rfl, Below.refl _ _, rfl⟩
            · refine G.wanted_yes (G.wanted_plain rfl) ?_
              have e48 : a.tmps[48]?.getD undef = .slice (some ⟨b, o, none⟩) es.length c := hp ⟨3, .data⟩ (by simp) rfl _ rfl
              have e49 : a.tmps[49]?.getD undef = .int .i64 (k : Nat) := hp ⟨4, .data⟩ (by simp) rfl _ rfl
              exact G.st_val (v := .pointer (some ⟨b, o + k * 2, none⟩)) (w' := wq) (by simp [execOp, go_sem, e48, e49, d0, d1, d2, d3, hlt] <;> omega) ⟨_, rfl, Below.refl _ _, rfl⟩
            · refine G.wanted_yes (G.wanted_plain rfl) ?_
              have e50 : a.tmps[50]?.getD undef = .pointer (some ⟨b, o + k * 2, none⟩) := hp ⟨5, .data⟩ (by simp) rfl _ rfl
              exact G.st_val (v := .agg #[.string ⟨y.name.toArray⟩, .slice Ay y.bytes.length cy]) (w' := wq) (by simp [execOp, go_sem, e50, d0, d1, d2, d3, hlt] <;> omega) ⟨_, rfl, Below.refl _ _, rfl⟩
            · refine G.wanted_yes (G.wanted_plain rfl) ?_
              have e51 : a.tmps[51]?.getD undef = .agg #[.string ⟨y.name.toArray⟩, .slice Ay y.bytes.length cy] := hp ⟨6, .data⟩ (by simp) rfl _ rfl
              exact G.st_val (v := .slice (some ⟨wq.heap.size, 0, none⟩) 1 1) (w' := wq.alloc (.cells #[.string ⟨y.name.toArray⟩, .slice Ay y.bytes.length cy] 40)) (by simp [execOp, go_sem, e51]) ⟨_, rfl, below_al (Below.refl _ _) _, lit_src _ _ _⟩
          · intro a wq hT hS hp
            have e45 : G.slot a (some 45) = .pointer (some ⟨w.heap.size + 1 + 1, 0, none⟩) := hp 0 _ rfl
            have e46 : G.slot a (some 46) = vo := hp 1 _ rfl
            have e47 : G.slot a (some 47) = .pointer (some ⟨w.heap.size, 0, none⟩) := hp 2 _ rfl
            have e48 : G.slot a (some 48) = .slice (some ⟨b, o, none⟩) es.length c := hp 3 _ rfl
            have e49 : G.slot a (some 49) = .int .i64 (k : Nat) := hp 4 _ rfl
            have e50 : G.slot a (some 50) = .pointer (some ⟨b, o + k * 2, none⟩) := hp 5 _ rfl
            have e51 : G.slot a (some 51) = .agg #[.string ⟨y.name.toArray⟩, .slice Ay y.bytes.length cy] := hp 6 _ rfl
            have q52 : (LitF y.name (.slice Ay y.bytes.length cy)) wq (G.slot a (some 52)) := hp 7 _ rfl
            have ha := G.act_of hS
            simp only [List.take_succ_cons, List.take_zero, List.foldl_cons, List.foldl_nil, Act.put, List.setIfInBounds_toArray, List.set_cons_succ, List.set_cons_zero, e45, e46, e47, e48, e49, e50, e51] at ha
            generalize G.slot a (some 52) = s52 at q52 ha
            clear hp hS e45 e46 e47 e48 e49 e50 e51
            subst ha
            show wpList _ _ _ _ _ _
            simp only [List.drop_succ_cons, List.drop_zero]
            have hT2 : Below wr.heap.size wr wq := below_tr (Below.refl _ _).drew hT
            have HX2 := Lib.hid (HX.out.next hT2)
            have HV2 := Lib.hid (HVB.out.below hT2)
            have HSRC := Lib.hid q52
            have hsz2 := hT2.size
            clear hT2 hT q52
            go_wp2_with (at_builtin; go_must (refine app2 Try.elF rfl _ _ rfl (w.heap.size + 1 + 1 + 1) HX2.out.own HSRC.out rfl rfl (by intro z hz; simp at hz; rcases hz with rfl | rfl <;> rfl) (by first | omega | (simp; omega)) (by decide) (by omega) ?_); intro v' w' ho hg hv; have HN := Lib.hid (BX.push (x := y) HX2.out HV2.out ho hg); have hm3 := HX2.out.mid hg;  obtain ⟨A4, c4, rfl, -⟩ := own_slice ho; have e0 := cell_of hm3 0; have f0 := frozen_of hm3 0; simp at e0; clear ho hg hv hm3)
            refine ⟨⟨k + 1, true, _, _, by omega, by go_num, rfl, by simp; omega, ?_, HN.out⟩, by simp only [intOf]; omega⟩
            rw [HRUN.out]
            simp [wStep, fls, H1.out]
      · have H1 := Lib.hid h1
        have h2 : Op.bytesLess y.name nm = false := by rw [beq_iff_eq.1 h1]; exact slt_irrefl nm
        have H2 := Lib.hid (show slt y.name nm = false from h2)
        cases dn
        · skip
          have hBl := below_al (Below.refl wr.heap.size wr) (.cells #[.string ⟨nm.toArray⟩, .slice An nb.length cn] 40)
          have HXl := Lib.hid (HX.out.next hBl)
          have HSl := Lib.hid (lit_src wr nm (.slice An nb.length cn))
          have HVl := Lib.hid ((HNB.out.belowB HX.out.below).below hBl)
          have q2 := cell_of HX.out.b2 0
          simp at q2
          have hal : wr.heap.size + 1 = (wr.alloc (.cells #[.string ⟨nm.toArray⟩, .slice An nb.length cn] 40)).heap.size := (World.size_alloc _ _).symm
          have hal2 : w.heap.size + 1 + 1 + 1 ≤ (wr.alloc (.cells #[.string ⟨nm.toArray⟩, .slice An nb.length cn] 40)).heap.size := by rw [World.size_alloc]; omega
          clear hal
          go_wp2_with (at_builtin; go_must (refine app2 Try.elF rfl _ _ rfl (w.heap.size + 1 + 1 + 1) HXl.out.own HSl.out rfl rfl (by intro z hz; simp at hz; rcases hz with rfl | rfl <;> rfl) (by first | omega | (simp; omega)) (by decide) (by omega) ?_); intro v' w' ho hg hv; have HN := Lib.hid (BX.push (x := ⟨nm, nb⟩) HXl.out HVl.out ho hg); have hm3 := HXl.out.mid hg; have g0 := (World.cell?_of_block (a := (⟨b, o + k * 2, none⟩ : Addr)) (HXl.out.far hg (by show b < _; omega))).trans ((World.cell?_of_block (a := (⟨b, o + k * 2, none⟩ : Addr)) (hBl.block b (by omega))).trans c0); have g1 := (World.cell?_of_block (a := (⟨b, o + k * 2 + 1, none⟩ : Addr)) (HXl.out.far hg (by show b < _; omega))).trans ((World.cell?_of_block (a := (⟨b, o + k * 2 + 1, none⟩ : Addr)) (hBl.block b (by omega))).trans c1); have g2 := cell_of ((HXl.out.far hg (by omega)).trans HXl.out.b0) 0; simp at g2;  obtain ⟨A4, c4, rfl, -⟩ := own_slice ho; have e0 := cell_of hm3 0; have f0 := frozen_of hm3 0; simp at e0; clear ho hg hv hm3)
          refine ⟨⟨k + 1, true, _, _, by omega, by go_num, rfl, by simp; omega, ?_, HN.out⟩, by simp only [intOf]; omega⟩
          rw [HRUN.out]
          simp [wStep, fls, H1.out, H2.out]
        · go_wp2
          refine ⟨⟨k + 1, true, _, _, by omega, by go_num, rfl, by omega, ?_, HX.out⟩, by simp only [intOf]; omega⟩
          rw [HRUN.out]
          simp [wStep, fls, H1.out]
    · obtain rfl : k = es.length := by omega
      rw [List.take_length] at hfl
      have hwf : withF (fls es) nm nb = if dn = true then fls eo else fls eo ++ [⟨nm, nb⟩] := by unfold withF; rw [hfl]
      have HWF := Lib.hid hwf
      clear hwf hfl
      have c3 := cell_of hBX.b2 0
      have d2 := cell_of hBX.b1 0
      have f2 := frozen_of hBX.b1 0
      simp at c3 d2
      cases dn
      · clear hB hBX
        have hBl := below_al (Below.refl wr.heap.size wr) (.cells #[.string ⟨nm.toArray⟩, .slice An nb.length cn] 40)
        have HXl := Lib.hid (HX.out.next hBl)
        have HSl := Lib.hid (lit_src wr nm (.slice An nb.length cn))
        have HVl := Lib.hid ((HNB.out.belowB HX.out.below).below hBl)
        have q2 := cell_of HX.out.b2 0
        simp at q2
        have hal : wr.heap.size + 1 = (wr.alloc (.cells #[.string ⟨nm.toArray⟩, .slice An nb.length cn] 40)).heap.size := (World.size_alloc _ _).symm
        have hal2 : w.heap.size + 1 + 1 + 1 ≤ (wr.alloc (.cells #[.string ⟨nm.toArray⟩, .slice An nb.length cn] 40)).heap.size := by rw [World.size_alloc]; omega
        clear hal hBl
        go_wp2_with (at_builtin; go_must (refine app2 Try.elF rfl _ _ rfl (w.heap.size + 1 + 1 + 1) HXl.out.own HSl.out rfl rfl (by intro z hz; simp at hz; rcases hz with rfl | rfl <;> rfl) (by first | omega | (simp; omega)) (by decide) (by omega) ?_); intro v' w' ho hg hv; have HN := Lib.hid (BX.push (x := ⟨nm, nb⟩) HXl.out HVl.out ho hg); have hm3 := HXl.out.mid hg; have m1 := (HXl.out.far hg (q := w.heap.size + 1) (by omega)).trans HXl.out.b1; have r1 := cell_of m1 0; have r2 := frozen_of m1 0; simp at r1;  obtain ⟨A4, c4, rfl, -⟩ := own_slice ho; have e0 := cell_of hm3 0; have f0 := frozen_of hm3 0; simp at e0; clear ho hg hv hm3)
        obtain ⟨d, hR, hB7⟩ := HN.out.end_
        have HR := Lib.hid hR
        have HB7 := Lib.hid hB7
        clear hR hB7 r1 r2 m1 e0 f0
        generalize (w'.setCell ⟨w.heap.size + 1 + 1, 0, none⟩ (.slice A4 (eo.length + 1) c4)).setCell ⟨w.heap.size + 1, 0, none⟩ (.slice A4 (eo.length + 1) c4) = wf at *
        exact bodyPost_ret (v := .agg #[.slice A4 (eo.length + 1) c4]) (by simp [results, Try.results62, go_sem, d]) rfl ⟨_, _, rfl, by rw [HWF.out]; simp [fls], HR.out, HB7.out⟩
      · obtain ⟨A4, c4, rfl, -⟩ := own_slice hBX.own
        obtain ⟨d, hR, hB7⟩ := hBX.end_
        have HR := Lib.hid hR
        have HB7 := Lib.hid hB7
        clear hR hB7 hBX hB HX
        go_wp2
        generalize wr.setCell ⟨w.heap.size + 1, 0, none⟩ (.slice A4 eo.length c4) = wf at *
        exact bodyPost_ret (v := .agg #[.slice A4 eo.length c4]) (by simp [results, Try.results62, go_sem, d]) rfl (by first | exact ⟨_, eo, rfl, by rw [HWF.out]; rfl, HR.out, HB7.out⟩ | exact ⟨_, rfl, eo, by rw [HWF.out]; rfl, HR.out, HB7.out⟩)

end Go.Proofs.Ytjgobljclodpfaa
