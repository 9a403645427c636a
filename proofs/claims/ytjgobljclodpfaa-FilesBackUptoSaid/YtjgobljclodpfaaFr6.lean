/- Layer 5's reference: a file written into, a file named anew. Printed by genrdo.py. No condition beyond sizes. -/
import Derived.Test.YtjgobljclodpfaaFr5
import Derived.Test.YtjgobljclodpfaaRef1
namespace Go.Proofs.Ytjgobljclodpfaa
open Go.RowKit Go.Shelf K L
set_option linter.unusedVariables false
set_option linter.unusedSimpArgs false

/-- What a call that gives files leaves in a slot. -/
def CpF (B : Nat) (l : List Fl) (w : World) (v : Value) : Prop := ∃ v' es', v = .agg #[v'] ∧ fls es' = l ∧ RFs w B v' es'
theorem RFs.below {w w' : World} {B : Nat} {v : Value} {es : List FE} (h : RFs w B v es) (hb : Below w.heap.size w w') : RFs w' B v es := ⟨own_keep h.1 fun g hg => hb.block g (h.1.lt g hg).2, fun e he => bs_lift (h.2 e he) hb⟩
theorem CpF.fresh {B : Nat} {l : List Fl} {w w' : World} {v : Value} (h : CpF B l w v) (hb : Below w.heap.size w w') : CpF B l w' v := by obtain ⟨v', es', h1, h2, h3⟩ := h; exact ⟨v', es', h1, h2, h3.below hb⟩

set_option maxRecDepth 100000 in
set_option maxHeartbeats 8000000 in
theorem rdo_3 (name new : List UInt8) (at_ : Int) (bytes : List UInt8) (vb v : Value) (es : List FE) (w : World) (F F2 : Nat → Prop) (h : Fs w F v es) (hk : okFs (fls es) = true) (hvb : Bs w F2 vb bytes)
    (hs1 : bytes.length ≤ 1048576) (hs2 : name.length ≤ 1048576) (hs3 : new.length ≤ 1048576) (ha1 : -9223372036854775808 ≤ at_) (ha2 : at_ ≤ 9223372036854775807) (hn : nmOk name = true) (hn2 : nmOk new = true) (ht : there (fls es) name = true) :
    Calls Try.prog 37 #[.agg #[v], .agg #[.int .i64 3, .string ⟨name.toArray⟩, .string ⟨new.toArray⟩, .int .i64 at_, vb]] w (RDone w (fls es) ⟨3, name, new, at_, bytes⟩) := by
  obtain ⟨A0, c0, rfl, q1, q2, -, -⟩ := hvb.open_
  replace q2 : c0 ≤ 9223372036854775807 := by simpa [maxLen] using q2
  obtain ⟨A, c, rfl, l1, l2⟩ := fs_form h
  have HK := Lib.hid hk
  have hlen := ok_len hk
  have hcost := ok_cost hk
  rw [fls_len] at hlen
  obtain ⟨W, hW⟩ : ∃ W, ((w.alloc (.cells #[.slice A es.length c] 24)).alloc (.cells #[.int .i64 3, .string ⟨name.toArray⟩, .string ⟨new.toArray⟩, .int .i64 at_, .slice A0 bytes.length c0] 37)).alloc (.cells #[.slice none 0 0] 24) = W := ⟨_, rfl⟩
  have hB0 : Below w.heap.size w W := by rw [← hW]; exact below_al (below_al (below_al (Below.refl _ _) _) _) _
  have hx0 : W.heap[w.heap.size]? = some (.cells #[.slice A es.length c] 24 (0, 0)) := by rw [← hW]; exact heap_bl (below_al (below_al (Below.refl _ _) _) _) (heap_alloc_new _ _)
  have hx1 : W.heap[w.heap.size + 1]? = some (.cells #[.int .i64 3, .string ⟨name.toArray⟩, .string ⟨new.toArray⟩, .int .i64 at_, .slice A0 bytes.length c0] 37 (0, 0)) := by
    rw [← hW]; have := heap_bl (below_al (Below.refl _ _) (.cells #[.slice none 0 0] 24)) (heap_alloc_new (w.alloc (.cells #[.slice A es.length c] 24)) (.cells #[.int .i64 3, .string ⟨name.toArray⟩, .string ⟨new.toArray⟩, .int .i64 at_, .slice A0 bytes.length c0] 37)); simpa [World.size_alloc] using this
  have hx2 : W.heap[w.heap.size + 1 + 1]? = some (.cells #[.slice none 0 0] 24 (0, 0)) := by
    rw [← hW]; have := heap_alloc_new ((w.alloc (.cells #[.slice A es.length c] 24)).alloc (.cells #[.int .i64 3, .string ⟨name.toArray⟩, .string ⟨new.toArray⟩, .int .i64 at_, .slice A0 bytes.length c0] 37)) (.cells #[.slice none 0 0] 24); simpa [World.size_alloc] using this
  have hszW : W.heap.size = w.heap.size + 1 + 1 + 1 := by rw [← hW]; simp only [World.size_alloc]
  have HSW := Lib.hid (h.below hB0)
  have HVW := Lib.hid (hvb.below hB0)
  have HX0 := Lib.hid hx0
  have HX1 := Lib.hid hx1
  have HX2 := Lib.hid hx2
  have HB0 := Lib.hid hB0
  have b0 := cell_of hx0 0
  have y0 := cell_of hx1 0
  have y1 := cell_of hx1 1
  have y2 := cell_of hx1 2
  have y3 := cell_of hx1 3
  have y4 := cell_of hx1 4
  have r0 := cell_of hx2 0
  have r1 := frozen_of hx2 0
  have d0 := set_one hx2 (.slice A es.length c)
  simp at b0 y0 y1 y2 y3 y4 r0
  clear h hk hvb hB0 hx0 hx1 hx2
  obtain ⟨LZ, hLZ⟩ : ∃ l, putF (delF (fls es) name) new (getFB (fls es) name) = l := ⟨_, rfl⟩
  have HD := Lib.hid (show doF (fls es) ⟨3, name, new, at_, bytes⟩ = fin LZ by unfold doF; rw [if_neg (by simp [opBad, hn, hn2]), if_neg (by simp [ht]), if_neg (by simp), if_neg (by simp), if_pos rfl, hLZ])
  have HN := Lib.hid (rname_any name W (by omega))
  rw [hn] at HN
  have HN2 := Lib.hid (rname_any new W (by omega))
  rw [hn2] at HN2
  have HPL := Lib.hid (rplace_any name (.slice A es.length c) es W _ HSW.out)
  rw [ht] at HPL
  have hpl0 := there_lt ht
  rw [fls_len] at hpl0
  obtain ⟨p, hp, hpl, hfb⟩ : ∃ p, place (fls es) name = p ∧ ∃ hl : p < es.length, getFB (fls es) name = es[p].1.bytes := ⟨_, rfl, hpl0, getFB_at hpl0⟩
  rw [hp] at HPL
  clear hp hpl0
  go_enter Try.func37, Try.ntmps37
  go_wp2_with fail
  refine (HN.out).mono ?_
  rintro e w' ⟨rfl, rfl⟩
  go_wp2_with fail
  refine (HN2.out).mono ?_
  rintro e w' ⟨rfl, rfl⟩
  try rw [hW]
  clear hW
  go_wp2_with fail
  refine (HPL.out).mono ?_
  rintro e wq ⟨rfl, hbq⟩
  have HSq := Lib.hid (HSW.out.below hbq)
  have HVq := Lib.hid (HVW.out.below hbq)
  have HBq := Lib.hid (below_tr HB0.out hbq)
  have hszq := hbq.size
  have hxq0 := heap_bl hbq HX0.out
  have hxq1 := heap_bl hbq HX1.out
  have hxq2 := heap_bl hbq HX2.out
  have HXq0 := Lib.hid hxq0
  have HXq1 := Lib.hid hxq1
  have HXq2 := Lib.hid hxq2
  have p0 := cell_of hxq0 0
  have p1 := cell_of hxq1 0
  simp at p0 p1
  clear b0 y0 y1 y2 y3 y4 r0 r1 d0 hbq
  obtain ⟨W8, hW8⟩ : ∃ W8, wq.alloc (.cells #[.slice A es.length c] 24) = W8 := ⟨_, rfl⟩
  have hB8 : Below wq.heap.size wq W8 := by rw [← hW8]; exact below_al (Below.refl _ _) _
  have hsz8 : W8.heap.size = wq.heap.size + 1 := by rw [← hW8]; exact World.size_alloc _ _
  have hx8 : W8.heap[wq.heap.size]? = some (.cells #[.slice A es.length c] 24 (0, 0)) := by rw [← hW8]; exact heap_alloc_new _ _
  have HS8 := Lib.hid (HSq.out.below hB8)
  have HV8 := Lib.hid (HVq.out.below hB8)
  have HB8 := Lib.hid (below_tr HBq.out hB8)
  have h80 := heap_bl hB8 hxq0
  have h81 := heap_bl hB8 hxq1
  have h82 := heap_bl hB8 hxq2
  have HX8 := Lib.hid hx8
  have HX80 := Lib.hid h80
  have HX81 := Lib.hid h81
  have HX82 := Lib.hid h82
  have x8 := cell_of hx8 0
  have f8 := frozen_of hx8 0
  simp at x8
  have b0 := cell_of h80 0
  have y0 := cell_of h81 0
  have y1 := cell_of h81 1
  have y2 := cell_of h81 2
  have y3 := cell_of h81 3
  have y4 := cell_of h81 4
  have r0 := cell_of h82 0
  have r1 := frozen_of h82 0
  have d0 := set_one h82 (.slice A es.length c)
  simp at b0 y0 y1 y2 y3 y4 r0
  clear hB8 hx8 hxq0 hxq1 hxq2 h80 h81 h82
  obtain ⟨Y, rfl⟩ : ∃ x, x = wq := ⟨_, rfl⟩
  obtain ⟨bA, o, hA, hbA, t0, t1⟩ := fs_at HS8.out p hpl
  subst hA
  have hyb := HS8.out.2 es[p] (List.getElem_mem hpl)
  have hyc := cost_at es p hpl
  generalize es[p] = y at *
  obtain ⟨y, vy⟩ := y
  dsimp only at t0 t1 hyb hyc hfb
  obtain ⟨Ay, cy, rfl, yy1, yy2, -, -⟩ := hyb.open_
  replace yy2 : cy ≤ 9223372036854775807 := by simpa [maxLen] using yy2
  have HYB := Lib.hid hyb
  clear hyb
  have HCB := Lib.hid (show cost LZ ≤ 100000000 by rw [← hLZ, hfb]; have := cost_put (delF (fls es) name) new y.bytes; have := cost_del (fls es) name; omega)
  have hed := len_del (fls es) name
  rw [fls_len] at hed
  rw [hfb] at hLZ
  clear hfb
  have HLZ := Lib.hid hLZ
  clear hLZ
  go_wp2
  try rw [hW8]
  clear hW8
  refine G.region_split 8 (by kernel_rfl) (by kernel_rfl) (G.any_inv (by kernel_rfl) (fun w w' => Below w.heap.size w w') (fun _ _ _ h k => below_tr h k) (fun w _ => Below.refl _ _) (Below.refl _ _)
    (G.of [(fun (_ : World) (v : Value) => v = .agg #[.slice (some ⟨bA, o, none⟩) es.length c]), (fun (_ : World) (v : Value) => v = .pointer (some ⟨w.heap.size + 1, 1, none⟩)), (fun (_ : World) (v : Value) => v = .string ⟨name.toArray⟩), (CpF W8.heap.size (delF (fls es) name)), (fun (_ : World) (v : Value) => v = .pointer (some ⟨w.heap.size + 1, 2, none⟩)), (fun (_ : World) (v : Value) => v = .string ⟨new.toArray⟩), (fun (_ : World) (v : Value) => v = .slice Ay y.bytes.length cy), (CpF W8.heap.size LZ)])
    (G.of_stays _ ?_) ?_ (G.each_ops ?_) ?_)
  · exact ⟨(fun w w' v h k => h), (fun w w' v h k => h), (fun w w' v h k => h), (fun w w' v h k => by first | exact h | exact G.keep_bs h k | exact Ls.below h k | exact CopP.fresh h k | exact AggP.fresh h k | exact SrcP.fresh h k | exact Bs.below h k | exact ClP.fresh h k | exact Emp.fresh h k | exact LitF.fresh h k | exact ObP.fresh h k | exact CpF.fresh h k | (obtain ⟨x1, x2, F', hb⟩ := h; exact ⟨x1, x2, F', hb.below k⟩)), (fun w w' v h k => h), (fun w w' v h k => h), (fun w w' v h k => h), (fun w w' v h k => by first | exact h | exact G.keep_bs h k | exact Ls.below h k | exact CopP.fresh h k | exact AggP.fresh h k | exact SrcP.fresh h k | exact Bs.below h k | exact ClP.fresh h k | exact Emp.fresh h k | exact LitF.fresh h k | exact ObP.fresh h k | exact CpF.fresh h k | (obtain ⟨x1, x2, F', hb⟩ := h; exact ⟨x1, x2, F', hb.below k⟩)), trivial⟩
  · intro i o hi hd; exact absurd hd (G.no_none (by kernel_rfl) hi)
  · refine ⟨?_, ?_, ?_, ?_, ?_, ?_, ?_, ?_, trivial⟩
    all_goals intro a wq hT hS hp
    all_goals (have hT' : Below W8.heap.size W8 wq := below_tr (Below.refl _ _).drew hT; have k0 := cell_of (heap_bl hT' HX80.out) 0; have k1 := cell_of (heap_bl hT' HX81.out) 1; have k2 := cell_of (heap_bl hT' HX81.out) 2; simp at k0 k1 k2)
    · refine G.wanted_yes (G.wanted_plain rfl) ?_
      have e2 : a.tmps[2]?.getD undef = .pointer (some ⟨w.heap.size, 0, none⟩) := hS.at_ 2 rfl
      exact G.st_val (v := .agg #[.slice (some ⟨bA, o, none⟩) es.length c]) (w' := wq) (by simp [execOp, go_sem, e2, k0, k1, k2] <;> omega) ⟨_, rfl, Below.refl _ _, rfl⟩
    · refine G.wanted_yes (G.wanted_plain rfl) ?_
      have e3 : a.tmps[3]?.getD undef = .pointer (some ⟨w.heap.size + 1, 0, none⟩) := hS.at_ 3 rfl
      exact G.st_val (v := .pointer (some ⟨w.heap.size + 1, 1, none⟩)) (w' := wq) (by simp [execOp, go_sem, e3, k0, k1, k2] <;> omega) ⟨_, rfl, Below.refl _ _, rfl⟩
    · refine G.wanted_yes (G.wanted_plain rfl) ?_
      have e129 : a.tmps[129]?.getD undef = .pointer (some ⟨w.heap.size + 1, 1, none⟩) := hp ⟨1, .data⟩ (by simp) rfl _ rfl
      exact G.st_val (v := .string ⟨name.toArray⟩) (w' := wq) (by simp [execOp, go_sem, e129, k0, k1, k2] <;> omega) ⟨_, rfl, Below.refl _ _, rfl⟩
    · refine G.wanted_yes (G.wanted_plain rfl) ?_
      have e128 : a.tmps[128]?.getD undef = .agg #[.slice (some ⟨bA, o, none⟩) es.length c] := hp ⟨0, .data⟩ (by simp) rfl _ rfl
      have e130 : a.tmps[130]?.getD undef = .string ⟨name.toArray⟩ := hp ⟨2, .data⟩ (by simp) rfl _ rfl
      refine G.st_call (f := 63) (args := #[.agg #[.slice (some ⟨bA, o, none⟩) es.length c], .string ⟨name.toArray⟩]) (by simp [execOp, go_sem, e128, e130]) ((rwithout_any name _ es wq _ (HS8.out.below hT') (by omega)).mono ?_); rintro e w' ⟨v', es', rfl, hfl, ho, hb⟩; exact ⟨_, rfl, _, rfl, hb, v', es', rfl, by rw [hfl, dropF_eq (ok_rise HK.out)], own_low ho.1 hT'.size, ho.2⟩
    · refine G.wanted_yes (G.wanted_plain rfl) ?_
      have e3 : a.tmps[3]?.getD undef = .pointer (some ⟨w.heap.size + 1, 0, none⟩) := hS.at_ 3 rfl
      exact G.st_val (v := .pointer (some ⟨w.heap.size + 1, 2, none⟩)) (w' := wq) (by simp [execOp, go_sem, e3, k0, k1, k2] <;> omega) ⟨_, rfl, Below.refl _ _, rfl⟩
    · refine G.wanted_yes (G.wanted_plain rfl) ?_
      have e132 : a.tmps[132]?.getD undef = .pointer (some ⟨w.heap.size + 1, 2, none⟩) := hp ⟨4, .data⟩ (by simp) rfl _ rfl
      exact G.st_val (v := .string ⟨new.toArray⟩) (w' := wq) (by simp [execOp, go_sem, e132, k0, k1, k2] <;> omega) ⟨_, rfl, Below.refl _ _, rfl⟩
    · refine G.wanted_yes (G.wanted_plain rfl) ?_
      have e11 : a.tmps[11]?.getD undef = .slice Ay y.bytes.length cy := hS.at_ 11 rfl
      exact G.st_val (v := .slice Ay y.bytes.length cy) (w' := wq) (by simp [execOp, go_sem, e11, k0, k1, k2] <;> omega) ⟨_, rfl, Below.refl _ _, rfl⟩
    · refine G.wanted_yes (G.wanted_plain rfl) ?_
      have q131 : (CpF W8.heap.size (delF (fls es) name)) wq (G.slot a (some 131)) := hp ⟨3, .data⟩ (by simp) rfl _ rfl
      have e133 : a.tmps[133]?.getD undef = .string ⟨new.toArray⟩ := hp ⟨5, .data⟩ (by simp) rfl _ rfl
      have e134 : a.tmps[134]?.getD undef = .slice Ay y.bytes.length cy := hp ⟨6, .data⟩ (by simp) rfl _ rfl
      obtain ⟨v', es', hv, hfl, hs⟩ := q131; have e131 : a.tmps[131]?.getD undef = .agg #[v'] := hv; refine G.st_call (f := 62) (args := #[.agg #[v'], .string ⟨new.toArray⟩, .slice Ay y.bytes.length cy]) (by simp [execOp, go_sem, e131, e133, e134]) ((rwith_any new _ es' _ y.bytes wq _ _ hs.fs (by have := fls_len es'; rw [hfl] at this; omega) (HYB.out.below hT')).mono ?_); rintro e w' ⟨v2, es2, rfl, hfl2, ho, hb⟩; exact ⟨_, rfl, _, rfl, hb, v2, es2, rfl, by rw [hfl2, hfl, withF_eq (rise_delF (ok_rise HK.out) _), HLZ.out], own_low ho.1 hT'.size, ho.2⟩
  · intro a wq hT hS hp
    have e128 : G.slot a (some 128) = .agg #[.slice (some ⟨bA, o, none⟩) es.length c] := hp 0 _ rfl
    have e129 : G.slot a (some 129) = .pointer (some ⟨w.heap.size + 1, 1, none⟩) := hp 1 _ rfl
    have e130 : G.slot a (some 130) = .string ⟨name.toArray⟩ := hp 2 _ rfl
    have q131 : (CpF W8.heap.size (delF (fls es) name)) wq (G.slot a (some 131)) := hp 3 _ rfl
    have e132 : G.slot a (some 132) = .pointer (some ⟨w.heap.size + 1, 2, none⟩) := hp 4 _ rfl
    have e133 : G.slot a (some 133) = .string ⟨new.toArray⟩ := hp 5 _ rfl
    have e134 : G.slot a (some 134) = .slice Ay y.bytes.length cy := hp 6 _ rfl
    have q135 : (CpF W8.heap.size LZ) wq (G.slot a (some 135)) := hp 7 _ rfl
    have ha := G.act_of hS
    simp only [List.take_succ_cons, List.take_zero, List.foldl_cons, List.foldl_nil, Act.put, List.setIfInBounds_toArray, List.set_cons_succ, List.set_cons_zero, e128, e129, e130, e132, e133, e134] at ha
    generalize G.slot a (some 131) = s131 at q131 ha
    generalize G.slot a (some 135) = s135 at q135 ha
    clear hp hS e128 e129 e130 e132 e133 e134
    subst ha
    show wpList _ _ _ _ _ _
    simp only [List.drop_succ_cons, List.drop_zero]
    have hb9 : Below W8.heap.size W8 wq := below_tr (Below.refl _ _).drew hT
    obtain ⟨w9, rfl⟩ : ∃ x, x = wq := ⟨_, rfl⟩
    obtain ⟨v9, e9, hv9, hf9, hr9⟩ := q135
    clear hT t0 t1
    subst hv9
    obtain ⟨Az, cz, rfl, n1, n2⟩ := fs_form hr9.fs
    have hw8 : W8.heap.size ≤ w9.heap.size := hb9.size
    have hz8 := heap_bl hb9 HX8.out
    have hz0 := heap_bl hb9 HX80.out
    have hz1 := heap_bl hb9 HX81.out
    have hz2 := heap_bl hb9 HX82.out
    have hzb := below_tr HB8.out hb9
    have hzs := HS8.out.below hb9
    obtain ⟨ez, hez⟩ : ∃ x, x = e9 := ⟨_, rfl⟩
    subst hez
    have z8 := cell_of hz8 0
    have zf := frozen_of hz8 0
    simp at z8
    obtain ⟨Z, hZ⟩ : ∃ Z, w9.setCell ⟨Y.heap.size, 0, none⟩ (.slice Az ez.length cz) = Z := ⟨_, rfl⟩
    have HFZ := Lib.hid hf9
    have HZ8 := Lib.hid (show Z.heap[Y.heap.size]? = some (.cells #[.slice Az ez.length cz] 24 (0, 0)) by rw [← hZ]; exact heap_setCell_same _ _ 0 _ _ _ hz8)
    have HZ0 := Lib.hid (show Z.heap[w.heap.size]? = some (.cells #[.slice (some ⟨bA, o, none⟩) es.length c] 24 (0, 0)) by rw [← hZ]; exact (heap_setCell_other _ _ _ _ (by simp; omega)).trans hz0)
    have HZ1 := Lib.hid (show Z.heap[w.heap.size + 1]? = some (.cells #[.int .i64 3, .string ⟨name.toArray⟩, .string ⟨new.toArray⟩, .int .i64 at_, .slice A0 bytes.length c0] 37 (0, 0)) by rw [← hZ]; exact (heap_setCell_other _ _ _ _ (by simp; omega)).trans hz1)
    have HZ2 := Lib.hid (show Z.heap[w.heap.size + 1 + 1]? = some (.cells #[.slice none 0 0] 24 (0, 0)) by rw [← hZ]; exact (heap_setCell_other _ _ _ _ (by simp; omega)).trans hz2)
    have HZB := Lib.hid (show Below w.heap.size w Z by rw [← hZ]; exact below_sc hzb (by simp; omega) _)
    have HZS := Lib.hid (show Fs Z F (.slice (some ⟨bA, o, none⟩) es.length c) es by rw [← hZ]; exact fs_set hzs hz8 _)
    have HZF := Lib.hid (show Fs Z _ (.slice Az ez.length cz) ez by rw [← hZ]; exact fs_set hr9.fs hz8 _)
    have HZY := Lib.hid hZ
    have hszZ : Z.heap.size = w9.heap.size := by rw [← hZ]; exact World.size_setCell _ _ _
    clear p0 p1 b0 y0 y1 y2 y3 y4 r0 r1 d0 x8 f8 hz8 hz0 hz1 hz2 hzb hzs hf9 hr9
    have hez : ez.length = LZ.length := by rw [← HFZ.out, fls_len]
    have z0 := cell_of HZ8.out 0
    have b0 := cell_of HZ0.out 0
    have y0 := cell_of HZ1.out 0
    simp at z0 b0 y0
    have r0 := cell_of HZ2.out 0
    have r1 := frozen_of HZ2.out 0
    simp at r0
    by_cases h64 : 64 < ez.length
    · have HE := Lib.hid (HD.out.trans (fin_no (.inl (by omega))))
      have d0 := set_one HZ2.out (.slice (some ⟨bA, o, none⟩) es.length c)
      clear hez
      go_wp2
      exact bodyPost_ret (v := .tuple #[.agg #[.slice (some ⟨bA, o, none⟩) es.length c], .int .i64 6]) (by simp [results, Try.results37, go_sem, d0]) rfl ⟨_, es, by rw [HE.out], (fun h0 => by rw [HE.out] at h0; cases h0), (fs_set HZS.out HZ2.out _).imp_all, below_sc HZB.out (by simp; omega) _⟩
    · have hle : LZ.length ≤ 64 := by omega
      have HLE := Lib.hid hle
      clear hez hle
      go_wp2_with fail
      refine (rcost_any _ ez _ _ HZF.out (by rw [HFZ.out]; have := HCB.out; omega)).mono ?_
      rintro e wf ⟨rfl, hbf⟩
      rw [HFZ.out]
      have HF8 := Lib.hid (heap_bl hbf HZ8.out)
      have HF0 := Lib.hid (heap_bl hbf HZ0.out)
      have HF2 := Lib.hid (heap_bl hbf HZ2.out)
      have HFB := Lib.hid (HZB.out.trans (hbf.mono (by omega)))
      have HFS := Lib.hid (HZS.out.below hbf)
      have HFF := Lib.hid (HZF.out.below hbf)
      have z0 := cell_of HF8.out 0
      have b0 := cell_of HF0.out 0
      have r0 := cell_of HF2.out 0
      have r1 := frozen_of HF2.out 0
      simp at z0 b0 r0
      clear hbf
      by_cases hcz : 32768 < cost LZ
      · have HE := Lib.hid (HD.out.trans (fin_no (.inr hcz)))
        have d0 := set_one HF2.out (.slice (some ⟨bA, o, none⟩) es.length c)
        go_wp2
        exact bodyPost_ret (v := .tuple #[.agg #[.slice (some ⟨bA, o, none⟩) es.length c], .int .i64 6]) (by simp [results, Try.results37, go_sem, d0]) rfl ⟨_, es, by rw [HE.out], (fun h0 => by rw [HE.out] at h0; cases h0), (fs_set HFS.out HF2.out _).imp_all, below_sc HFB.out (by simp; omega) _⟩
      · have HE := Lib.hid (HD.out.trans (fin_yes HLE.out (by omega)))
        have d0 := set_one HF2.out (.slice Az ez.length cz)
        go_wp2
        exact bodyPost_ret (v := .tuple #[.agg #[.slice Az ez.length cz], .int .i64 0]) (by simp [results, Try.results37, go_sem, d0]) rfl ⟨_, ez, by rw [HE.out], fun _ => by rw [HE.out]; exact HFZ.out, (fs_set HFF.out HF2.out _).imp_all, below_sc HFB.out (by simp; omega) _⟩

set_option maxRecDepth 100000 in
set_option maxHeartbeats 8000000 in
theorem rdo_2 (name new : List UInt8) (at_ : Int) (bytes : List UInt8) (vb v : Value) (es : List FE) (w : World) (F F2 : Nat → Prop) (h : Fs w F v es) (hk : okFs (fls es) = true) (hvb : Bs w F2 vb bytes)
    (hs1 : bytes.length ≤ 1048576) (hs2 : name.length ≤ 1048576) (hs3 : new.length ≤ 1048576) (ha1 : -9223372036854775808 ≤ at_) (ha2 : at_ ≤ 9223372036854775807) (hn : nmOk name = true) (ht : there (fls es) name = true) :
    Calls Try.prog 37 #[.agg #[v], .agg #[.int .i64 2, .string ⟨name.toArray⟩, .string ⟨new.toArray⟩, .int .i64 at_, vb]] w (RDone w (fls es) ⟨2, name, new, at_, bytes⟩) := by
  obtain ⟨A0, c0, rfl, q1, q2, -, -⟩ := hvb.open_
  replace q2 : c0 ≤ 9223372036854775807 := by simpa [maxLen] using q2
  obtain ⟨A, c, rfl, l1, l2⟩ := fs_form h
  have HK := Lib.hid hk
  have hlen := ok_len hk
  have hcost := ok_cost hk
  rw [fls_len] at hlen
  obtain ⟨W, hW⟩ : ∃ W, ((w.alloc (.cells #[.slice A es.length c] 24)).alloc (.cells #[.int .i64 2, .string ⟨name.toArray⟩, .string ⟨new.toArray⟩, .int .i64 at_, .slice A0 bytes.length c0] 37)).alloc (.cells #[.slice none 0 0] 24) = W := ⟨_, rfl⟩
  have hB0 : Below w.heap.size w W := by rw [← hW]; exact below_al (below_al (below_al (Below.refl _ _) _) _) _
  have hx0 : W.heap[w.heap.size]? = some (.cells #[.slice A es.length c] 24 (0, 0)) := by rw [← hW]; exact heap_bl (below_al (below_al (Below.refl _ _) _) _) (heap_alloc_new _ _)
  have hx1 : W.heap[w.heap.size + 1]? = some (.cells #[.int .i64 2, .string ⟨name.toArray⟩, .string ⟨new.toArray⟩, .int .i64 at_, .slice A0 bytes.length c0] 37 (0, 0)) := by
    rw [← hW]; have := heap_bl (below_al (Below.refl _ _) (.cells #[.slice none 0 0] 24)) (heap_alloc_new (w.alloc (.cells #[.slice A es.length c] 24)) (.cells #[.int .i64 2, .string ⟨name.toArray⟩, .string ⟨new.toArray⟩, .int .i64 at_, .slice A0 bytes.length c0] 37)); simpa [World.size_alloc] using this
  have hx2 : W.heap[w.heap.size + 1 + 1]? = some (.cells #[.slice none 0 0] 24 (0, 0)) := by
    rw [← hW]; have := heap_alloc_new ((w.alloc (.cells #[.slice A es.length c] 24)).alloc (.cells #[.int .i64 2, .string ⟨name.toArray⟩, .string ⟨new.toArray⟩, .int .i64 at_, .slice A0 bytes.length c0] 37)) (.cells #[.slice none 0 0] 24); simpa [World.size_alloc] using this
  have hszW : W.heap.size = w.heap.size + 1 + 1 + 1 := by rw [← hW]; simp only [World.size_alloc]
  have HSW := Lib.hid (h.below hB0)
  have HVW := Lib.hid (hvb.below hB0)
  have HX0 := Lib.hid hx0
  have HX1 := Lib.hid hx1
  have HX2 := Lib.hid hx2
  have HB0 := Lib.hid hB0
  have b0 := cell_of hx0 0
  have y0 := cell_of hx1 0
  have y1 := cell_of hx1 1
  have y2 := cell_of hx1 2
  have y3 := cell_of hx1 3
  have y4 := cell_of hx1 4
  have r0 := cell_of hx2 0
  have r1 := frozen_of hx2 0
  have d0 := set_one hx2 (.slice A es.length c)
  simp at b0 y0 y1 y2 y3 y4 r0
  clear h hk hvb hB0 hx0 hx1 hx2
  have hdo : doF (fls es) ⟨2, name, new, at_, bytes⟩ = (if at_ < 0 ∨ ((getFB (fls es) name).length : Int) < at_ then (2, fls es) else if 4096 - at_ < bytes.length then (3, fls es) else fin (putF (fls es) name (over (getFB (fls es) name) at_.toNat bytes))) := by unfold doF; rw [if_neg (by simp [opBad, hn]), if_neg (by simp [ht]), if_neg (by simp), if_pos rfl]
  have HN := Lib.hid (rname_any name W (by omega))
  rw [hn] at HN
  have HPL := Lib.hid (rplace_any name (.slice A es.length c) es W _ HSW.out)
  rw [ht] at HPL
  have hpl0 := there_lt ht
  rw [fls_len] at hpl0
  obtain ⟨p, hp, hpl, hfb⟩ : ∃ p, place (fls es) name = p ∧ ∃ hl : p < es.length, getFB (fls es) name = es[p].1.bytes := ⟨_, rfl, hpl0, getFB_at hpl0⟩
  rw [hp] at HPL
  clear hp hpl0
  rw [hfb] at hdo
  clear hfb
  have HDO := Lib.hid hdo
  clear hdo
  go_enter Try.func37, Try.ntmps37
  go_wp2_with fail
  refine (HN.out).mono ?_
  rintro e w' ⟨rfl, rfl⟩
  try rw [hW]
  clear hW
  go_wp2_with fail
  refine (HPL.out).mono ?_
  rintro e wq ⟨rfl, hbq⟩
  have HSq := Lib.hid (HSW.out.below hbq)
  have HVq := Lib.hid (HVW.out.below hbq)
  have HBq := Lib.hid (below_tr HB0.out hbq)
  have hszq := hbq.size
  have hxq0 := heap_bl hbq HX0.out
  have hxq1 := heap_bl hbq HX1.out
  have hxq2 := heap_bl hbq HX2.out
  have HXq0 := Lib.hid hxq0
  have HXq1 := Lib.hid hxq1
  have HXq2 := Lib.hid hxq2
  have p0 := cell_of hxq0 0
  have p1 := cell_of hxq1 0
  simp at p0 p1
  clear b0 y0 y1 y2 y3 y4 r0 r1 d0 hbq
  obtain ⟨W8, hW8⟩ : ∃ W8, wq.alloc (.cells #[.slice A es.length c] 24) = W8 := ⟨_, rfl⟩
  have hB8 : Below wq.heap.size wq W8 := by rw [← hW8]; exact below_al (Below.refl _ _) _
  have hsz8 : W8.heap.size = wq.heap.size + 1 := by rw [← hW8]; exact World.size_alloc _ _
  have hx8 : W8.heap[wq.heap.size]? = some (.cells #[.slice A es.length c] 24 (0, 0)) := by rw [← hW8]; exact heap_alloc_new _ _
  have HS8 := Lib.hid (HSq.out.below hB8)
  have HV8 := Lib.hid (HVq.out.below hB8)
  have HB8 := Lib.hid (below_tr HBq.out hB8)
  have h80 := heap_bl hB8 hxq0
  have h81 := heap_bl hB8 hxq1
  have h82 := heap_bl hB8 hxq2
  have HX8 := Lib.hid hx8
  have HX80 := Lib.hid h80
  have HX81 := Lib.hid h81
  have HX82 := Lib.hid h82
  have x8 := cell_of hx8 0
  have f8 := frozen_of hx8 0
  simp at x8
  have b0 := cell_of h80 0
  have y0 := cell_of h81 0
  have y1 := cell_of h81 1
  have y2 := cell_of h81 2
  have y3 := cell_of h81 3
  have y4 := cell_of h81 4
  have r0 := cell_of h82 0
  have r1 := frozen_of h82 0
  have d0 := set_one h82 (.slice A es.length c)
  simp at b0 y0 y1 y2 y3 y4 r0
  clear hB8 hx8 hxq0 hxq1 hxq2 h80 h81 h82
  obtain ⟨Y, rfl⟩ : ∃ x, x = wq := ⟨_, rfl⟩
  obtain ⟨bA, o, hA, hbA, t0, t1⟩ := fs_at HS8.out p hpl
  subst hA
  have hyb := HS8.out.2 es[p] (List.getElem_mem hpl)
  have hyc := cost_at es p hpl
  generalize es[p] = y at *
  obtain ⟨y, vy⟩ := y
  dsimp only at t0 t1 hyb hyc
  obtain ⟨Ay, cy, rfl, yy1, yy2, -, -⟩ := hyb.open_
  replace yy2 : cy ≤ 9223372036854775807 := by simpa [maxLen] using yy2
  have HYB := Lib.hid hyb
  clear hyb
  by_cases hat : at_ < 0 ∨ (y.bytes.length : Int) < at_
  · have HD := Lib.hid (HDO.out.trans (by rw [if_pos hat]))
    rcases hat with hat | hat
    · go_wp2
      try rw [hW8]
      exact bodyPost_ret (v := .tuple #[.agg #[.slice (some ⟨bA, o, none⟩) es.length c], .int .i64 2]) (by simp [results, Try.results37, go_sem, d0]) rfl ⟨_, es, by rw [HD.out], (fun h0 => by rw [HD.out] at h0; cases h0), (fs_set HS8.out HX82.out _).imp_all, below_sc (HB8.out) (by simp; omega) _⟩
    · have hat2 : ¬ (at_ < 0) := by omega
      go_wp2
      try rw [hW8]
      exact bodyPost_ret (v := .tuple #[.agg #[.slice (some ⟨bA, o, none⟩) es.length c], .int .i64 2]) (by simp [results, Try.results37, go_sem, d0]) rfl ⟨_, es, by rw [HD.out], (fun h0 => by rw [HD.out] at h0; cases h0), (fs_set HS8.out HX82.out _).imp_all, below_sc (HB8.out) (by simp; omega) _⟩
  obtain ⟨n, rfl⟩ : ∃ n : Nat, at_ = n := ⟨at_.toNat, by omega⟩
  have hn1 : n ≤ y.bytes.length := by omega
  by_cases hbig : 4096 - (n : Int) < bytes.length
  · have HD := Lib.hid (HDO.out.trans (by rw [if_neg hat, if_pos hbig]))
    clear hat
    go_wp2
    try rw [hW8]
    exact bodyPost_ret (v := .tuple #[.agg #[.slice (some ⟨bA, o, none⟩) es.length c], .int .i64 3]) (by simp [results, Try.results37, go_sem, d0]) rfl ⟨_, es, by rw [HD.out], (fun h0 => by rw [HD.out] at h0; cases h0), (fs_set HS8.out HX82.out _).imp_all, below_sc (HB8.out) (by simp; omega) _⟩
  obtain ⟨LZ, hLZ⟩ : ∃ l, putF (fls es) name (over y.bytes n bytes) = l := ⟨_, rfl⟩
  have HD := Lib.hid (show doF (fls es) ⟨2, name, new, (n : Int), bytes⟩ = fin LZ by rw [HDO.out, if_neg hat, if_neg hbig, Int.toNat_natCast, hLZ])
  have hol : (over y.bytes n bytes).length ≤ 2000000 := by simp only [over, List.length_append, List.length_take, List.length_drop]; omega
  have HCB := Lib.hid (show cost LZ ≤ 100000000 by rw [← hLZ]; have := cost_put (fls es) name (over y.bytes n bytes); omega)
  have HLZ := Lib.hid hLZ
  have hlt : (y.bytes.take n).length = n := by rw [List.length_take]; omega
  have HPRE := Lib.hid (bs_pre HYB.out n hn1)
  clear hat hLZ
  go_wp2
  try rw [hW8]
  clear hW8
  refine G.region_inv (by kernel_rfl) (by kernel_rfl) (fun w w' => Below w.heap.size w w') (fun _ _ _ h k => below_tr h k) (fun w _ => Below.refl _ _) (Below.refl _ _)
    (G.of [(fun (_ : World) (v : Value) => v = .slice Ay y.bytes.length cy), (fun (_ : World) (v : Value) => v = .pointer (some ⟨w.heap.size + 1, 3, none⟩)), (fun (_ : World) (v : Value) => v = .int .i64 (n : Nat)), (fun (_ : World) (v : Value) => v = .slice Ay n cy), (fun (_ : World) (v : Value) => v = .pointer (some ⟨w.heap.size + 1, 4, none⟩)), (fun (_ : World) (v : Value) => v = .slice A0 bytes.length c0), (ObP W8.heap.size (y.bytes.take n ++ bytes)), (ObP W8.heap.size (y.bytes.take n ++ bytes))])
    (G.of_stays _ ?_) ?_ (G.each_ops ?_) ?_
  · exact ⟨(fun w w' v h k => h), (fun w w' v h k => h), (fun w w' v h k => h), (fun w w' v h k => h), (fun w w' v h k => h), (fun w w' v h k => h), (fun w w' v h k => by first | exact h | exact G.keep_bs h k | exact Ls.below h k | exact CopP.fresh h k | exact AggP.fresh h k | exact SrcP.fresh h k | exact Bs.below h k | exact ClP.fresh h k | exact Emp.fresh h k | exact LitF.fresh h k | exact ObP.fresh h k | exact CpF.fresh h k | (obtain ⟨x1, x2, F', hb⟩ := h; exact ⟨x1, x2, F', hb.below k⟩)), (fun w w' v h k => by first | exact h | exact G.keep_bs h k | exact Ls.below h k | exact CopP.fresh h k | exact AggP.fresh h k | exact SrcP.fresh h k | exact Bs.below h k | exact ClP.fresh h k | exact Emp.fresh h k | exact LitF.fresh h k | exact ObP.fresh h k | exact CpF.fresh h k | (obtain ⟨x1, x2, F', hb⟩ := h; exact ⟨x1, x2, F', hb.below k⟩)), trivial⟩
  · intro i o hi hd; exact absurd hd (G.no_none (by kernel_rfl) hi)
  · refine ⟨?_, ?_, ?_, ?_, ?_, ?_, ?_, ?_, trivial⟩
    all_goals intro a wq hT hS hp
    all_goals (have hT' : Below W8.heap.size W8 wq := below_tr (Below.refl _ _).drew hT; have k0 := cell_of (heap_bl hT' HX81.out) 3; have k1 := cell_of (heap_bl hT' HX81.out) 4; simp at k0 k1)
    · refine G.wanted_yes (G.wanted_plain rfl) ?_
      have e9 : a.tmps[9]?.getD undef = .slice Ay y.bytes.length cy := hS.at_ 9 rfl
      exact G.st_val (v := .slice Ay y.bytes.length cy) (w' := wq) (by simp [execOp, go_sem, e9, k0, k1] <;> omega) ⟨_, rfl, Below.refl _ _, rfl⟩
    · refine G.wanted_yes (G.wanted_plain rfl) ?_
      have e3 : a.tmps[3]?.getD undef = .pointer (some ⟨w.heap.size + 1, 0, none⟩) := hS.at_ 3 rfl
      exact G.st_val (v := .pointer (some ⟨w.heap.size + 1, 3, none⟩)) (w' := wq) (by simp [execOp, go_sem, e3, k0, k1] <;> omega) ⟨_, rfl, Below.refl _ _, rfl⟩
    · refine G.wanted_yes (G.wanted_plain rfl) ?_
      have e97 : a.tmps[97]?.getD undef = .pointer (some ⟨w.heap.size + 1, 3, none⟩) := hp ⟨1, .data⟩ (by simp) rfl _ rfl
      exact G.st_val (v := .int .i64 (n : Nat)) (w' := wq) (by simp [execOp, go_sem, e97, k0, k1] <;> omega) ⟨_, rfl, Below.refl _ _, rfl⟩
    · refine G.wanted_yes (G.wanted_plain rfl) ?_
      have e96 : a.tmps[96]?.getD undef = .slice Ay y.bytes.length cy := hp ⟨0, .data⟩ (by simp) rfl _ rfl
      have e98 : a.tmps[98]?.getD undef = .int .i64 (n : Nat) := hp ⟨2, .data⟩ (by simp) rfl _ rfl
      exact G.st_val (v := .slice Ay n cy) (w' := wq) (by simp [execOp, go_sem, e96, e98, k0, k1] <;> omega) ⟨_, rfl, Below.refl _ _, rfl⟩
    · refine G.wanted_yes (G.wanted_plain rfl) ?_
      have e3 : a.tmps[3]?.getD undef = .pointer (some ⟨w.heap.size + 1, 0, none⟩) := hS.at_ 3 rfl
      exact G.st_val (v := .pointer (some ⟨w.heap.size + 1, 4, none⟩)) (w' := wq) (by simp [execOp, go_sem, e3, k0, k1] <;> omega) ⟨_, rfl, Below.refl _ _, rfl⟩
    · refine G.wanted_yes (G.wanted_plain rfl) ?_
      have e100 : a.tmps[100]?.getD undef = .pointer (some ⟨w.heap.size + 1, 4, none⟩) := hp ⟨4, .data⟩ (by simp) rfl _ rfl
      exact G.st_val (v := .slice A0 bytes.length c0) (w' := wq) (by simp [execOp, go_sem, e100, k0, k1] <;> omega) ⟨_, rfl, Below.refl _ _, rfl⟩
    · refine G.wanted_yes (G.wanted_plain rfl) ?_
      have e99 : a.tmps[99]?.getD undef = .slice Ay n cy := hp ⟨3, .data⟩ (by simp) rfl _ rfl
      have e101 : a.tmps[101]?.getD undef = .slice A0 bytes.length c0 := hp ⟨5, .data⟩ (by simp) rfl _ rfl
      refine G.st_call (f := 48) (args := #[.slice Ay n cy, .slice A0 bytes.length c0]) (by simp [execOp, go_sem, e99, e101]) ((both_any _ _ (y.bytes.take n) bytes wq _ _ (HPRE.out.below hT') (HV8.out.below hT') (by omega) (by omega)).mono ?_); rintro e w' ⟨v2, rfl, ho2, hb2⟩; exact ⟨v2, rfl, v2, rfl, hb2, own_low ho2 hT'.size⟩
    · refine G.wanted_yes (G.wanted_plain rfl) ?_
      have q102 : (ObP W8.heap.size (y.bytes.take n ++ bytes)) wq (G.slot a (some 102)) := hp ⟨6, .data⟩ (by simp) rfl _ rfl
      exact G.st_move (.inr rfl) ⟨_, rfl, Below.refl _ _, q102⟩
  · intro a wq hT hS hp
    have e96 : G.slot a (some 96) = .slice Ay y.bytes.length cy := hp 0 _ rfl
    have e97 : G.slot a (some 97) = .pointer (some ⟨w.heap.size + 1, 3, none⟩) := hp 1 _ rfl
    have e98 : G.slot a (some 98) = .int .i64 (n : Nat) := hp 2 _ rfl
    have e99 : G.slot a (some 99) = .slice Ay n cy := hp 3 _ rfl
    have e100 : G.slot a (some 100) = .pointer (some ⟨w.heap.size + 1, 4, none⟩) := hp 4 _ rfl
    have e101 : G.slot a (some 101) = .slice A0 bytes.length c0 := hp 5 _ rfl
    have q102 : (ObP W8.heap.size (y.bytes.take n ++ bytes)) wq (G.slot a (some 102)) := hp 6 _ rfl
    have q10 : (ObP W8.heap.size (y.bytes.take n ++ bytes)) wq (G.slot a (some 10)) := hp 7 _ rfl
    have ha := G.act_of hS
    simp only [List.foldl_cons, List.foldl_nil, Act.put, List.setIfInBounds_toArray, List.set_cons_succ, List.set_cons_zero, e96, e97, e98, e99, e100, e101] at ha
    generalize G.slot a (some 102) = s102 at q102 ha
    generalize G.slot a (some 10) = s10 at q10 ha
    clear hp hS e96 e97 e98 e99 e100 e101
    subst ha
    have hbV : Below W8.heap.size W8 wq := below_tr (Below.refl _ _).drew hT
    obtain ⟨V, rfl⟩ : ∃ x, x = wq := ⟨_, rfl⟩
    have hq10 := q10
    have HOB := Lib.hid hq10.bs
    obtain ⟨A3, c3, hv3, l3⟩ := own_slice hq10
    have hl3 : (y.bytes.take n ++ bytes).length = n + bytes.length := by rw [List.length_append, hlt]
    rw [hl3] at hv3 l3
    subst hv3
    have HBV := Lib.hid hbV
    have hzV0 := heap_bl hbV HX80.out
    have hzV1 := heap_bl hbV HX81.out
    have hszV := hbV.size
    have u0 := cell_of hzV0 0
    have u1 := cell_of hzV1 1
    simp at u0 u1
    clear hT hq10 q10 q102 hbV t0 t1 hzV0 hzV1
    by_cases hlong : n + bytes.length < y.bytes.length
    · obtain ⟨yb, yo, rfl⟩ := bs_some HYB.out (by omega)
      have HRS := Lib.hid (bs_rest (HYB.out.below HBV.out) (n + bytes.length) (by omega) (by omega))
      have HBO := Lib.hid (both_any _ _ (y.bytes.take n ++ bytes) (y.bytes.drop (n + bytes.length)) V _ _ HOB.out HRS.out (by omega) (by simp only [List.length_drop]; omega))
      go_wp2_with fail
      refine HBO.out.mono ?_
      rintro e V2 ⟨v4, rfl, ho4, hb4⟩
      have hbV2 := below_tr HBV.out hb4
      have HB2 := Lib.hid hbV2
      have hv4 := ho4.bs
      have HT := Lib.hid (rwith_any name _ es _ (over y.bytes n bytes) V2 _ _ (HS8.out.below hbV2) (by omega) hv4)
      rw [withF_eq (ok_rise HK.out), HLZ.out] at HT
      have hs2 := hbV2.size
      obtain ⟨A4, c4, e4, -, -, -, -⟩ := hv4.open_
      have l4 : (y.bytes.take n ++ bytes ++ y.bytes.drop (n + bytes.length)).length = y.bytes.length := by simp only [List.length_append, List.length_drop, hlt]; omega
      rw [l4] at e4
      subst e4
      clear l4
      have u0 := cell_of (heap_bl hbV2 HX80.out) 0
      have u1 := cell_of (heap_bl hbV2 HX81.out) 1
      simp at u0 u1
      clear hbV2 ho4 hb4 hv4 HBO
      go_wp2_with fail
      refine HT.out.mono ?_
      rintro e w9 ⟨v9, e9, rfl, hf9, hr9, hb9'⟩
      have hb9 := below_tr HB2.out hb9'
      clear hb9' HT HLZ
      obtain ⟨Az, cz, rfl, n1, n2⟩ := fs_form hr9.fs
      have hw8 : W8.heap.size ≤ w9.heap.size := hb9.size
      have hz8 := heap_bl hb9 HX8.out
      have hz0 := heap_bl hb9 HX80.out
      have hz1 := heap_bl hb9 HX81.out
      have hz2 := heap_bl hb9 HX82.out
      have hzb := below_tr HB8.out hb9
      have hzs := HS8.out.below hb9
      obtain ⟨ez, hez⟩ : ∃ x, x = e9 := ⟨_, rfl⟩
      subst hez
      have z8 := cell_of hz8 0
      have zf := frozen_of hz8 0
      simp at z8
      obtain ⟨Z, hZ⟩ : ∃ Z, w9.setCell ⟨Y.heap.size, 0, none⟩ (.slice Az ez.length cz) = Z := ⟨_, rfl⟩
      have HFZ := Lib.hid hf9
      have HZ8 := Lib.hid (show Z.heap[Y.heap.size]? = some (.cells #[.slice Az ez.length cz] 24 (0, 0)) by rw [← hZ]; exact heap_setCell_same _ _ 0 _ _ _ hz8)
      have HZ0 := Lib.hid (show Z.heap[w.heap.size]? = some (.cells #[.slice (some ⟨bA, o, none⟩) es.length c] 24 (0, 0)) by rw [← hZ]; exact (heap_setCell_other _ _ _ _ (by simp; omega)).trans hz0)
      have HZ1 := Lib.hid (show Z.heap[w.heap.size + 1]? = some (.cells #[.int .i64 2, .string ⟨name.toArray⟩, .string ⟨new.toArray⟩, .int .i64 (n : Nat), .slice A0 bytes.length c0] 37 (0, 0)) by rw [← hZ]; exact (heap_setCell_other _ _ _ _ (by simp; omega)).trans hz1)
      have HZ2 := Lib.hid (show Z.heap[w.heap.size + 1 + 1]? = some (.cells #[.slice none 0 0] 24 (0, 0)) by rw [← hZ]; exact (heap_setCell_other _ _ _ _ (by simp; omega)).trans hz2)
      have HZB := Lib.hid (show Below w.heap.size w Z by rw [← hZ]; exact below_sc hzb (by simp; omega) _)
      have HZS := Lib.hid (show Fs Z F (.slice (some ⟨bA, o, none⟩) es.length c) es by rw [← hZ]; exact fs_set hzs hz8 _)
      have HZF := Lib.hid (show Fs Z _ (.slice Az ez.length cz) ez by rw [← hZ]; exact fs_set hr9.fs hz8 _)
      have HZY := Lib.hid hZ
      have hszZ : Z.heap.size = w9.heap.size := by rw [← hZ]; exact World.size_setCell _ _ _
      clear p0 p1 b0 y0 y1 y2 y3 y4 r0 r1 d0 x8 f8 hz8 hz0 hz1 hz2 hzb hzs hf9 hr9
      have hez : ez.length = LZ.length := by rw [← HFZ.out, fls_len]
      have z0 := cell_of HZ8.out 0
      have b0 := cell_of HZ0.out 0
      have y0 := cell_of HZ1.out 0
      simp at z0 b0 y0
      have r0 := cell_of HZ2.out 0
      have r1 := frozen_of HZ2.out 0
      simp at r0
      by_cases h64 : 64 < ez.length
      · have HE := Lib.hid (HD.out.trans (fin_no (.inl (by omega))))
        have d0 := set_one HZ2.out (.slice (some ⟨bA, o, none⟩) es.length c)
        clear hez
        go_wp2
        exact bodyPost_ret (v := .tuple #[.agg #[.slice (some ⟨bA, o, none⟩) es.length c], .int .i64 6]) (by simp [results, Try.results37, go_sem, d0]) rfl ⟨_, es, by rw [HE.out], (fun h0 => by rw [HE.out] at h0; cases h0), (fs_set HZS.out HZ2.out _).imp_all, below_sc HZB.out (by simp; omega) _⟩
      · have hle : LZ.length ≤ 64 := by omega
        have HLE := Lib.hid hle
        clear hez hle
        go_wp2_with fail
        refine (rcost_any _ ez _ _ HZF.out (by rw [HFZ.out]; have := HCB.out; omega)).mono ?_
        rintro e wf ⟨rfl, hbf⟩
        rw [HFZ.out]
        have HF8 := Lib.hid (heap_bl hbf HZ8.out)
        have HF0 := Lib.hid (heap_bl hbf HZ0.out)
        have HF2 := Lib.hid (heap_bl hbf HZ2.out)
        have HFB := Lib.hid (HZB.out.trans (hbf.mono (by omega)))
        have HFS := Lib.hid (HZS.out.below hbf)
        have HFF := Lib.hid (HZF.out.below hbf)
        have z0 := cell_of HF8.out 0
        have b0 := cell_of HF0.out 0
        have r0 := cell_of HF2.out 0
        have r1 := frozen_of HF2.out 0
        simp at z0 b0 r0
        clear hbf
        by_cases hcz : 32768 < cost LZ
        · have HE := Lib.hid (HD.out.trans (fin_no (.inr hcz)))
          have d0 := set_one HF2.out (.slice (some ⟨bA, o, none⟩) es.length c)
          go_wp2
          exact bodyPost_ret (v := .tuple #[.agg #[.slice (some ⟨bA, o, none⟩) es.length c], .int .i64 6]) (by simp [results, Try.results37, go_sem, d0]) rfl ⟨_, es, by rw [HE.out], (fun h0 => by rw [HE.out] at h0; cases h0), (fs_set HFS.out HF2.out _).imp_all, below_sc HFB.out (by simp; omega) _⟩
        · have HE := Lib.hid (HD.out.trans (fin_yes HLE.out (by omega)))
          have d0 := set_one HF2.out (.slice Az ez.length cz)
          go_wp2
          exact bodyPost_ret (v := .tuple #[.agg #[.slice Az ez.length cz], .int .i64 0]) (by simp [results, Try.results37, go_sem, d0]) rfl ⟨_, ez, by rw [HE.out], fun _ => by rw [HE.out]; exact HFZ.out, (fs_set HFF.out HF2.out _).imp_all, below_sc HFB.out (by simp; omega) _⟩
    · have hov : over y.bytes n bytes = y.bytes.take n ++ bytes := by unfold over; rw [List.drop_of_length_le (by omega), List.append_nil]
      rw [hov] at HLZ hol
      have HT := Lib.hid (rwith_any name _ es _ (y.bytes.take n ++ bytes) V _ _ (HS8.out.below HBV.out) (by omega) HOB.out)
      rw [withF_eq (ok_rise HK.out), HLZ.out] at HT
      clear HLZ
      go_wp2_with fail
      refine HT.out.mono ?_
      rintro e w9 ⟨v9, e9, rfl, hf9, hr9, hb9'⟩
      have hb9 := below_tr HBV.out hb9'
      clear hb9' HT
      obtain ⟨Az, cz, rfl, n1, n2⟩ := fs_form hr9.fs
      have hw8 : W8.heap.size ≤ w9.heap.size := hb9.size
      have hz8 := heap_bl hb9 HX8.out
      have hz0 := heap_bl hb9 HX80.out
      have hz1 := heap_bl hb9 HX81.out
      have hz2 := heap_bl hb9 HX82.out
      have hzb := below_tr HB8.out hb9
      have hzs := HS8.out.below hb9
      obtain ⟨ez, hez⟩ : ∃ x, x = e9 := ⟨_, rfl⟩
      subst hez
      have z8 := cell_of hz8 0
      have zf := frozen_of hz8 0
      simp at z8
      obtain ⟨Z, hZ⟩ : ∃ Z, w9.setCell ⟨Y.heap.size, 0, none⟩ (.slice Az ez.length cz) = Z := ⟨_, rfl⟩
      have HFZ := Lib.hid hf9
      have HZ8 := Lib.hid (show Z.heap[Y.heap.size]? = some (.cells #[.slice Az ez.length cz] 24 (0, 0)) by rw [← hZ]; exact heap_setCell_same _ _ 0 _ _ _ hz8)
      have HZ0 := Lib.hid (show Z.heap[w.heap.size]? = some (.cells #[.slice (some ⟨bA, o, none⟩) es.length c] 24 (0, 0)) by rw [← hZ]; exact (heap_setCell_other _ _ _ _ (by simp; omega)).trans hz0)
      have HZ1 := Lib.hid (show Z.heap[w.heap.size + 1]? = some (.cells #[.int .i64 2, .string ⟨name.toArray⟩, .string ⟨new.toArray⟩, .int .i64 (n : Nat), .slice A0 bytes.length c0] 37 (0, 0)) by rw [← hZ]; exact (heap_setCell_other _ _ _ _ (by simp; omega)).trans hz1)
      have HZ2 := Lib.hid (show Z.heap[w.heap.size + 1 + 1]? = some (.cells #[.slice none 0 0] 24 (0, 0)) by rw [← hZ]; exact (heap_setCell_other _ _ _ _ (by simp; omega)).trans hz2)
      have HZB := Lib.hid (show Below w.heap.size w Z by rw [← hZ]; exact below_sc hzb (by simp; omega) _)
      have HZS := Lib.hid (show Fs Z F (.slice (some ⟨bA, o, none⟩) es.length c) es by rw [← hZ]; exact fs_set hzs hz8 _)
      have HZF := Lib.hid (show Fs Z _ (.slice Az ez.length cz) ez by rw [← hZ]; exact fs_set hr9.fs hz8 _)
      have HZY := Lib.hid hZ
      have hszZ : Z.heap.size = w9.heap.size := by rw [← hZ]; exact World.size_setCell _ _ _
      clear p0 p1 b0 y0 y1 y2 y3 y4 r0 r1 d0 x8 f8 hz8 hz0 hz1 hz2 hzb hzs hf9 hr9
      have hez : ez.length = LZ.length := by rw [← HFZ.out, fls_len]
      have z0 := cell_of HZ8.out 0
      have b0 := cell_of HZ0.out 0
      have y0 := cell_of HZ1.out 0
      simp at z0 b0 y0
      have r0 := cell_of HZ2.out 0
      have r1 := frozen_of HZ2.out 0
      simp at r0
      by_cases h64 : 64 < ez.length
      · have HE := Lib.hid (HD.out.trans (fin_no (.inl (by omega))))
        have d0 := set_one HZ2.out (.slice (some ⟨bA, o, none⟩) es.length c)
        clear hez
        go_wp2
        exact bodyPost_ret (v := .tuple #[.agg #[.slice (some ⟨bA, o, none⟩) es.length c], .int .i64 6]) (by simp [results, Try.results37, go_sem, d0]) rfl ⟨_, es, by rw [HE.out], (fun h0 => by rw [HE.out] at h0; cases h0), (fs_set HZS.out HZ2.out _).imp_all, below_sc HZB.out (by simp; omega) _⟩
      · have hle : LZ.length ≤ 64 := by omega
        have HLE := Lib.hid hle
        clear hez hle
        go_wp2_with fail
        refine (rcost_any _ ez _ _ HZF.out (by rw [HFZ.out]; have := HCB.out; omega)).mono ?_
        rintro e wf ⟨rfl, hbf⟩
        rw [HFZ.out]
        have HF8 := Lib.hid (heap_bl hbf HZ8.out)
        have HF0 := Lib.hid (heap_bl hbf HZ0.out)
        have HF2 := Lib.hid (heap_bl hbf HZ2.out)
        have HFB := Lib.hid (HZB.out.trans (hbf.mono (by omega)))
        have HFS := Lib.hid (HZS.out.below hbf)
        have HFF := Lib.hid (HZF.out.below hbf)
        have z0 := cell_of HF8.out 0
        have b0 := cell_of HF0.out 0
        have r0 := cell_of HF2.out 0
        have r1 := frozen_of HF2.out 0
        simp at z0 b0 r0
        clear hbf
        by_cases hcz : 32768 < cost LZ
        · have HE := Lib.hid (HD.out.trans (fin_no (.inr hcz)))
          have d0 := set_one HF2.out (.slice (some ⟨bA, o, none⟩) es.length c)
          go_wp2
          exact bodyPost_ret (v := .tuple #[.agg #[.slice (some ⟨bA, o, none⟩) es.length c], .int .i64 6]) (by simp [results, Try.results37, go_sem, d0]) rfl ⟨_, es, by rw [HE.out], (fun h0 => by rw [HE.out] at h0; cases h0), (fs_set HFS.out HF2.out _).imp_all, below_sc HFB.out (by simp; omega) _⟩
        · have HE := Lib.hid (HD.out.trans (fin_yes HLE.out (by omega)))
          have d0 := set_one HF2.out (.slice Az ez.length cz)
          go_wp2
          exact bodyPost_ret (v := .tuple #[.agg #[.slice Az ez.length cz], .int .i64 0]) (by simp [results, Try.results37, go_sem, d0]) rfl ⟨_, ez, by rw [HE.out], fun _ => by rw [HE.out]; exact HFZ.out, (fs_set HFF.out HF2.out _).imp_all, below_sc HFB.out (by simp; omega) _⟩

end Go.Proofs.Ytjgobljclodpfaa
