/- Layer 5's reference: files with one, and without one. No condition beyond sizes. -/
import Derived.Test.YtjgobljclodpfaaFr2
namespace Go.Proofs.Ytjgobljclodpfaa
open Go.RowKit Go.Shelf K L
set_option linter.unusedVariables false
set_option linter.unusedSimpArgs false

/-- Three boxes: what came in, the result, the list that grows; the list's row is the call's own, its bytes are older. -/
structure BX (w wr : World) (V vo : Value) (eo : List FE) : Prop where
  b0 : wr.heap[w.heap.size]? = some (.cells #[V] 24 (0, 0))
  b1 : wr.heap[w.heap.size + 1]? = some (.cells #[.slice none 0 0] 24 (0, 0))
  b2 : wr.heap[w.heap.size + 1 + 1]? = some (.cells #[vo] 24 (0, 0))
  own : wr.ownsRow (w.heap.size + 1 + 1 + 1) 40 2 vo eo.length (eo.flatMap FE.cells)
  inn : ∀ e ∈ eo, Bs wr (· < w.heap.size) e.2 e.1.bytes
  below : Below w.heap.size w wr

theorem BX.start (w : World) (V : Value) : BX w (((w.alloc (.cells #[V] 24)).alloc (.cells #[.slice none 0 0] 24)).alloc (.cells #[.slice none 0 0] 24)) V (.slice none 0 0) [] := by
  have h1 := heap_alloc_new w (.cells #[V] 24)
  have h2 := heap_alloc_new (w.alloc (.cells #[V] 24)) (.cells #[.slice none 0 0] 24)
  have h3 := heap_alloc_new ((w.alloc (.cells #[V] 24)).alloc (.cells #[.slice none 0 0] 24)) (.cells #[.slice none 0 0] 24)
  rw [World.size_alloc] at h2
  rw [World.size_alloc, World.size_alloc] at h3
  exact ⟨heap_al (heap_al h1 _) _, heap_al h2 _, h3, World.ownsRow_nil _ _ _ _, (fun e he => by cases he), below_al (below_al (below_al (Below.refl _ _) _) _) _⟩
theorem BX.next {w wr w2 : World} {V vo : Value} {eo : List FE} (h : BX w wr V vo eo) (hb : Below wr.heap.size wr w2) : BX w w2 V vo eo :=
  ⟨heap_bl hb h.b0, heap_bl hb h.b1, heap_bl hb h.b2, own_keep h.own fun g hg => hb.block g (h.own.lt g hg).2, fun e he => (h.inn e he).below hb, below_tr h.below hb⟩
theorem BX.size {w wr : World} {V vo : Value} {eo : List FE} (h : BX w wr V vo eo) : w.heap.size + 1 + 1 < wr.heap.size := (Array.getElem?_eq_some_iff.1 h.b2).1
theorem BX.far {w wr w' : World} {V vo : Value} {eo : List FE} (h : BX w wr V vo eo) (hg : wr.grownBy w' vo.ownBlock) {q : Nat} (hq : q < w.heap.size + 1 + 1 + 1) : w'.heap[q]? = wr.heap[q]? := by
  have hs : w.heap.size + 1 + 1 < wr.heap.size := (Array.getElem?_eq_some_iff.1 h.b2).1
  exact hg.block _ (by omega) (fun e => by have := (h.own.lt _ e.symm).1; omega)
theorem BX.mid {w wr w' : World} {V vo : Value} {eo : List FE} (h : BX w wr V vo eo) (hg : wr.grownBy w' vo.ownBlock) : w'.heap[w.heap.size + 1 + 1]? = some (.cells #[vo] 24 (0, 0)) := by
  have hs := h.size
  exact (hg.block _ hs (fun e => by have := (h.own.lt _ e.symm).1; omega)).trans h.b2
theorem BX.push {w wr w' : World} {V vo v' : Value} {eo : List FE} {x : Fl} {vb : Value} (h : BX w wr V vo eo) (hb : Bs wr (· < w.heap.size) vb x.bytes)
    (ho : w'.ownsRow (w.heap.size + 1 + 1 + 1) 40 2 v' (eo.length + 1) (eo.flatMap FE.cells ++ [.string ⟨x.name.toArray⟩, vb])) (hg : wr.grownBy w' vo.ownBlock) :
    BX w (w'.setCell ⟨w.heap.size + 1 + 1, 0, none⟩ v') V v' (eo ++ [(x, vb)]) := by
  have hs := h.size
  have hne : ∀ q, q < w.heap.size + 1 + 1 + 1 → some q ≠ vo.ownBlock := fun q hq e => by have := (h.own.lt q e.symm).1; omega
  have hbs : ∀ (u : Value) (bs : List UInt8), Bs wr (· < w.heap.size) u bs → Bs (w'.setCell ⟨w.heap.size + 1 + 1, 0, none⟩ v') (· < w.heap.size) u bs := fun u bs hu =>
    Sl.keep hu (by omega) fun b hl hf => (heap_setCell_other w' ⟨w.heap.size + 1 + 1, 0, none⟩ b v' (by simp; omega)).trans (hg.block b hl (hne b (by omega)))
  refine ⟨heap_sc ((hg.block _ (by omega) (hne _ (by omega))).trans h.b0) _ _ (by simp; omega), heap_sc ((hg.block _ (by omega) (hne _ (by omega))).trans h.b1) _ _ (by simp), heap_setCell_same _ _ 0 _ _ _ (h.mid hg), ?_, fun e he => ?_, ?_⟩
  · rw [List.length_append, List.flatMap_append]
    exact own_keep ho fun g hg' => heap_setCell_other w' ⟨w.heap.size + 1 + 1, 0, none⟩ g v' (by have := (ho.lt g hg').1; simp; omega)
  · rcases List.mem_append.1 he with he | he
    · exact hbs _ _ (h.inn e he)
    · obtain rfl := List.mem_singleton.1 he
      exact hbs _ _ hb
  · exact below_sc (own_below h.below (own_low h.own (by omega)) hg (Nat.le_refl _)) (by simp; omega) _

/-- What such a call gives: a row of its own over older bytes. -/
def RFs (w : World) (base : Nat) (v : Value) (es : List FE) : Prop := w.ownsRow base 40 2 v es.length (es.flatMap FE.cells) ∧ ∀ e ∈ es, Bs w (· < w.heap.size) e.2 e.1.bytes
theorem RFs.fs {w : World} {base : Nat} {v : Value} {es : List FE} (h : RFs w base v es) : Fs w (base ≤ ·) v es := ⟨Sl.of_own h.1, h.2⟩

/-- One file as a source of an append. -/
theorem lit_src (w : World) (nm : List UInt8) (u : Value) : Sl (w.alloc (.cells #[.string ⟨nm.toArray⟩, u] 40)) (fun _ => True) 2 (.slice (some ⟨w.heap.size, 0, none⟩) 1 1) 1 [.string ⟨nm.toArray⟩, u] :=
  (Sl.lit w [.string ⟨nm.toArray⟩, u] 40 2 1 rfl (by simp [maxLen])).imp (fun _ _ _ => trivial) (by decide)
def LitF (nm : List UInt8) (u : Value) (w : World) (v : Value) : Prop := Sl w (fun _ => True) 2 v 1 [.string ⟨nm.toArray⟩, u]
theorem LitF.fresh {nm : List UInt8} {u : Value} {w w' : World} {v : Value} (h : LitF nm u w v) (hb : Below w.heap.size w w') : LitF nm u w' v := Sl.below h (by decide) hb

/-- The end: the list goes into the result's box. -/
theorem BX.end_ {w wr : World} {V : Value} {A : Option Addr} {n c : Nat} {eo : List FE} (h : BX w wr V (.slice A n c) eo) :
    (wr.setCell ⟨w.heap.size + 1, 0, none⟩ (.slice A n c)).cell? ⟨w.heap.size + 1, 0, none⟩ = some (.slice A n c) ∧ RFs (wr.setCell ⟨w.heap.size + 1, 0, none⟩ (.slice A n c)) w.heap.size (.slice A n c) eo ∧ Below w.heap.size w (wr.setCell ⟨w.heap.size + 1, 0, none⟩ (.slice A n c)) := by
  have hs := h.size
  have hz := heap_setCell_same _ _ 0 _ _ (.slice A n c) h.b1
  have d := cell_of hz 0
  refine ⟨by simpa using d, ⟨own_low (own_keep h.own fun g hg => heap_setCell_other wr ⟨w.heap.size + 1, 0, none⟩ g _ (by have := (h.own.lt g hg).1; simp; omega)) (by omega), fun e he => ?_⟩, below_sc h.below (by simp) _⟩
  refine (Sl.keep (h.inn e he) (by omega) fun b hl hf => heap_setCell_other wr ⟨w.heap.size + 1, 0, none⟩ b _ (by simp; omega)) |>.imp (fun b hb _ => hb) (by omega)

def dropF (l : List Fl) (nm : List UInt8) : List Fl := l.filter fun x => !(x.name == nm)

set_option maxRecDepth 100000 in
set_option maxHeartbeats 4000000 in
theorem rwithout_any (nm : List UInt8) (v : Value) (es : List FE) (w : World) (F : Nat → Prop) (h : Fs w F v es) (hl : es.length ≤ 10000000) :
    Calls Try.prog 63 #[.agg #[v], .string ⟨nm.toArray⟩] w fun e w' => ∃ v' es', e = .returned (.agg #[v']) ∧ fls es' = dropF (fls es) nm ∧ RFs w' w.heap.size v' es' ∧ Below w.heap.size w w' := by
  have hs := h
  obtain ⟨A, c, rfl, l1, l2⟩ := fs_form h
  clear h
  have HST := Lib.hid (BX.start w (.slice A es.length c))
  go_enter Try.func63, Try.ntmps63
  go_wp2
  go_loopw [6] (fun i wr => ∃ (k : Nat) (vo : Value) (eo : List FE), k ≤ es.length ∧ i = .int .i64 k ∧ eo.length ≤ k ∧ fls eo = dropF (fls (es.take k)) nm ∧ BX w wr (.slice A es.length c) vo eo) (fun i _ => es.length - (intOf i).toNat)
  case atStart => exact ⟨0, _, [], Nat.zero_le _, rfl, Nat.le_refl _, rfl, HST.out⟩
  case round =>
    clear HST
    obtain ⟨k, vo, eo, hk, rfl, hel, hfl, hX⟩ := hrel
    have HX := Lib.hid hX
    have hB := hX.below
    have hsz := hX.size
    have q0 := cell_of hX.b0 0
    simp at q0
    by_cases hlt : k < es.length
    · obtain ⟨b, o, hA, hb, c0, c1⟩ := fs_at (hs.below hB) k hlt
      subst hA
      have hvb := (hs.2 es[k] (List.getElem_mem hlt)).belowB hB
      have hsn := fls_take_snoc es k hlt
      generalize es[k] = y at *
      obtain ⟨y, vb⟩ := y
      dsimp only at c0 c1 hvb hsn
      have HSN := Lib.hid hsn
      have HFL := Lib.hid hfl
      have HVB := Lib.hid hvb
      obtain ⟨Ay, cy, rfl, -⟩ := hvb.open_
      clear hvb hsn hfl hX
      cases h1 : y.name == nm
      · have HH := Lib.hid h1
        clear hB
        go_wp2
        refine G.region_split 8 (by kernel_rfl) (by kernel_rfl) (G.any_inv (by kernel_rfl) (fun w w' => Below w.heap.size w w') (fun _ _ _ h k => below_tr h k) (fun w _ => Below.refl _ _) (Below.refl _ _)
          (G.of [(fun (_ : World) (v : Value) => v = .pointer (some ⟨w.heap.size + 1 + 1, 0, none⟩)), (fun (_ : World) (v : Value) => v = vo), (fun (_ : World) (v : Value) => v = .pointer (some ⟨w.heap.size, 0, none⟩)), (fun (_ : World) (v : Value) => v = .slice (some ⟨b, o, none⟩) es.length c), (fun (_ : World) (v : Value) => v = .int .i64 (k : Nat)), (fun (_ : World) (v : Value) => v = .pointer (some ⟨b, o + k * 2, none⟩)), (fun (_ : World) (v : Value) => v = .agg #[.string ⟨y.name.toArray⟩, .slice Ay y.bytes.length cy]), (LitF y.name (.slice Ay y.bytes.length cy))])
          (G.of_stays _ ?_) ?_ (G.each_ops ?_) ?_)
        · exact ⟨(fun w w' v h k => h), (fun w w' v h k => h), (fun w w' v h k => h), (fun w w' v h k => h), (fun w w' v h k => h), (fun w w' v h k => h), (fun w w' v h k => h), (fun w w' v h k => by first | exact h | exact G.keep_bs h k | exact Ls.below h k | exact CopP.fresh h k | exact AggP.fresh h k | exact SrcP.fresh h k | exact Bs.below h k | exact ClP.fresh h k | exact Emp.fresh h k | exact LitF.fresh h k | exact ObP.fresh h k | exact CpF.fresh h k | (obtain ⟨x1, x2, F', hb⟩ := h; exact ⟨x1, x2, F', hb.below k⟩)), trivial⟩
        · intro i o hi hd; exact absurd hd (G.no_none (by kernel_rfl) hi)
        · refine ⟨?_, ?_, ?_, ?_, ?_, ?_, ?_, ?_, trivial⟩
          all_goals intro a wq hT hS hp
          all_goals (have hT' : Below wr.heap.size wr wq := below_tr (Below.refl _ _).drew hT; have d0 := cell_of (HX.out.next hT').b0 0; have d1 := cell_of (HX.out.next hT').b2 0; have d2 := (World.cell?_of_block (hT'.block b hb)).trans c0; have d3 := (World.cell?_of_block (hT'.block b hb)).trans c1; simp at d0 d1)
          · refine G.wanted_yes (G.wanted_plain rfl) ?_
            have e5 : a.tmps[5]?.getD undef = .pointer (some ⟨w.heap.size + 1 + 1, 0, none⟩) := hS.at_ 5 rfl
            exact G.st_val (v := .pointer (some ⟨w.heap.size + 1 + 1, 0, none⟩)) (w' := wq) (by simp [execOp, go_sem, e5, d0, d1, d2, d3, hlt] <;> omega) ⟨_, rfl, Below.refl _ _, rfl⟩
          · refine G.wanted_yes (G.wanted_plain rfl) ?_
            have e22 : a.tmps[22]?.getD undef = .pointer (some ⟨w.heap.size + 1 + 1, 0, none⟩) := hp ⟨0, .data⟩ (by simp) rfl _ rfl
            exact G.st_val (v := vo) (w' := wq) (by simp [execOp, go_sem, e22, d0, d1, d2, d3, hlt] <;> omega) ⟨_, rfl, Below.refl _ _, rfl⟩
          · refine G.wanted_yes (G.wanted_plain rfl) ?_
            have e2 : a.tmps[2]?.getD undef = .pointer (some ⟨w.heap.size, 0, none⟩) := hS.at_ 2 rfl
            exact G.st_val (v := .pointer (some ⟨w.heap.size, 0, none⟩)) (w' := wq) (by simp [execOp, go_sem, e2, d0, d1, d2, d3, hlt] <;> omega) ⟨_, rfl, Below.refl _ _, rfl⟩
          · refine G.wanted_yes (G.wanted_plain rfl) ?_
            have e24 : a.tmps[24]?.getD undef = .pointer (some ⟨w.heap.size, 0, none⟩) := hp ⟨2, .data⟩ (by simp) rfl _ rfl
            exact G.st_val (v := .slice (some ⟨b, o, none⟩) es.length c) (w' := wq) (by simp [execOp, go_sem, e24, d0, d1, d2, d3, hlt] <;> omega) ⟨_, rfl, Below.refl _ _, rfl⟩
          · refine G.wanted_yes (G.wanted_plain rfl) ?_
            have e6 : a.tmps[6]?.getD undef = .int .i64 (k : Nat) := hS.at_ 6 rfl
            exact G.st_val (v := .int .i64 (k : Nat)) (w' := wq) (by simp [execOp, go_sem, e6, d0, d1, d2, d3, hlt] <;> omega) ⟨_, rfl, Below.refl _ _, rfl⟩
          · refine G.wanted_yes (G.wanted_plain rfl) ?_
            have e25 : a.tmps[25]?.getD undef = .slice (some ⟨b, o, none⟩) es.length c := hp ⟨3, .data⟩ (by simp) rfl _ rfl
            have e26 : a.tmps[26]?.getD undef = .int .i64 (k : Nat) := hp ⟨4, .data⟩ (by simp) rfl _ rfl
            exact G.st_val (v := .pointer (some ⟨b, o + k * 2, none⟩)) (w' := wq) (by simp [execOp, go_sem, e25, e26, d0, d1, d2, d3, hlt] <;> omega) ⟨_, rfl, Below.refl _ _, rfl⟩
          · refine G.wanted_yes (G.wanted_plain rfl) ?_
            have e27 : a.tmps[27]?.getD undef = .pointer (some ⟨b, o + k * 2, none⟩) := hp ⟨5, .data⟩ (by simp) rfl _ rfl
            exact G.st_val (v := .agg #[.string ⟨y.name.toArray⟩, .slice Ay y.bytes.length cy]) (w' := wq) (by simp [execOp, go_sem, e27, d0, d1, d2, d3, hlt] <;> omega) ⟨_, rfl, Below.refl _ _, rfl⟩
          · refine G.wanted_yes (G.wanted_plain rfl) ?_
            have e28 : a.tmps[28]?.getD undef = .agg #[.string ⟨y.name.toArray⟩, .slice Ay y.bytes.length cy] := hp ⟨6, .data⟩ (by simp) rfl _ rfl
            exact G.st_val (v := .slice (some ⟨wq.heap.size, 0, none⟩) 1 1) (w' := wq.alloc (.cells #[.string ⟨y.name.toArray⟩, .slice Ay y.bytes.length cy] 40)) (by simp [execOp, go_sem, e28]) ⟨_, rfl, below_al (Below.refl _ _) _, lit_src _ _ _⟩
        · intro a wq hT hS hp
          have e22 : G.slot a (some 22) = .pointer (some ⟨w.heap.size + 1 + 1, 0, none⟩) := hp 0 _ rfl
          have e23 : G.slot a (some 23) = vo := hp 1 _ rfl
          have e24 : G.slot a (some 24) = .pointer (some ⟨w.heap.size, 0, none⟩) := hp 2 _ rfl
          have e25 : G.slot a (some 25) = .slice (some ⟨b, o, none⟩) es.length c := hp 3 _ rfl
          have e26 : G.slot a (some 26) = .int .i64 (k : Nat) := hp 4 _ rfl
          have e27 : G.slot a (some 27) = .pointer (some ⟨b, o + k * 2, none⟩) := hp 5 _ rfl
          have e28 : G.slot a (some 28) = .agg #[.string ⟨y.name.toArray⟩, .slice Ay y.bytes.length cy] := hp 6 _ rfl
          have q29 : (LitF y.name (.slice Ay y.bytes.length cy)) wq (G.slot a (some 29)) := hp 7 _ rfl
          have ha := G.act_of hS
          simp only [List.take_succ_cons, List.take_zero, List.foldl_cons, List.foldl_nil, Act.put, List.setIfInBounds_toArray, List.set_cons_succ, List.set_cons_zero, e22, e23, e24, e25, e26, e27, e28] at ha
          generalize G.slot a (some 29) = s29 at q29 ha
          clear hp hS e22 e23 e24 e25 e26 e27 e28
          subst ha
          show wpList _ _ _ _ _ _
          simp only [List.drop_succ_cons, List.drop_zero]
          have hT2 : Below wr.heap.size wr wq := below_tr (Below.refl _ _).drew hT
          have HX2 := Lib.hid (HX.out.next hT2)
          have HV2 := Lib.hid (HVB.out.below hT2)
          have HSRC := Lib.hid q29
          have hsz2 := hT2.size
          clear hT2 hT q29
          go_wp2_with (at_builtin; go_must (refine app2 Try.elF rfl _ _ rfl (w.heap.size + 1 + 1 + 1) HX2.out.own HSRC.out rfl rfl (by intro z hz; simp at hz; rcases hz with rfl | rfl <;> rfl) (by omega) (by decide) (by omega) ?_); intro v' w' ho hg hv; have HN := Lib.hid (BX.push HX2.out HV2.out ho hg); have hm3 := HX2.out.mid hg; obtain ⟨A4, c4, rfl, -⟩ := own_slice ho; have e0 := cell_of hm3 0; have f0 := frozen_of hm3 0; simp at e0; clear ho hg hv hm3)
          refine ⟨⟨k + 1, _, _, by omega, by go_num, by simp; omega, ?_, HN.out⟩, by simp only [intOf]; omega⟩
          rw [HSN.out]
          simp only [fls, List.map_append, List.map_cons, List.map_nil] at HFL ⊢
          rw [HFL.out]
          simp [dropF, HH.out]
      · have HH := Lib.hid h1
        clear hB
        go_wp2
        refine ⟨⟨k + 1, _, _, by omega, by go_num, by omega, ?_, HX.out⟩, by simp only [intOf]; omega⟩
        rw [HSN.out, HFL.out]
        simp [dropF, HH.out]
    · obtain rfl : k = es.length := by omega
      rw [List.take_length] at hfl
      have HFL := Lib.hid hfl
      obtain ⟨A4, c4, rfl, -⟩ := own_slice hX.own
      obtain ⟨d, hR, hB7⟩ := hX.end_
      have c3 := cell_of hX.b2 0
      have d2 := cell_of hX.b1 0
      have f2 := frozen_of hX.b1 0
      simp at c3 d2
      have HR := Lib.hid hR
      have HB7 := Lib.hid hB7
      clear hR hB7 hX hB hfl HX
      go_wp2
      generalize wr.setCell ⟨w.heap.size + 1, 0, none⟩ (.slice A4 eo.length c4) = wf at *
      exact bodyPost_ret (v := .agg #[.slice A4 eo.length c4]) (by simp [results, Try.results63, go_sem, d]) rfl ⟨_, eo, rfl, HFL.out, HR.out, HB7.out⟩

end Go.Proofs.Ytjgobljclodpfaa
