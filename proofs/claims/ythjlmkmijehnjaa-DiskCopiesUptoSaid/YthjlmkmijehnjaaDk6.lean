/- Layer 2's walks: write. No condition beyond sizes. -/
import Derived.Test.YthjlmkmijehnjaaDk5
namespace Go.Proofs.Ythjlmkmijehnjaa
open Go.RowKit Go.Shelf K L
set_option linter.unusedVariables false
set_option linter.unusedSimpArgs false

namespace Dkp
theorem gr_heap2 {w w' : World} {r : Option Nat} (hg : w.grownBy w' r) {q : Nat} {o : Obj} (h : w.heap[q]? = some o) (hne : some q ≠ r) : w'.heap[q]? = some o :=
  (hg.block q (Array.getElem?_eq_some_iff.1 h).1 hne).trans h
theorem grown_tr {a b c : World} {r : Option Nat} (h : a.grownBy b r) (k : b.grownBy c r) : a.grownBy c r :=
  ⟨k.os.trans h.os, k.tape.trans h.tape, k.output.trans h.output, Nat.le_trans h.size k.size, fun i hi hn => (k.block i (Nat.lt_of_lt_of_le hi h.size) hn).trans (h.block i hi hn)⟩
def LitB (B : Nat) (p : Nat × Blk) (w : World) (v : Value) : Prop := ∃ q, v = .slice (some ⟨q, 0, none⟩) 1 1 ∧ w.heap[q]? = some (.cells (wcells p).toArray 80 (0, 0)) ∧ B ≤ q
theorem LitB.fresh {B : Nat} {p : Nat × Blk} {w w' : World} {v : Value} (h : LitB B p w v) (hb : Below w.heap.size w w') : LitB B p w' v := by
  obtain ⟨q, h1, h2, h3⟩ := h; exact ⟨q, h1, heap_bl hb h2, h3⟩
def InsQ (B : Nat) (v0 : Value) (ps : List (Nat × Blk)) (p : Nat × Blk) (w : World) (v : Value) : Prop := w.ownsRow 0 80 65 v (ps.length + 1) (ps.flatMap wcells ++ wcells p) ∧ (v.ownBlock = v0.ownBlock ∨ ∀ g, v.ownBlock = some g → B ≤ g)
theorem InsQ.fresh {B : Nat} {v0 : Value} {ps : List (Nat × Blk)} {p : Nat × Blk} {w w' : World} {v : Value} (h : InsQ B v0 ps p w v) (hb : Below w.heap.size w w') : InsQ B v0 ps p w' v := ⟨own_keep h.1 fun g hg => hb.block g (h.1.lt g hg).2, h.2⟩
end Dkp
open Dkp

theorem one_wc (p : Nat × Blk) : ∀ u ∈ wcells p, u.oneCell' = true := fun v hv => by
  simp only [wcells, List.mem_cons] at hv
  rcases hv with rfl | hv
  · rfl
  · exact one_bvs _ v hv
theorem row_of_heap {w : World} {q : Nat} {cs : List Value} {e k : Nat} (h : w.heap[q]? = some (.cells cs.toArray e (0, 0))) (hl : cs.length = k) (hk : 0 < k) : Sl w (· = q) k (.slice (some ⟨q, 0, none⟩) 1 1) 1 cs :=
  ⟨by omega, _, 1, rfl, Nat.le_refl _, by decide, (fun h => by cases h), fun _ => ⟨_, rfl, rfl, fun j u hu => by
    rw [Addr.add_mid, cell_in h, Nat.zero_add]; simpa using hu⟩⟩

set_option maxRecDepth 100000 in
set_option maxHeartbeats 8000000 in
theorem write1 {w : World} {S : Nat → Prop} {b p0 p1 p2 : Nat} {vs vp : Value} {d : PD} (h : Dk w S b vs vp d) (hn : d.ops < 1073741824) (i : Nat) (bl : Blk) (hi : i < d.safe.length) (hb : bl.length = 64) (hnum : d.pend.length < d.ops)
    (h0 : w.heap[p0]? = some (.cells #[.pointer (some ⟨b, 0, none⟩)] 24 (0, 0))) (h1 : w.heap[p1]? = some (.cells #[.int .i64 (i : Nat)] 3 (0, 0))) (h2 : w.heap[p2]? = some (.cells (bvs bl).toArray 27 (0, 0)))
    (n0 : ¬ S p0) (n1 : ¬ S p1) (n2 : ¬ S p2) :
    Calls Try.prog 52 #[.pointer (some ⟨p0, 0, none⟩), .pointer (some ⟨p1, 0, none⟩), .pointer (some ⟨p2, 0, none⟩)] w fun e w' => (∃ u, e = .returned u) ∧ Goes w S b (d.put i bl) w' := by
  have H := Lib.hid h
  have H0 := Lib.hid h0
  have H1 := Lib.hid h1
  have H2 := Lib.hid h2
  have hvp := own_slice h.pend
  obtain ⟨A, c, rfl, -, -, -, -⟩ := hvp
  clear h h0 h1 h2
  go_enter Try.func52, Try.ntmps52
  obtain ⟨W, hW⟩ : ∃ W, W = w := ⟨_, rfl⟩
  subst hW
  have hBe : G.Bears [⟨fun (_ : World) (v : Value) => v = .pointer (some ⟨b, 0, none⟩), none⟩, ⟨fun (_ : World) (v : Value) => v = .pointer (some ⟨b, 0, none⟩), none⟩, ⟨fun (_ : World) (v : Value) => v = .pointer (some ⟨b, 0, none⟩), none⟩, ⟨fun (_ : World) (v : Value) => v = .pointer (some ⟨b, 1, none⟩), none⟩, ⟨fun (_ : World) (v : Value) => v = .slice A d.pend.length c, none⟩, ⟨fun (_ : World) (v : Value) => v = .int .i64 (i : Nat), none⟩, ⟨fun (_ : World) (v : Value) => v = .agg (bvs bl).toArray, none⟩, ⟨fun (_ : World) (v : Value) => v = .agg (wcells (i, bl)).toArray, none⟩, ⟨LitB W.heap.size (i, bl), some 9⟩, ⟨InsQ W.heap.size (.slice A d.pend.length c) d.pend (i, bl), none⟩, ⟨fun (_ : World) (v : Value) => v = .pointer (some ⟨b, 0, none⟩), none⟩, ⟨fun (_ : World) (v : Value) => v = .pointer (some ⟨b, 1, none⟩), none⟩] := ⟨fun w w' v h hb => h, fun w w' v h hb => h, fun w w' v h hb => h, fun w w' v h hb => h, fun w w' v h hb => h, fun w w' v h hb => h, fun w w' v h hb => h, fun w w' v h hb => h, fun w w' v h hb => by first | exact G.ob_fresh h hb | exact G.keep_bs h hb | exact G.row_fresh h hb | exact Live.fresh h hb | exact CopP.fresh h hb | exact LitP.fresh h hb | exact AppP.fresh h hb | exact LitF.fresh h hb | exact InsQ.fresh h hb | exact LitB.fresh h hb | exact ClP.fresh h hb | exact AggP.fresh h hb | exact SrcP.fresh h hb, fun w w' v h hb => by first | exact G.ob_fresh h hb | exact G.keep_bs h hb | exact G.row_fresh h hb | exact Live.fresh h hb | exact CopP.fresh h hb | exact LitP.fresh h hb | exact AppP.fresh h hb | exact LitF.fresh h hb | exact InsQ.fresh h hb | exact LitB.fresh h hb | exact ClP.fresh h hb | exact AggP.fresh h hb | exact SrcP.fresh h hb, fun w w' v h hb => h, fun w w' v h hb => h, trivial⟩
  skip
  refine G.region_split 12 (by kernel_rfl) (by kernel_rfl) (G.any_two (by kernel_rfl) (G.OwnG W (Value.ownBlock (.slice A d.pend.length c)) 9) (G.of2 [⟨fun (_ : World) (v : Value) => v = .pointer (some ⟨b, 0, none⟩), none⟩, ⟨fun (_ : World) (v : Value) => v = .pointer (some ⟨b, 0, none⟩), none⟩, ⟨fun (_ : World) (v : Value) => v = .pointer (some ⟨b, 0, none⟩), none⟩, ⟨fun (_ : World) (v : Value) => v = .pointer (some ⟨b, 1, none⟩), none⟩, ⟨fun (_ : World) (v : Value) => v = .slice A d.pend.length c, none⟩, ⟨fun (_ : World) (v : Value) => v = .int .i64 (i : Nat), none⟩, ⟨fun (_ : World) (v : Value) => v = .agg (bvs bl).toArray, none⟩, ⟨fun (_ : World) (v : Value) => v = .agg (wcells (i, bl)).toArray, none⟩, ⟨LitB W.heap.size (i, bl), some 9⟩, ⟨InsQ W.heap.size (.slice A d.pend.length c) d.pend (i, bl), none⟩, ⟨fun (_ : World) (v : Value) => v = .pointer (some ⟨b, 0, none⟩), none⟩, ⟨fun (_ : World) (v : Value) => v = .pointer (some ⟨b, 1, none⟩), none⟩]) (fun L hL => G.OwnG.start W _ 9 L) ?_ (G.each_ops ?_) ?_)
  · intro i o hi hd; exact absurd hd (G.no_none (by kernel_rfl) hi)
  · refine ⟨?_, ?_, ?_, ?_, ?_, ?_, ?_, ?_, ?_, ?_, ?_, ?_, trivial⟩
    all_goals intro L a wq hLi hd hcl hU hI hS hp
    all_goals (have hb64 := hb; have np : ∀ x, ¬ S x → some x ≠ Value.ownBlock (.slice A d.pend.length c) := fun x hx e => hx (H.out.sp x e.symm).1; have k0 := cell_in (gr_heap2 hI.1 H0.out (np _ n0)) 0; have k1 := cell_in (gr_heap2 hI.1 H1.out (np _ n1)) 0; have k2 := gr_heap2 hI.1 H2.out (np _ n2); have k3 := (Hd.cells (gr_heap2 hI.1 H.out.hd (fun e => (H.out.sp b e.symm).2.1 rfl))).2.1; simp at k0 k1)
    · refine G.wanted_yes (G.wanted_plain rfl) ?_
      have e0 : a.tmps[0]?.getD undef = .pointer (some ⟨p0, 0, none⟩) := hS.at_ 0 rfl
      exact G.st_val (v := .pointer (some ⟨b, 0, none⟩)) (w' := wq) (by simp [execOp, go_sem, e0, k0, k1, k3] <;> omega) ⟨_, rfl, hI.fresh 0 (Below.refl _ _), rfl, G.of2_fresh hBe 0 (Below.refl _ _)⟩
    · refine G.wanted_yes (G.wanted_plain rfl) ?_
      have e0 : a.tmps[0]?.getD undef = .pointer (some ⟨p0, 0, none⟩) := hS.at_ 0 rfl
      exact G.st_val (v := .pointer (some ⟨b, 0, none⟩)) (w' := wq) (by simp [execOp, go_sem, e0, k0, k1, k3] <;> omega) ⟨_, rfl, hI.fresh 1 (Below.refl _ _), rfl, G.of2_fresh hBe 1 (Below.refl _ _)⟩
    · refine G.wanted_yes (G.wanted_plain rfl) ?_
      have e4 : a.tmps[4]?.getD undef = .pointer (some ⟨b, 0, none⟩) := hp 1 _ rfl (hd ⟨1, .data⟩ (by simp) rfl)
      exact G.st_val (v := .pointer (some ⟨b, 0, none⟩)) (w' := wq) (by simp [execOp, go_sem, e4, k0, k1, k3] <;> omega) ⟨_, rfl, hI.fresh 2 (Below.refl _ _), rfl, G.of2_fresh hBe 2 (Below.refl _ _)⟩
    · refine G.wanted_yes (G.wanted_plain rfl) ?_
      have e5 : a.tmps[5]?.getD undef = .pointer (some ⟨b, 0, none⟩) := hp 2 _ rfl (hd ⟨2, .data⟩ (by simp) rfl)
      exact G.st_val (v := .pointer (some ⟨b, 1, none⟩)) (w' := wq) (by simp [execOp, go_sem, e5, k0, k1, k3] <;> omega) ⟨_, rfl, hI.fresh 3 (Below.refl _ _), rfl, G.of2_fresh hBe 3 (Below.refl _ _)⟩
    · refine G.wanted_yes (G.wanted_plain rfl) ?_
      have e6 : a.tmps[6]?.getD undef = .pointer (some ⟨b, 1, none⟩) := hp 3 _ rfl (hd ⟨3, .data⟩ (by simp) rfl)
      exact G.st_val (v := .slice A d.pend.length c) (w' := wq) (by simp [execOp, go_sem, e6, k0, k1, k3] <;> omega) ⟨_, rfl, hI.fresh 4 (Below.refl _ _), rfl, G.of2_fresh hBe 4 (Below.refl _ _)⟩
    · refine G.wanted_yes (G.wanted_plain rfl) ?_
      have e1 : a.tmps[1]?.getD undef = .pointer (some ⟨p1, 0, none⟩) := hS.at_ 1 rfl
      exact G.st_val (v := .int .i64 (i : Nat)) (w' := wq) (by simp [execOp, go_sem, e1, k0, k1, k3] <;> omega) ⟨_, rfl, hI.fresh 5 (Below.refl _ _), rfl, G.of2_fresh hBe 5 (Below.refl _ _)⟩
    · refine G.wanted_yes (G.wanted_plain rfl) ?_
      have e2 : a.tmps[2]?.getD undef = .pointer (some ⟨p2, 0, none⟩) := hS.at_ 2 rfl
      have hb := Below.refl wq.heap.size wq; exact G.st_val (v := .agg (bvs bl).toArray) (w' := wq) (ex_load 27 (.tmp 2) rfl p2 0 (by rw [G.eval_tmp]; exact e2) (bvs bl) _ (fun j u hu => by rw [Nat.zero_add, cell_in k2]; simpa using hu) Try.underlying27 rfl (size_blk' hb64)) ⟨_, rfl, (hI.fresh 6 hb), rfl, (G.of2_fresh hBe 6 hb)⟩
    · refine G.wanted_yes (G.wanted_plain rfl) ?_
      have e8 : a.tmps[8]?.getD undef = .int .i64 (i : Nat) := hp 5 _ rfl (hd ⟨5, .data⟩ (by simp) rfl)
      have e9 : a.tmps[9]?.getD undef = .agg (bvs bl).toArray := hp 6 _ rfl (hd ⟨6, .data⟩ (by simp) rfl)
      have hb := Below.refl wq.heap.size wq; exact G.st_val (v := .agg (wcells (i, bl)).toArray) (w' := wq) (ex_build 80 #[(0, .tmp 8), (1, .tmp 9)] rfl (vs := #[(0, .int .i64 (i : Nat)), (1, .agg (bvs bl).toArray)]) (by simp [G.eval_tmp, G.slot, e8, e9]) (build_wrote _ bl hb64 wq)) ⟨_, rfl, (hI.fresh 7 hb), rfl, (G.of2_fresh hBe 7 hb)⟩
    · refine G.wanted_yes (G.wanted_plain rfl) ?_
      have e10 : a.tmps[10]?.getD undef = .agg (wcells (i, bl)).toArray := hp 7 _ rfl (hd ⟨7, .data⟩ (by simp) rfl)
      have hb := below_al (Below.refl wq.heap.size wq) (.cells (wcells (i, bl)).toArray 80); exact G.st_val (v := .slice (some ⟨wq.heap.size, 0, none⟩) 1 1) (w' := wq.alloc (.cells (wcells (i, bl)).toArray 80)) (ex_buildSlice 67 1 #[(0, .tmp 10)] rfl (vs := #[(0, .agg (wcells (i, bl)).toArray)]) (by simp [G.eval_tmp, G.slot, e10]) (row_wrote (i, bl) hb64 wq)) ⟨_, rfl, (hI.fresh 8 hb), .inr ⟨_, rfl, heap_alloc_last _ _, hI.1.size⟩, (G.of2_fresh hBe 8 hb)⟩
    · refine G.wanted_yes (G.wanted_plain rfl) ?_
      have e7 : a.tmps[7]?.getD undef = .slice A d.pend.length c := hp 4 _ rfl (hd ⟨4, .data⟩ (by simp) rfl)
      have q11 : L 9 = true ∨ (LitB W.heap.size (i, bl)) wq (G.slot a (some 11)) := hp 8 _ rfl (hd ⟨8, .data⟩ (by simp) rfl)
      replace q11 := q11.resolve_left (by rw [hLi]; decide)
      have own0 := hI.2.resolve_left (by rw [hLi]; decide)
      obtain ⟨q, hq, hqh, hqw⟩ := q11; refine st_app2 elW (.tmp 7) (.tmp 11) rfl 0 (H.out.below own0).pend (row_of_heap hqh (wcells_len _ hb64) (by decide)) (by rw [G.eval_tmp]; exact e7) (by rw [G.eval_tmp]; exact hq) (one_wc _) (by omega) (by decide) (Nat.zero_le _) ?_; intro v' w' ho hg hv; exact ⟨v', rfl, ⟨grown_tr hI.1 hg, .inl (G.more_self _ _)⟩, ⟨ho, hv.imp id fun h g hg => Nat.le_trans own0.size (h g hg)⟩, (G.of2_own ⟨fun _ u h => h, fun _ u h => h, fun _ u h => h, fun _ u h => h, fun _ u h => h, fun _ u h => h, fun _ u h => h, fun _ u h => h, fun _ u _ => .inl (G.more_self _ _), fun hL => absurd hL (by rw [hLi]; decide), fun _ u h => h, fun _ u h => h, trivial⟩)⟩
    · refine G.wanted_yes (G.wanted_plain rfl) ?_
      have e3 : a.tmps[3]?.getD undef = .pointer (some ⟨b, 0, none⟩) := hp 0 _ rfl (hd ⟨0, .data⟩ (by simp) rfl)
      exact G.st_val (v := .pointer (some ⟨b, 0, none⟩)) (w' := wq) (by simp [execOp, go_sem, e3, k0, k1, k3] <;> omega) ⟨_, rfl, hI.fresh 10 (Below.refl _ _), rfl, G.of2_fresh hBe 10 (Below.refl _ _)⟩
    · refine G.wanted_yes (G.wanted_plain rfl) ?_
      have e13 : a.tmps[13]?.getD undef = .pointer (some ⟨b, 0, none⟩) := hp 10 _ rfl (hd ⟨10, .data⟩ (by simp) rfl)
      exact G.st_val (v := .pointer (some ⟨b, 1, none⟩)) (w' := wq) (by simp [execOp, go_sem, e13, k0, k1, k3] <;> omega) ⟨_, rfl, hI.fresh 11 (Below.refl _ _), rfl, G.of2_fresh hBe 11 (Below.refl _ _)⟩
  · intro L a wq hL hI hS hp
    have hT := hI.1
    have e3 : G.slot a (some 3) = .pointer (some ⟨b, 0, none⟩) := hp 0 _ rfl
    have e4 : G.slot a (some 4) = .pointer (some ⟨b, 0, none⟩) := hp 1 _ rfl
    have e5 : G.slot a (some 5) = .pointer (some ⟨b, 0, none⟩) := hp 2 _ rfl
    have e6 : G.slot a (some 6) = .pointer (some ⟨b, 1, none⟩) := hp 3 _ rfl
    have e7 : G.slot a (some 7) = .slice A d.pend.length c := hp 4 _ rfl
    have e8 : G.slot a (some 8) = .int .i64 (i : Nat) := hp 5 _ rfl
    have e9 : G.slot a (some 9) = .agg (bvs bl).toArray := hp 6 _ rfl
    have e10 : G.slot a (some 10) = .agg (wcells (i, bl)).toArray := hp 7 _ rfl
    have q12 : (InsQ W.heap.size (.slice A d.pend.length c) d.pend (i, bl)) wq (G.slot a (some 12)) := hp 9 _ rfl
    have e13 : G.slot a (some 13) = .pointer (some ⟨b, 0, none⟩) := hp 10 _ rfl
    have e14 : G.slot a (some 14) = .pointer (some ⟨b, 1, none⟩) := hp 11 _ rfl
    have ha := G.act_of hS
    simp only [List.take_succ_cons, List.take_zero, List.foldl_cons, List.foldl_nil, Act.put, List.setIfInBounds_toArray, List.set_cons_succ, List.set_cons_zero, e3, e4, e5, e6, e7, e8, e9, e10, e13, e14] at ha
    generalize G.slot a (some 11) = s11 at ha
    generalize G.slot a (some 12) = s12 at q12 ha
    clear hp hS hI hBe  e3 e4 e5 e6 e7 e8 e9 e10 e13 e14
    subst ha
    show wpList _ _ _ _ _ _
    simp only [List.drop_succ_cons, List.drop_zero]
    obtain ⟨ho, hv⟩ := q12
    have hgr := hT
    have hdq : Hd wq b vs (.slice A d.pend.length c) d := gr_heap2 hT H.out.hd (fun e => (H.out.sp b e.symm).2.1 rfl)
    have k3 := hdq.cells.2.1
    have f3 := hdq.frozen 1
    have HG := Lib.hid (wl_row H.out i bl hi hb hnum hgr ho hv)
    obtain ⟨A5, c5, rfl, -, -, -, -⟩ := own_slice ho
    clear ho hv hgr hT hdq
    go_wp2
    go_end0
    exact ⟨⟨_, rfl⟩, HG.out⟩

end Go.Proofs.Ythjlmkmijehnjaa
