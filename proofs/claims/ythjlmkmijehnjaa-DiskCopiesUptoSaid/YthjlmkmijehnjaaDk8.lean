/- Layer 2's walks: a copy of a disk. No condition beyond sizes. -/
import Derived.Test.YthjlmkmijehnjaaDk7
namespace Go.Proofs.Ythjlmkmijehnjaa
open Go.RowKit Go.Shelf K L
set_option linter.unusedVariables false
set_option linter.unusedSimpArgs false

theorem elB : Elem Try.prog 35 27 64 64 (.agg (bvs zblk).toArray) := ⟨Try.underlying35, by kernel_rfl, rfl, by decide⟩
theorem one_flat {α : Type} {f : α → List Value} (h : ∀ a, ∀ u ∈ f a, u.oneCell' = true) (es : List α) : ∀ u ∈ es.flatMap f, u.oneCell' = true := fun u hu => by
  obtain ⟨a, _, ha⟩ := List.mem_flatMap.1 hu; exact h a u ha

set_option maxHeartbeats 400000 in
theorem clone_blk (v : Value) (bs : List Blk) (w : World) (F : Nat → Prop) (h : Sl w F 64 v bs.length (bs.flatMap bvs)) (hb : bs.length ≤ 1073741824) :
    Calls Try.prog 50 #[v] w fun e w' => ∃ v', e = .returned v' ∧ w'.ownsRow w.heap.size 27 64 v' bs.length (bs.flatMap bvs) ∧ Below w.heap.size w w' := by
  have hs := h
  obtain ⟨-, A, c, rfl, h1, h2, h3, -⟩ := h
  have hq := fun w n c => Lib.run_eql_slice_nil (P := Try.prog) w 35 27 A n c 0 0 Try.underlying35
  cases A with
  | none =>
    obtain rfl : c = 0 := h3 rfl
    obtain rfl : bs = [] := List.eq_nil_of_length_eq_zero (by omega)
    go_enter Try.func50, Try.ntmps50
    go_wp2
    go_ret
    exact ⟨_, rfl, World.ownsRow_nil _ _ _ _, Below.refl _ _⟩
  | some ad =>
    go_enter Try.func50, Try.ntmps50
    go_wp2_with (at_builtin; refine app elB rfl _ _ rfl w.heap.size (World.ownsRow_lit w _ 0 (Nat.le_refl _) (by simp [maxLen]) rfl) (Sl.below hs (by omega) ((Below.refl _ _).alloc (Nat.le_refl _) _)) rfl rfl (one_flat one_bvs bs) (by omega) (by omega) (by simp) ?_; intro v' w1 ho hg)
    go_ret
    rw [Nat.zero_add, List.nil_append] at ho
    exact ⟨_, rfl, ho, ((Below.refl _ _).alloc (Nat.le_refl _) _).grown hg (by simp) (fun k hk => by cases hk; exact Nat.le_refl _)⟩

set_option maxHeartbeats 400000 in
theorem clone_wr (v : Value) (bs : List (Nat × Blk)) (w : World) (F : Nat → Prop) (h : Sl w F 65 v bs.length (bs.flatMap wcells)) (hb : bs.length ≤ 1073741824) :
    Calls Try.prog 51 #[v] w fun e w' => ∃ v', e = .returned v' ∧ w'.ownsRow w.heap.size 80 65 v' bs.length (bs.flatMap wcells) ∧ Below w.heap.size w w' := by
  have hs := h
  obtain ⟨-, A, c, rfl, h1, h2, h3, -⟩ := h
  have hq := fun w n c => Lib.run_eql_slice_nil (P := Try.prog) w 67 80 A n c 0 0 Try.underlying67
  cases A with
  | none =>
    obtain rfl : c = 0 := h3 rfl
    obtain rfl : bs = [] := List.eq_nil_of_length_eq_zero (by omega)
    go_enter Try.func51, Try.ntmps51
    go_wp2
    go_ret
    exact ⟨_, rfl, World.ownsRow_nil _ _ _ _, Below.refl _ _⟩
  | some ad =>
    go_enter Try.func51, Try.ntmps51
    go_wp2_with (at_builtin; refine app elW rfl _ _ rfl w.heap.size (World.ownsRow_lit w _ 0 (Nat.le_refl _) (by simp [maxLen]) rfl) (Sl.below hs (by omega) ((Below.refl _ _).alloc (Nat.le_refl _) _)) rfl rfl (one_flat one_wc bs) (by omega) (by omega) (by simp) ?_; intro v' w1 ho hg)
    go_ret
    rw [Nat.zero_add, List.nil_append] at ho
    exact ⟨_, rfl, ho, ((Below.refl _ _).alloc (Nat.le_refl _) _).grown hg (by simp) (fun k hk => by cases hk; exact Nat.le_refl _)⟩

namespace Dkc
/-- A row of its own from B on. -/
def ClP (e k n B : Nat) (xs : List Value) (w : World) (v : Value) : Prop := w.ownsRow B e k v n xs
theorem ClP.fresh {e k n B : Nat} {xs : List Value} {w w' : World} {v : Value} (h : ClP e k n B xs w v) (hb : Below w.heap.size w w') : ClP e k n B xs w' v := own_keep h fun g hg => hb.block g (h.lt g hg).2
theorem ClP.set {e k n B c : Nat} {xs : List Value} {w : World} {v : Value} (hc : c < B) (h : ClP e k n B xs w v) (i : Nat) (u : Value) : ClP e k n B xs (w.setCell ⟨c, i, none⟩ u) v :=
  own_keep h fun g hg => heap_setCell_other w ⟨c, i, none⟩ g u (by have := (h.lt g hg).1; dsimp only; omega)
end Dkc
open Dkc
theorem row_tags {w : World} {B B' e e' k k' n n' : Nat} {v v' : Value} {xs xs' : List Value} (h : w.ownsRow B e k v n xs) (h' : w.ownsRow B' e' k' v' n' xs') (hne : e ≠ e') (g : Nat) (hg : v.ownBlock = some g) : v'.ownBlock ≠ some g := by
  intro hg'
  obtain ⟨-, ⟨rfl, -⟩ | ⟨q, c, cur, rfl, -, hh, -⟩⟩ := h
  · cases hg
  · obtain ⟨-, ⟨rfl, -⟩ | ⟨q', c', cur', rfl, -, hh', -⟩⟩ := h'
    · cases hg'
    · cases hg; cases hg'
      rw [hh] at hh'
      simp only [Option.some.injEq, Obj.cells.injEq] at hh'
      exact hne hh'.2.1

theorem copy_nil (w : World) : Calls Try.prog 32 #[.pointer none] w fun e w' => e = .returned (.pointer none) ∧ w = w' := by
  go_enter Try.func32, Try.ntmps32
  go_wp2
  go_ret
  exact ⟨rfl, rfl⟩

set_option maxRecDepth 100000 in
set_option maxHeartbeats 4000000 in
theorem copy_any {w : World} {S : Nat → Prop} {b : Nat} {d : PD} (h : IsD w S b d) (hn : d.ops < 1073741824) :
    Calls Try.prog 32 #[.pointer (some ⟨b, 0, none⟩)] w fun e w' =>
      ∃ c, e = .returned (.pointer (some ⟨c, 0, none⟩)) ∧ IsD w' (fun x => w.heap.size ≤ x ∧ x < w'.heap.size) c d ∧ Below w.heap.size w w' := by
  obtain ⟨vs, vp, h⟩ := h
  obtain ⟨c0, c1, c2, c3, c4, c5, c6⟩ := h.hd.cells
  have H := Lib.hid h
  have hnum := h.ok.num
  have hfew := h.ok.few
  obtain ⟨As, cs, rfl, -, -, -, -⟩ := own_slice h.safe
  obtain ⟨Ap, cp, rfl, -, -, -, -⟩ := own_slice h.pend
  obtain ⟨W, hW⟩ : ∃ W, w.alloc (.cells #[.slice As d.safe.length cs, .slice Ap d.pend.length cp, .bool d.dead, .bool d.armed, .int .i64 d.left, .int .i64 d.fails, .int .i64 (d.ops : Nat)] 69) = W := ⟨_, rfl⟩
  have hb0 : Below w.heap.size w W := by rw [← hW]; exact below_al (Below.refl _ _) _
  have hx0 : Hd W w.heap.size (.slice As d.safe.length cs) (.slice Ap d.pend.length cp) d := by rw [← hW]; exact heap_alloc_last _ _
  have hsz : W.heap.size = w.heap.size + 1 := by rw [← hW]; exact World.size_alloc _ _
  have HX := Lib.hid hx0
  have HB := Lib.hid hb0
  have HD := Lib.hid (h.below hb0)
  clear h hx0 hb0
  go_enter Try.func32, Try.ntmps32
  go_wp2
  refine G.region_split 10 (by kernel_rfl) (by kernel_rfl) (G.any_inv (by kernel_rfl) (fun w w' => Below w.heap.size w w') (fun _ _ _ h k => below_tr h k) (fun w _ => Below.refl _ _) (Below.refl _ _)
    (G.of [(fun (_ : World) (v : Value) => v = .pointer (some ⟨b, 0, none⟩)), (fun (_ : World) (v : Value) => v = .pointer (some ⟨b, 0, none⟩)), (fun (_ : World) (v : Value) => v = .pointer (some ⟨b, 0, none⟩)), (fun (_ : World) (v : Value) => v = .slice As d.safe.length cs), (ClP 27 64 d.safe.length W.heap.size (d.safe.flatMap bvs)), (fun (_ : World) (v : Value) => v = .pointer (some ⟨b, 0, none⟩)), (fun (_ : World) (v : Value) => v = .pointer (some ⟨b, 0, none⟩)), (fun (_ : World) (v : Value) => v = .pointer (some ⟨b, 1, none⟩)), (fun (_ : World) (v : Value) => v = .slice Ap d.pend.length cp), (ClP 80 65 d.pend.length W.heap.size (d.pend.flatMap wcells))])
    (G.of_stays _ ?_) ?_ (G.each_ops ?_) ?_)
  · exact ⟨(fun w w' v h k => h), (fun w w' v h k => h), (fun w w' v h k => h), (fun w w' v h k => h), (fun w w' v h k => by first | exact h | exact G.keep_bs h k | exact Ls.below h k | exact CopP.fresh h k | exact AggP.fresh h k | exact SrcP.fresh h k | exact Bs.below h k | exact ClP.fresh h k | exact Emp.fresh h k | exact LitF.fresh h k | exact ObP.fresh h k | exact CpF.fresh h k | (obtain ⟨x1, x2, F', hb⟩ := h; exact ⟨x1, x2, F', hb.below k⟩)), (fun w w' v h k => h), (fun w w' v h k => h), (fun w w' v h k => h), (fun w w' v h k => h), (fun w w' v h k => by first | exact h | exact G.keep_bs h k | exact Ls.below h k | exact CopP.fresh h k | exact AggP.fresh h k | exact SrcP.fresh h k | exact Bs.below h k | exact ClP.fresh h k | exact Emp.fresh h k | exact LitF.fresh h k | exact ObP.fresh h k | exact CpF.fresh h k | (obtain ⟨x1, x2, F', hb⟩ := h; exact ⟨x1, x2, F', hb.below k⟩)), trivial⟩
  · intro i o hi hd; exact absurd hd (G.no_none (by kernel_rfl) hi)
  · refine ⟨?_, ?_, ?_, ?_, ?_, ?_, ?_, ?_, ?_, ?_, trivial⟩
    all_goals intro a wq hT hS hp
    all_goals (have hT' : Below W.heap.size W wq := below_tr (Below.refl _ _).drew hT; have z0 := (HD.out.below hT').hd.cells.1; have z1 := (HD.out.below hT').hd.cells.2.1)
    · refine G.wanted_yes (G.wanted_plain rfl) ?_
      have e0 : a.tmps[0]?.getD undef = .pointer (some ⟨b, 0, none⟩) := hS.at_ 0 rfl
      exact G.st_val (v := .pointer (some ⟨b, 0, none⟩)) (w' := wq) (by simp [execOp, go_sem, e0, z0, z1] <;> omega) ⟨_, rfl, Below.refl _ _, rfl⟩
    · refine G.wanted_yes (G.wanted_plain rfl) ?_
      have e9 : a.tmps[9]?.getD undef = .pointer (some ⟨b, 0, none⟩) := hp ⟨0, .data⟩ (by simp) rfl _ rfl
      exact G.st_val (v := .pointer (some ⟨b, 0, none⟩)) (w' := wq) (by simp [execOp, go_sem, e9, z0, z1] <;> omega) ⟨_, rfl, Below.refl _ _, rfl⟩
    · refine G.wanted_yes (G.wanted_plain rfl) ?_
      have e10 : a.tmps[10]?.getD undef = .pointer (some ⟨b, 0, none⟩) := hp ⟨1, .data⟩ (by simp) rfl _ rfl
      exact G.st_val (v := .pointer (some ⟨b, 0, none⟩)) (w' := wq) (by simp [execOp, go_sem, e10, z0, z1] <;> omega) ⟨_, rfl, Below.refl _ _, rfl⟩
    · refine G.wanted_yes (G.wanted_plain rfl) ?_
      have e11 : a.tmps[11]?.getD undef = .pointer (some ⟨b, 0, none⟩) := hp ⟨2, .data⟩ (by simp) rfl _ rfl
      exact G.st_val (v := .slice As d.safe.length cs) (w' := wq) (by simp [execOp, go_sem, e11, z0, z1] <;> omega) ⟨_, rfl, Below.refl _ _, rfl⟩
    · refine G.wanted_yes (G.wanted_plain rfl) ?_
      have e12 : a.tmps[12]?.getD undef = .slice As d.safe.length cs := hp ⟨3, .data⟩ (by simp) rfl _ rfl
      refine G.st_call (f := 50) (args := #[.slice As d.safe.length cs]) (by simp [execOp, go_sem, e12]) ((clone_blk _ d.safe wq _ (Sl.of_own (HD.out.below hT').safe) (by omega)).mono ?_); rintro e w2 ⟨v2, rfl, ho2, hb2⟩; exact ⟨v2, rfl, v2, rfl, hb2, own_low ho2 hT'.size⟩
    · refine G.wanted_yes (G.wanted_plain rfl) ?_
      have e0 : a.tmps[0]?.getD undef = .pointer (some ⟨b, 0, none⟩) := hS.at_ 0 rfl
      exact G.st_val (v := .pointer (some ⟨b, 0, none⟩)) (w' := wq) (by simp [execOp, go_sem, e0, z0, z1] <;> omega) ⟨_, rfl, Below.refl _ _, rfl⟩
    · refine G.wanted_yes (G.wanted_plain rfl) ?_
      have e14 : a.tmps[14]?.getD undef = .pointer (some ⟨b, 0, none⟩) := hp ⟨5, .data⟩ (by simp) rfl _ rfl
      exact G.st_val (v := .pointer (some ⟨b, 0, none⟩)) (w' := wq) (by simp [execOp, go_sem, e14, z0, z1] <;> omega) ⟨_, rfl, Below.refl _ _, rfl⟩
    · refine G.wanted_yes (G.wanted_plain rfl) ?_
      have e15 : a.tmps[15]?.getD undef = .pointer (some ⟨b, 0, none⟩) := hp ⟨6, .data⟩ (by simp) rfl _ rfl
      exact G.st_val (v := .pointer (some ⟨b, 1, none⟩)) (w' := wq) (by simp [execOp, go_sem, e15, z0, z1] <;> omega) ⟨_, rfl, Below.refl _ _, rfl⟩
    · refine G.wanted_yes (G.wanted_plain rfl) ?_
      have e16 : a.tmps[16]?.getD undef = .pointer (some ⟨b, 1, none⟩) := hp ⟨7, .data⟩ (by simp) rfl _ rfl
      exact G.st_val (v := .slice Ap d.pend.length cp) (w' := wq) (by simp [execOp, go_sem, e16, z0, z1] <;> omega) ⟨_, rfl, Below.refl _ _, rfl⟩
    · refine G.wanted_yes (G.wanted_plain rfl) ?_
      have e17 : a.tmps[17]?.getD undef = .slice Ap d.pend.length cp := hp ⟨8, .data⟩ (by simp) rfl _ rfl
      refine G.st_call (f := 51) (args := #[.slice Ap d.pend.length cp]) (by simp [execOp, go_sem, e17]) ((clone_wr _ d.pend wq _ (Sl.of_own (HD.out.below hT').pend) (by omega)).mono ?_); rintro e w2 ⟨v2, rfl, ho2, hb2⟩; exact ⟨v2, rfl, v2, rfl, hb2, own_low ho2 hT'.size⟩
  · intro a wq hT hS hp
    have e9 : G.slot a (some 9) = .pointer (some ⟨b, 0, none⟩) := hp 0 _ rfl
    have e10 : G.slot a (some 10) = .pointer (some ⟨b, 0, none⟩) := hp 1 _ rfl
    have e11 : G.slot a (some 11) = .pointer (some ⟨b, 0, none⟩) := hp 2 _ rfl
    have e12 : G.slot a (some 12) = .slice As d.safe.length cs := hp 3 _ rfl
    have q13 : (ClP 27 64 d.safe.length W.heap.size (d.safe.flatMap bvs)) wq (G.slot a (some 13)) := hp 4 _ rfl
    have e14 : G.slot a (some 14) = .pointer (some ⟨b, 0, none⟩) := hp 5 _ rfl
    have e15 : G.slot a (some 15) = .pointer (some ⟨b, 0, none⟩) := hp 6 _ rfl
    have e16 : G.slot a (some 16) = .pointer (some ⟨b, 1, none⟩) := hp 7 _ rfl
    have e17 : G.slot a (some 17) = .slice Ap d.pend.length cp := hp 8 _ rfl
    have q18 : (ClP 80 65 d.pend.length W.heap.size (d.pend.flatMap wcells)) wq (G.slot a (some 18)) := hp 9 _ rfl
    have ha := G.act_of hS
    simp only [List.take_succ_cons, List.take_zero, List.foldl_cons, List.foldl_nil, Act.put, List.setIfInBounds_toArray, List.set_cons_succ, List.set_cons_zero, e9, e10, e11, e12, e14, e15, e16, e17] at ha
    generalize G.slot a (some 13) = s13 at q13 ha
    generalize G.slot a (some 18) = s18 at q18 ha
    clear hp hS e9 e10 e11 e12 e14 e15 e16 e17
    subst ha
    show wpList _ _ _ _ _ _
    simp only [List.drop_succ_cons, List.drop_zero]
    have hT2 : Below W.heap.size W wq := below_tr (Below.refl _ _).drew hT
    have hhd : Hd wq w.heap.size _ _ d := heap_bl hT2 HX.out
    obtain ⟨z0, z1, -, -, -, -, -⟩ := hhd.cells
    have f0 := hhd.frozen 0
    have f1 := hhd.frozen 1
    have o13 : wq.ownsRow W.heap.size 27 64 s13 d.safe.length (d.safe.flatMap bvs) := q13
    have o18 : wq.ownsRow W.heap.size 80 65 s18 d.pend.length (d.pend.flatMap wcells) := q18
    have HN := Lib.hid (show IsD ((wq.setCell ⟨w.heap.size, 0, none⟩ s13).setCell ⟨w.heap.size, 1, none⟩ s18) (fun x => w.heap.size ≤ x ∧ x < wq.heap.size) w.heap.size d by
      have l13 := fun g hg => o13.lt g hg
      have l18 := fun g hg => o18.lt g hg
      have hs2 := hT2.size
      refine ⟨s13, s18, ?_, own_low (ClP.set (c := w.heap.size) (by omega) (ClP.set (c := w.heap.size) (by omega) q13 0 s13) 1 s18) (Nat.zero_le _), own_low (ClP.set (c := w.heap.size) (by omega) (ClP.set (c := w.heap.size) (by omega) q18 0 s13) 1 s18) (Nat.zero_le _), fun x hx => by rw [World.size_setCell, World.size_setCell]; exact hx.2, ⟨Nat.le_refl _, by omega⟩, fun g hg => ?_, fun g hg => ?_, H.out.ok⟩
      · exact heap_setCell_same _ _ 1 _ _ _ (heap_setCell_same _ _ 0 _ _ _ hhd)
      · have := l13 g hg; exact ⟨⟨by omega, by omega⟩, by omega⟩
      · have := l18 g hg; exact ⟨⟨by omega, by omega⟩, by omega, row_tags o18 o13 (by decide) g hg⟩)
    have HBW := Lib.hid (show Below w.heap.size w ((wq.setCell ⟨w.heap.size, 0, none⟩ s13).setCell ⟨w.heap.size, 1, none⟩ s18) from below_sc (below_sc (below_tr HB.out hT2) (Nat.le_refl _) _) (Nat.le_refl _) _)
    obtain ⟨A13, c13, rfl, -, -, -, -⟩ := own_slice o13
    obtain ⟨A18, c18, rfl, -, -, -, -⟩ := own_slice o18
    have hsz2 := hT2.size
    clear q13 q18 o13 o18 hhd hT hT2 hW c0 c1 c2 c3 c4 c5 c6
    go_wp2
    go_ret
    refine ⟨_, rfl, ?_, HBW.out⟩
    have := HN.out
    simpa only [World.size_setCell] using this

end Go.Proofs.Ythjlmkmijehnjaa
