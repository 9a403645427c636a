/- Law 11's walk: PduSame. No condition beyond sizes. -/
import Derived.Test.YtmcldnfemlaeiaaPduC
import Derived.Test.YtmcldnfemlaeiaaPduW
import Derived.Test.YtmcldnfemlaeiaaPduP
import Derived.Test.YtmcldnfemlaeiaaG
namespace Go.Proofs.Ytmcldnfemlaeiaa
open Go.RowKit K L
set_option linter.unusedVariables false
set_option linter.unusedSimpArgs false

theorem same_comm (a b : Msg) : a.same b = b.same a := by
  unfold Msg.same
  have h1 : ∀ x y : Int, (x == y) = (y == x) := fun x y => by rw [Bool.eq_iff_iff]; simp only [beq_iff_eq]; exact ⟨Eq.symm, Eq.symm⟩
  have h2 : ∀ x y : Nat, (x == y) = (y == x) := fun x y => by rw [Bool.eq_iff_iff]; simp only [beq_iff_eq]; exact ⟨Eq.symm, Eq.symm⟩
  have h3 : ∀ x y : List UInt8, (x == y) = (y == x) := fun x y => by rw [Bool.eq_iff_iff]; simp only [beq_iff_eq]; exact ⟨Eq.symm, Eq.symm⟩
  rw [h1 a.kind, h2 a.number, h3 a.name, h1 a.size, h1 a.off, h2 a.sum, h1 a.code, h3 a.bytes]

set_option maxRecDepth 100000 in
set_option maxHeartbeats 8000000 in
theorem pduSame_walk (a b : Msg) (va vb : Value) (w : World) (h : Bs w (· < w.heap.size) va a.bytes) (g : Bs w (· < w.heap.size) vb b.bytes) (la : a.bytes.length ≤ 1048576) :
    Calls Try.prog 5 #[.agg (a.cells va).toArray, .agg (b.cells vb).toArray] w fun e w' => e = .returned (.bool true) ∧ Below w.heap.size w w' := by
  have ha := h
  have hb := g
  obtain ⟨A, ca, rfl, l1, l2, -, -⟩ := h.open_
  obtain ⟨A', cb, rfl, m1, m2, -, -⟩ := g.open_
  clear h g
  unfold maxLen at l2 m2
  obtain ⟨k1, n1, s1, z1, o1, u1, c1, b1⟩ := a
  obtain ⟨k2, n2, s2, z2, o2, u2, c2, b2⟩ := b
  unfold Msg.cells
  dsimp only at ha hb l1 m1 la ⊢
  obtain ⟨q, hq⟩ : ∃ q, Msg.same ⟨k1, n1, s1, z1, o1, u1, c1, b1⟩ ⟨k2, n2, s2, z2, o2, u2, c2, b2⟩ = q := ⟨_, rfl⟩
  have hq' : Msg.same ⟨k2, n2, s2, z2, o2, u2, c2, b2⟩ ⟨k1, n1, s1, z1, o1, u1, c1, b1⟩ = q := by rw [same_comm]; exact hq
  have HQ := Lib.hid hq
  have HQ' := Lib.hid hq'
  clear hq hq'
  go_enter Try.func5, Try.ntmps5
  go_wp2_with fail
  obtain ⟨hx, hy, hB⟩ := two w (.cells #[.int .i64 k1, .int .u32 (n1 : Nat), .string ⟨s1.toArray⟩, .int .i64 z1, .int .i64 o1, .int .u32 (u1 : Nat), .int .i64 c1, (.slice A b1.length ca)] 25) (.cells #[.int .i64 k2, .int .u32 (n2 : Nat), .string ⟨s2.toArray⟩, .int .i64 z2, .int .i64 o2, .int .u32 (u2 : Nat), .int .i64 c2, (.slice A' b2.length cb)] 25)
  have ha1 := ha.below hB
  have hb1 := hb.below hB
  generalize (w.alloc (.cells #[.int .i64 k1, .int .u32 (n1 : Nat), .string ⟨s1.toArray⟩, .int .i64 z1, .int .i64 o1, .int .u32 (u1 : Nat), .int .i64 c1, (.slice A b1.length ca)] 25)).alloc (.cells #[.int .i64 k2, .int .u32 (n2 : Nat), .string ⟨s2.toArray⟩, .int .i64 z2, .int .i64 o2, .int .u32 (u2 : Nat), .int .i64 c2, (.slice A' b2.length cb)] 25) = W at *
  refine (wakes_any W).mono ?_
  rintro e w1 ⟨rfl, hB1⟩
  replace ha1 := ha1.below hB1
  replace hb1 := hb1.below hB1
  replace hx := heap_bl hB1 hx
  replace hy := heap_bl hB1 hy
  replace hB := below_tr hB hB1
  clear hB1 ha hb
  have ha2 : Bs w1.drew _ _ b1 := ha1.below (Below.drew (Below.refl _ _))
  have hb2 : Bs w1.drew _ _ b2 := hb1.below (Below.drew (Below.refl _ _))
  have HX := Lib.hid hx
  have HY := Lib.hid hy
  clear hx hy
  go_wp2
  refine G.region_inv (by kernel_rfl) (by kernel_rfl) (fun w w' => Below w.heap.size w w') (fun _ _ _ h k => below_tr h k) (fun w _ => Below.refl _ _) (Below.refl _ _)
    (G.of [(fun (_ : World) (v : Value) => v = .agg #[.int .i64 k1, .int .u32 (n1 : Nat), .string ⟨s1.toArray⟩, .int .i64 z1, .int .i64 o1, .int .u32 (u1 : Nat), .int .i64 c1, (.slice A b1.length ca)]), (fun (_ : World) (v : Value) => v = .agg #[.int .i64 k2, .int .u32 (n2 : Nat), .string ⟨s2.toArray⟩, .int .i64 z2, .int .i64 o2, .int .u32 (u2 : Nat), .int .i64 c2, (.slice A' b2.length cb)]), (fun (_ : World) (v : Value) => v = .bool q), (fun (_ : World) (v : Value) => v = .agg #[.int .i64 k1, .int .u32 (n1 : Nat), .string ⟨s1.toArray⟩, .int .i64 z1, .int .i64 o1, .int .u32 (u1 : Nat), .int .i64 c1, (.slice A b1.length ca)]), (fun (_ : World) (v : Value) => v = .agg #[.int .i64 k2, .int .u32 (n2 : Nat), .string ⟨s2.toArray⟩, .int .i64 z2, .int .i64 o2, .int .u32 (u2 : Nat), .int .i64 c2, (.slice A' b2.length cb)]), (fun (_ : World) (v : Value) => v = .bool q), (fun (_ : World) (v : Value) => v = .bool true), (fun (_ : World) (v : Value) => v = .bool true), (fun (_ : World) (v : Value) => v = .agg #[.int .i64 k1, .int .u32 (n1 : Nat), .string ⟨s1.toArray⟩, .int .i64 z1, .int .i64 o1, .int .u32 (u1 : Nat), .int .i64 c1, (.slice A b1.length ca)]), (fun (_ : World) (v : Value) => v = .agg #[.int .i64 k1, .int .u32 (n1 : Nat), .string ⟨s1.toArray⟩, .int .i64 z1, .int .i64 o1, .int .u32 (u1 : Nat), .int .i64 c1, (.slice A b1.length ca)]), (fun w v => ∃ u, v = .agg #[.int .i64 k1, .int .u32 (n1 : Nat), .string ⟨s1.toArray⟩, .int .i64 z1, .int .i64 o1, .int .u32 (u1 : Nat), .int .i64 c1, u] ∧ ∃ F, Bs w F u b1), (fun (_ : World) (v : Value) => v = .bool true), (fun (_ : World) (v : Value) => v = .bool true), (fun (_ : World) (v : Value) => v = .bool true), (fun (_ : World) (v : Value) => v = .agg #[.int .i64 k2, .int .u32 (n2 : Nat), .string ⟨s2.toArray⟩, .int .i64 z2, .int .i64 o2, .int .u32 (u2 : Nat), .int .i64 c2, (.slice A' b2.length cb)]), (fun (_ : World) (v : Value) => v = .agg #[.int .i64 k1, .int .u32 (n1 : Nat), .string ⟨s1.toArray⟩, .int .i64 z1, .int .i64 o1, .int .u32 (u1 : Nat), .int .i64 c1, (.slice A b1.length ca)]), (fun (_ : World) (v : Value) => v = .bool q), (fun (_ : World) (v : Value) => v = .agg #[.int .i64 k1, .int .u32 (n1 : Nat), .string ⟨s1.toArray⟩, .int .i64 z1, .int .i64 o1, .int .u32 (u1 : Nat), .int .i64 c1, (.slice A b1.length ca)]), (fun (_ : World) (v : Value) => v = .agg #[.int .i64 k2, .int .u32 (n2 : Nat), .string ⟨s2.toArray⟩, .int .i64 z2, .int .i64 o2, .int .u32 (u2 : Nat), .int .i64 c2, (.slice A' b2.length cb)]), (fun (_ : World) (v : Value) => v = .bool q), (fun (_ : World) (v : Value) => v = .bool true), (fun (_ : World) (v : Value) => v = .bool true), (fun (_ : World) (v : Value) => v = .bool true)])
    (G.of_stays _ ?_) ?_ (G.each_ops ?_) ?_
  · exact ⟨(fun w w' v h k => h), (fun w w' v h k => h), (fun w w' v h k => h), (fun w w' v h k => h), (fun w w' v h k => h), (fun w w' v h k => h), (fun w w' v h k => h), (fun w w' v h k => h), (fun w w' v h k => h), (fun w w' v h k => h), (fun w w' v h k => by first | exact h | exact G.keep_bs h k | (obtain ⟨x1, x2, F', hb⟩ := h; exact ⟨x1, x2, F', hb.below k⟩)), (fun w w' v h k => h), (fun w w' v h k => h), (fun w w' v h k => h), (fun w w' v h k => h), (fun w w' v h k => h), (fun w w' v h k => h), (fun w w' v h k => h), (fun w w' v h k => h), (fun w w' v h k => h), (fun w w' v h k => h), (fun w w' v h k => h), (fun w w' v h k => h), trivial⟩
  · intro i o hi hd; exact absurd hd (G.no_none (by kernel_rfl) hi)
  · refine ⟨?_, ?_, ?_, ?_, ?_, ?_, ?_, ?_, ?_, ?_, ?_, ?_, ?_, ?_, ?_, ?_, ?_, ?_, ?_, ?_, ?_, ?_, ?_, trivial⟩
    all_goals intro a wq hT hS hp
    all_goals (have hxx := heap_bl hT HX.out; have hyy := heap_bl hT HY.out; have x0 := cell_of hxx 0; have y0 := cell_of hyy 0; have x1 := cell_of hxx 1; have y1 := cell_of hyy 1; have x2 := cell_of hxx 2; have y2 := cell_of hyy 2; have x3 := cell_of hxx 3; have y3 := cell_of hyy 3; have x4 := cell_of hxx 4; have y4 := cell_of hyy 4; have x5 := cell_of hxx 5; have y5 := cell_of hyy 5; have x6 := cell_of hxx 6; have y6 := cell_of hyy 6; have x7 := cell_of hxx 7; have y7 := cell_of hyy 7; simp at x0 y0 x1 y1 x2 y2 x3 y3 x4 y4 x5 y5 x6 y6 x7 y7)
    · refine G.wanted_yes (G.wanted_plain rfl) ?_
      have e2 : a.tmps[2]?.getD undef = .pointer (some ⟨w.heap.size, 0, none⟩) := hS.at_ 2 rfl
      exact G.st_val (v := .agg #[.int .i64 k1, .int .u32 (n1 : Nat), .string ⟨s1.toArray⟩, .int .i64 z1, .int .i64 o1, .int .u32 (u1 : Nat), .int .i64 c1, (.slice A b1.length ca)]) (w' := wq) (by simp [execOp, go_sem, e2, x0, x1, x2, x3, x4, x5, x6, x7, y0, y1, y2, y3, y4, y5, y6, y7] <;> omega) ⟨_, rfl, Below.refl _ _, rfl⟩
    · refine G.wanted_yes (G.wanted_plain rfl) ?_
      have e3 : a.tmps[3]?.getD undef = .pointer (some ⟨w.heap.size + 1, 0, none⟩) := hS.at_ 3 rfl
      exact G.st_val (v := .agg #[.int .i64 k2, .int .u32 (n2 : Nat), .string ⟨s2.toArray⟩, .int .i64 z2, .int .i64 o2, .int .u32 (u2 : Nat), .int .i64 c2, (.slice A' b2.length cb)]) (w' := wq) (by simp [execOp, go_sem, e3, x0, x1, x2, x3, x4, x5, x6, x7, y0, y1, y2, y3, y4, y5, y6, y7] <;> omega) ⟨_, rfl, Below.refl _ _, rfl⟩
    · refine G.wanted_yes (G.wanted_plain rfl) ?_
      have e7 : a.tmps[7]?.getD undef = .agg #[.int .i64 k1, .int .u32 (n1 : Nat), .string ⟨s1.toArray⟩, .int .i64 z1, .int .i64 o1, .int .u32 (u1 : Nat), .int .i64 c1, (.slice A b1.length ca)] := hp ⟨0, .data⟩ (by simp) rfl _ rfl
      have e8 : a.tmps[8]?.getD undef = .agg #[.int .i64 k2, .int .u32 (n2 : Nat), .string ⟨s2.toArray⟩, .int .i64 z2, .int .i64 o2, .int .u32 (u2 : Nat), .int .i64 c2, (.slice A' b2.length cb)] := hp ⟨1, .data⟩ (by simp) rfl _ rfl
      exact G.st_call (f := 18) (args := #[.agg #[.int .i64 k1, .int .u32 (n1 : Nat), .string ⟨s1.toArray⟩, .int .i64 z1, .int .i64 o1, .int .u32 (u1 : Nat), .int .i64 c1, (.slice A b1.length ca)], .agg #[.int .i64 k2, .int .u32 (n2 : Nat), .string ⟨s2.toArray⟩, .int .i64 z2, .int .i64 o2, .int .u32 (u2 : Nat), .int .i64 c2, (.slice A' b2.length cb)]]) (by simp [execOp, go_sem, e7, e8]) ((psame_any ⟨k1, n1, s1, z1, o1, u1, c1, b1⟩ ⟨k2, n2, s2, z2, o2, u2, c2, b2⟩ _ _ wq _ _ (Bs.below ha2 hT) (Bs.below hb2 hT)).mono fun e w' ⟨he, hB⟩ => ⟨_, he, _, rfl, hB, by rw [HQ.out]; rfl⟩)
    · refine G.wanted_yes (G.wanted_plain rfl) ?_
      have e2 : a.tmps[2]?.getD undef = .pointer (some ⟨w.heap.size, 0, none⟩) := hS.at_ 2 rfl
      exact G.st_val (v := .agg #[.int .i64 k1, .int .u32 (n1 : Nat), .string ⟨s1.toArray⟩, .int .i64 z1, .int .i64 o1, .int .u32 (u1 : Nat), .int .i64 c1, (.slice A b1.length ca)]) (w' := wq) (by simp [execOp, go_sem, e2, x0, x1, x2, x3, x4, x5, x6, x7, y0, y1, y2, y3, y4, y5, y6, y7] <;> omega) ⟨_, rfl, Below.refl _ _, rfl⟩
    · refine G.wanted_yes (G.wanted_plain rfl) ?_
      have e3 : a.tmps[3]?.getD undef = .pointer (some ⟨w.heap.size + 1, 0, none⟩) := hS.at_ 3 rfl
      exact G.st_val (v := .agg #[.int .i64 k2, .int .u32 (n2 : Nat), .string ⟨s2.toArray⟩, .int .i64 z2, .int .i64 o2, .int .u32 (u2 : Nat), .int .i64 c2, (.slice A' b2.length cb)]) (w' := wq) (by simp [execOp, go_sem, e3, x0, x1, x2, x3, x4, x5, x6, x7, y0, y1, y2, y3, y4, y5, y6, y7] <;> omega) ⟨_, rfl, Below.refl _ _, rfl⟩
    · refine G.wanted_yes (G.wanted_plain rfl) ?_
      have e10 : a.tmps[10]?.getD undef = .agg #[.int .i64 k1, .int .u32 (n1 : Nat), .string ⟨s1.toArray⟩, .int .i64 z1, .int .i64 o1, .int .u32 (u1 : Nat), .int .i64 c1, (.slice A b1.length ca)] := hp ⟨3, .data⟩ (by simp) rfl _ rfl
      have e11 : a.tmps[11]?.getD undef = .agg #[.int .i64 k2, .int .u32 (n2 : Nat), .string ⟨s2.toArray⟩, .int .i64 z2, .int .i64 o2, .int .u32 (u2 : Nat), .int .i64 c2, (.slice A' b2.length cb)] := hp ⟨4, .data⟩ (by simp) rfl _ rfl
      exact G.st_call (f := 17) (args := #[.agg #[.int .i64 k1, .int .u32 (n1 : Nat), .string ⟨s1.toArray⟩, .int .i64 z1, .int .i64 o1, .int .u32 (u1 : Nat), .int .i64 c1, (.slice A b1.length ca)], .agg #[.int .i64 k2, .int .u32 (n2 : Nat), .string ⟨s2.toArray⟩, .int .i64 z2, .int .i64 o2, .int .u32 (u2 : Nat), .int .i64 c2, (.slice A' b2.length cb)]]) (by simp [execOp, go_sem, e10, e11]) ((rsame_any ⟨k1, n1, s1, z1, o1, u1, c1, b1⟩ ⟨k2, n2, s2, z2, o2, u2, c2, b2⟩ _ _ wq _ _ (Bs.below ha2 hT) (Bs.below hb2 hT)).mono fun e w' ⟨he, hB⟩ => ⟨_, he, _, rfl, hB, by rw [HQ.out]; rfl⟩)
    · refine G.wanted_yes (G.wanted_plain rfl) ?_
      have e9 : a.tmps[9]?.getD undef = .bool q := hp ⟨2, .data⟩ (by simp) rfl _ rfl
      have e12 : a.tmps[12]?.getD undef = .bool q := hp ⟨5, .data⟩ (by simp) rfl _ rfl
      exact G.st_val (v := .bool true) (w' := wq) (by simp [execOp, go_sem, e9, e12, x0, x1, x2, x3, x4, x5, x6, x7, y0, y1, y2, y3, y4, y5, y6, y7] <;> omega) ⟨_, rfl, Below.refl _ _, rfl⟩
    · refine G.wanted_yes (G.wanted_plain rfl) ?_
      have e13 : a.tmps[13]?.getD undef = .bool true := hp ⟨6, .data⟩ (by simp) rfl _ rfl
      exact G.st_val (v := .bool true) (w' := wq) (by simp [execOp, go_sem, e13, x0, x1, x2, x3, x4, x5, x6, x7, y0, y1, y2, y3, y4, y5, y6, y7] <;> omega) ⟨_, rfl, Below.refl _ _, rfl⟩
    · refine G.wanted_yes (G.wanted_guard rfl (G.yielded_of rfl rfl (hp ⟨7, .guard⟩ (by simp) rfl _ rfl))) ?_
      have e2 : a.tmps[2]?.getD undef = .pointer (some ⟨w.heap.size, 0, none⟩) := hS.at_ 2 rfl
      exact G.st_val (v := .agg #[.int .i64 k1, .int .u32 (n1 : Nat), .string ⟨s1.toArray⟩, .int .i64 z1, .int .i64 o1, .int .u32 (u1 : Nat), .int .i64 c1, (.slice A b1.length ca)]) (w' := wq) (by simp [execOp, go_sem, e2, x0, x1, x2, x3, x4, x5, x6, x7, y0, y1, y2, y3, y4, y5, y6, y7] <;> omega) ⟨_, rfl, Below.refl _ _, rfl⟩
    · refine G.wanted_yes (G.wanted_guard rfl (G.yielded_of rfl rfl (hp ⟨7, .guard⟩ (by simp) rfl _ rfl))) ?_
      have e2 : a.tmps[2]?.getD undef = .pointer (some ⟨w.heap.size, 0, none⟩) := hS.at_ 2 rfl
      exact G.st_val (v := .agg #[.int .i64 k1, .int .u32 (n1 : Nat), .string ⟨s1.toArray⟩, .int .i64 z1, .int .i64 o1, .int .u32 (u1 : Nat), .int .i64 c1, (.slice A b1.length ca)]) (w' := wq) (by simp [execOp, go_sem, e2, x0, x1, x2, x3, x4, x5, x6, x7, y0, y1, y2, y3, y4, y5, y6, y7] <;> omega) ⟨_, rfl, Below.refl _ _, rfl⟩
    · refine G.wanted_yes (G.wanted_guard rfl (G.yielded_of rfl rfl (hp ⟨7, .chain⟩ (by simp) rfl _ rfl))) ?_
      have e16 : a.tmps[16]?.getD undef = .agg #[.int .i64 k1, .int .u32 (n1 : Nat), .string ⟨s1.toArray⟩, .int .i64 z1, .int .i64 o1, .int .u32 (u1 : Nat), .int .i64 c1, (.slice A b1.length ca)] := hp ⟨9, .data⟩ (by simp) rfl _ rfl
      exact G.st_call (f := 10) (args := #[.agg #[.int .i64 k1, .int .u32 (n1 : Nat), .string ⟨s1.toArray⟩, .int .i64 z1, .int .i64 o1, .int .u32 (u1 : Nat), .int .i64 c1, (.slice A b1.length ca)]]) (by simp [execOp, go_sem, e16]) ((copied_any ⟨k1, n1, s1, z1, o1, u1, c1, b1⟩ _ wq _ (Bs.below ha2 hT) la).mono fun e w' ⟨v, he, ho, hB⟩ => ⟨_, he, _, rfl, hB, v, rfl, _, ho.bs⟩)
    · refine G.wanted_yes (G.wanted_guard rfl (G.yielded_of rfl rfl (hp ⟨7, .guard⟩ (by simp) rfl _ rfl))) ?_
      have e15 : a.tmps[15]?.getD undef = .agg #[.int .i64 k1, .int .u32 (n1 : Nat), .string ⟨s1.toArray⟩, .int .i64 z1, .int .i64 o1, .int .u32 (u1 : Nat), .int .i64 c1, (.slice A b1.length ca)] := hp ⟨8, .data⟩ (by simp) rfl _ rfl
      have q17 : (fun w v => ∃ u, v = .agg #[.int .i64 k1, .int .u32 (n1 : Nat), .string ⟨s1.toArray⟩, .int .i64 z1, .int .i64 o1, .int .u32 (u1 : Nat), .int .i64 c1, u] ∧ ∃ F, Bs w F u b1) wq (G.slot a (some 17)) := hp ⟨10, .data⟩ (by simp) rfl _ rfl
      obtain ⟨u, hu, F, hbu⟩ := q17; exact G.st_call (f := 18) (args := #[.agg #[.int .i64 k1, .int .u32 (n1 : Nat), .string ⟨s1.toArray⟩, .int .i64 z1, .int .i64 o1, .int .u32 (u1 : Nat), .int .i64 c1, (.slice A b1.length ca)], .agg #[.int .i64 k1, .int .u32 (n1 : Nat), .string ⟨s1.toArray⟩, .int .i64 z1, .int .i64 o1, .int .u32 (u1 : Nat), .int .i64 c1, u]]) (by simp only [G.slot] at hu; simp [execOp, go_sem, e15, hu]) ((psame_any ⟨k1, n1, s1, z1, o1, u1, c1, b1⟩ ⟨k1, n1, s1, z1, o1, u1, c1, b1⟩ _ u wq _ _ (Bs.below ha2 hT) hbu).mono fun e w' ⟨he, hB⟩ => ⟨_, he, _, rfl, hB, by rw [same_self]; rfl⟩)
    · refine G.wanted_yes (G.wanted_plain rfl) ?_
      have e14 : a.tmps[14]?.getD undef = .bool true := hp ⟨7, .data⟩ (by simp) rfl _ rfl
      have e18 : a.tmps[18]?.getD undef = .bool true := hp ⟨11, .data⟩ (by simp) rfl _ rfl
      exact G.st_val (v := .bool true) (w' := wq) (by simp [execOp, go_sem, e14, e18, x0, x1, x2, x3, x4, x5, x6, x7, y0, y1, y2, y3, y4, y5, y6, y7] <;> omega) ⟨_, rfl, Below.refl _ _, rfl⟩
    · refine G.wanted_yes (G.wanted_plain rfl) ?_
      have e19 : a.tmps[19]?.getD undef = .bool true := hp ⟨12, .data⟩ (by simp) rfl _ rfl
      exact G.st_val (v := .bool true) (w' := wq) (by simp [execOp, go_sem, e19, x0, x1, x2, x3, x4, x5, x6, x7, y0, y1, y2, y3, y4, y5, y6, y7] <;> omega) ⟨_, rfl, Below.refl _ _, rfl⟩
    · refine G.wanted_yes (G.wanted_guard rfl (G.yielded_of rfl rfl (hp ⟨13, .guard⟩ (by simp) rfl _ rfl))) ?_
      have e3 : a.tmps[3]?.getD undef = .pointer (some ⟨w.heap.size + 1, 0, none⟩) := hS.at_ 3 rfl
      exact G.st_val (v := .agg #[.int .i64 k2, .int .u32 (n2 : Nat), .string ⟨s2.toArray⟩, .int .i64 z2, .int .i64 o2, .int .u32 (u2 : Nat), .int .i64 c2, (.slice A' b2.length cb)]) (w' := wq) (by simp [execOp, go_sem, e3, x0, x1, x2, x3, x4, x5, x6, x7, y0, y1, y2, y3, y4, y5, y6, y7] <;> omega) ⟨_, rfl, Below.refl _ _, rfl⟩
    · refine G.wanted_yes (G.wanted_guard rfl (G.yielded_of rfl rfl (hp ⟨13, .guard⟩ (by simp) rfl _ rfl))) ?_
      have e2 : a.tmps[2]?.getD undef = .pointer (some ⟨w.heap.size, 0, none⟩) := hS.at_ 2 rfl
      exact G.st_val (v := .agg #[.int .i64 k1, .int .u32 (n1 : Nat), .string ⟨s1.toArray⟩, .int .i64 z1, .int .i64 o1, .int .u32 (u1 : Nat), .int .i64 c1, (.slice A b1.length ca)]) (w' := wq) (by simp [execOp, go_sem, e2, x0, x1, x2, x3, x4, x5, x6, x7, y0, y1, y2, y3, y4, y5, y6, y7] <;> omega) ⟨_, rfl, Below.refl _ _, rfl⟩
    · refine G.wanted_yes (G.wanted_guard rfl (G.yielded_of rfl rfl (hp ⟨13, .chain⟩ (by simp) rfl _ rfl))) ?_
      have e21 : a.tmps[21]?.getD undef = .agg #[.int .i64 k2, .int .u32 (n2 : Nat), .string ⟨s2.toArray⟩, .int .i64 z2, .int .i64 o2, .int .u32 (u2 : Nat), .int .i64 c2, (.slice A' b2.length cb)] := hp ⟨14, .data⟩ (by simp) rfl _ rfl
      have e22 : a.tmps[22]?.getD undef = .agg #[.int .i64 k1, .int .u32 (n1 : Nat), .string ⟨s1.toArray⟩, .int .i64 z1, .int .i64 o1, .int .u32 (u1 : Nat), .int .i64 c1, (.slice A b1.length ca)] := hp ⟨15, .data⟩ (by simp) rfl _ rfl
      exact G.st_call (f := 18) (args := #[.agg #[.int .i64 k2, .int .u32 (n2 : Nat), .string ⟨s2.toArray⟩, .int .i64 z2, .int .i64 o2, .int .u32 (u2 : Nat), .int .i64 c2, (.slice A' b2.length cb)], .agg #[.int .i64 k1, .int .u32 (n1 : Nat), .string ⟨s1.toArray⟩, .int .i64 z1, .int .i64 o1, .int .u32 (u1 : Nat), .int .i64 c1, (.slice A b1.length ca)]]) (by simp [execOp, go_sem, e21, e22]) ((psame_any ⟨k2, n2, s2, z2, o2, u2, c2, b2⟩ ⟨k1, n1, s1, z1, o1, u1, c1, b1⟩ _ _ wq _ _ (Bs.below hb2 hT) (Bs.below ha2 hT)).mono fun e w' ⟨he, hB⟩ => ⟨_, he, _, rfl, hB, by rw [HQ'.out]; rfl⟩)
    · refine G.wanted_yes (G.wanted_guard rfl (G.yielded_of rfl rfl (hp ⟨13, .guard⟩ (by simp) rfl _ rfl))) ?_
      have e2 : a.tmps[2]?.getD undef = .pointer (some ⟨w.heap.size, 0, none⟩) := hS.at_ 2 rfl
      exact G.st_val (v := .agg #[.int .i64 k1, .int .u32 (n1 : Nat), .string ⟨s1.toArray⟩, .int .i64 z1, .int .i64 o1, .int .u32 (u1 : Nat), .int .i64 c1, (.slice A b1.length ca)]) (w' := wq) (by simp [execOp, go_sem, e2, x0, x1, x2, x3, x4, x5, x6, x7, y0, y1, y2, y3, y4, y5, y6, y7] <;> omega) ⟨_, rfl, Below.refl _ _, rfl⟩
    · refine G.wanted_yes (G.wanted_guard rfl (G.yielded_of rfl rfl (hp ⟨13, .guard⟩ (by simp) rfl _ rfl))) ?_
      have e3 : a.tmps[3]?.getD undef = .pointer (some ⟨w.heap.size + 1, 0, none⟩) := hS.at_ 3 rfl
      exact G.st_val (v := .agg #[.int .i64 k2, .int .u32 (n2 : Nat), .string ⟨s2.toArray⟩, .int .i64 z2, .int .i64 o2, .int .u32 (u2 : Nat), .int .i64 c2, (.slice A' b2.length cb)]) (w' := wq) (by simp [execOp, go_sem, e3, x0, x1, x2, x3, x4, x5, x6, x7, y0, y1, y2, y3, y4, y5, y6, y7] <;> omega) ⟨_, rfl, Below.refl _ _, rfl⟩
    · refine G.wanted_yes (G.wanted_guard rfl (G.yielded_of rfl rfl (hp ⟨13, .guard⟩ (by simp) rfl _ rfl))) ?_
      have e24 : a.tmps[24]?.getD undef = .agg #[.int .i64 k1, .int .u32 (n1 : Nat), .string ⟨s1.toArray⟩, .int .i64 z1, .int .i64 o1, .int .u32 (u1 : Nat), .int .i64 c1, (.slice A b1.length ca)] := hp ⟨17, .data⟩ (by simp) rfl _ rfl
      have e25 : a.tmps[25]?.getD undef = .agg #[.int .i64 k2, .int .u32 (n2 : Nat), .string ⟨s2.toArray⟩, .int .i64 z2, .int .i64 o2, .int .u32 (u2 : Nat), .int .i64 c2, (.slice A' b2.length cb)] := hp ⟨18, .data⟩ (by simp) rfl _ rfl
      exact G.st_call (f := 18) (args := #[.agg #[.int .i64 k1, .int .u32 (n1 : Nat), .string ⟨s1.toArray⟩, .int .i64 z1, .int .i64 o1, .int .u32 (u1 : Nat), .int .i64 c1, (.slice A b1.length ca)], .agg #[.int .i64 k2, .int .u32 (n2 : Nat), .string ⟨s2.toArray⟩, .int .i64 z2, .int .i64 o2, .int .u32 (u2 : Nat), .int .i64 c2, (.slice A' b2.length cb)]]) (by simp [execOp, go_sem, e24, e25]) ((psame_any ⟨k1, n1, s1, z1, o1, u1, c1, b1⟩ ⟨k2, n2, s2, z2, o2, u2, c2, b2⟩ _ _ wq _ _ (Bs.below ha2 hT) (Bs.below hb2 hT)).mono fun e w' ⟨he, hB⟩ => ⟨_, he, _, rfl, hB, by rw [HQ.out]; rfl⟩)
    · refine G.wanted_yes (G.wanted_guard rfl (G.yielded_of rfl rfl (hp ⟨13, .guard⟩ (by simp) rfl _ rfl))) ?_
      have e23 : a.tmps[23]?.getD undef = .bool q := hp ⟨16, .data⟩ (by simp) rfl _ rfl
      have e26 : a.tmps[26]?.getD undef = .bool q := hp ⟨19, .data⟩ (by simp) rfl _ rfl
      exact G.st_val (v := .bool true) (w' := wq) (by simp [execOp, go_sem, e23, e26, x0, x1, x2, x3, x4, x5, x6, x7, y0, y1, y2, y3, y4, y5, y6, y7] <;> omega) ⟨_, rfl, Below.refl _ _, rfl⟩
    · refine G.wanted_yes (G.wanted_plain rfl) ?_
      have e20 : a.tmps[20]?.getD undef = .bool true := hp ⟨13, .data⟩ (by simp) rfl _ rfl
      have e27 : a.tmps[27]?.getD undef = .bool true := hp ⟨20, .data⟩ (by simp) rfl _ rfl
      exact G.st_val (v := .bool true) (w' := wq) (by simp [execOp, go_sem, e20, e27, x0, x1, x2, x3, x4, x5, x6, x7, y0, y1, y2, y3, y4, y5, y6, y7] <;> omega) ⟨_, rfl, Below.refl _ _, rfl⟩
    · refine G.wanted_yes (G.wanted_plain rfl) ?_
      have e28 : a.tmps[28]?.getD undef = .bool true := hp ⟨21, .data⟩ (by simp) rfl _ rfl
      exact G.st_val (v := .bool true) (w' := wq) (by simp [execOp, go_sem, e28, x0, x1, x2, x3, x4, x5, x6, x7, y0, y1, y2, y3, y4, y5, y6, y7] <;> omega) ⟨_, rfl, Below.refl _ _, rfl⟩
  · intro a wq hT hS hp
    have e7 : G.slot a (some 7) = .agg #[.int .i64 k1, .int .u32 (n1 : Nat), .string ⟨s1.toArray⟩, .int .i64 z1, .int .i64 o1, .int .u32 (u1 : Nat), .int .i64 c1, (.slice A b1.length ca)] := hp 0 _ rfl
    have e8 : G.slot a (some 8) = .agg #[.int .i64 k2, .int .u32 (n2 : Nat), .string ⟨s2.toArray⟩, .int .i64 z2, .int .i64 o2, .int .u32 (u2 : Nat), .int .i64 c2, (.slice A' b2.length cb)] := hp 1 _ rfl
    have e9 : G.slot a (some 9) = .bool q := hp 2 _ rfl
    have e10 : G.slot a (some 10) = .agg #[.int .i64 k1, .int .u32 (n1 : Nat), .string ⟨s1.toArray⟩, .int .i64 z1, .int .i64 o1, .int .u32 (u1 : Nat), .int .i64 c1, (.slice A b1.length ca)] := hp 3 _ rfl
    have e11 : G.slot a (some 11) = .agg #[.int .i64 k2, .int .u32 (n2 : Nat), .string ⟨s2.toArray⟩, .int .i64 z2, .int .i64 o2, .int .u32 (u2 : Nat), .int .i64 c2, (.slice A' b2.length cb)] := hp 4 _ rfl
    have e12 : G.slot a (some 12) = .bool q := hp 5 _ rfl
    have e13 : G.slot a (some 13) = .bool true := hp 6 _ rfl
    have e14 : G.slot a (some 14) = .bool true := hp 7 _ rfl
    have e15 : G.slot a (some 15) = .agg #[.int .i64 k1, .int .u32 (n1 : Nat), .string ⟨s1.toArray⟩, .int .i64 z1, .int .i64 o1, .int .u32 (u1 : Nat), .int .i64 c1, (.slice A b1.length ca)] := hp 8 _ rfl
    have e16 : G.slot a (some 16) = .agg #[.int .i64 k1, .int .u32 (n1 : Nat), .string ⟨s1.toArray⟩, .int .i64 z1, .int .i64 o1, .int .u32 (u1 : Nat), .int .i64 c1, (.slice A b1.length ca)] := hp 9 _ rfl
    have q17 : (fun w v => ∃ u, v = .agg #[.int .i64 k1, .int .u32 (n1 : Nat), .string ⟨s1.toArray⟩, .int .i64 z1, .int .i64 o1, .int .u32 (u1 : Nat), .int .i64 c1, u] ∧ ∃ F, Bs w F u b1) wq (G.slot a (some 17)) := hp 10 _ rfl
    have e18 : G.slot a (some 18) = .bool true := hp 11 _ rfl
    have e19 : G.slot a (some 19) = .bool true := hp 12 _ rfl
    have e20 : G.slot a (some 20) = .bool true := hp 13 _ rfl
    have e21 : G.slot a (some 21) = .agg #[.int .i64 k2, .int .u32 (n2 : Nat), .string ⟨s2.toArray⟩, .int .i64 z2, .int .i64 o2, .int .u32 (u2 : Nat), .int .i64 c2, (.slice A' b2.length cb)] := hp 14 _ rfl
    have e22 : G.slot a (some 22) = .agg #[.int .i64 k1, .int .u32 (n1 : Nat), .string ⟨s1.toArray⟩, .int .i64 z1, .int .i64 o1, .int .u32 (u1 : Nat), .int .i64 c1, (.slice A b1.length ca)] := hp 15 _ rfl
    have e23 : G.slot a (some 23) = .bool q := hp 16 _ rfl
    have e24 : G.slot a (some 24) = .agg #[.int .i64 k1, .int .u32 (n1 : Nat), .string ⟨s1.toArray⟩, .int .i64 z1, .int .i64 o1, .int .u32 (u1 : Nat), .int .i64 c1, (.slice A b1.length ca)] := hp 17 _ rfl
    have e25 : G.slot a (some 25) = .agg #[.int .i64 k2, .int .u32 (n2 : Nat), .string ⟨s2.toArray⟩, .int .i64 z2, .int .i64 o2, .int .u32 (u2 : Nat), .int .i64 c2, (.slice A' b2.length cb)] := hp 18 _ rfl
    have e26 : G.slot a (some 26) = .bool q := hp 19 _ rfl
    have e27 : G.slot a (some 27) = .bool true := hp 20 _ rfl
    have e28 : G.slot a (some 28) = .bool true := hp 21 _ rfl
    have e4 : G.slot a (some 4) = .bool true := hp 22 _ rfl
    have ha := G.act_of hS
    simp only [List.foldl_cons, List.foldl_nil, Act.put, List.setIfInBounds_toArray, List.set_cons_succ, List.set_cons_zero, e7, e8, e9, e10, e11, e12, e13, e14, e15, e16, e18, e19, e20, e21, e22, e23, e24, e25, e26, e27, e28, e4] at ha
    generalize G.slot a (some 17) = s17 at q17 ha
    clear hp hS e7 e8 e9 e10 e11 e12 e13 e14 e15 e16 e18 e19 e20 e21 e22 e23 e24 e25 e26 e27 e28 e4
    subst ha
    go_wp2
    go_ret
    exact ⟨rfl, below_tr hB.drew hT⟩

end Go.Proofs.Ytmcldnfemlaeiaa
