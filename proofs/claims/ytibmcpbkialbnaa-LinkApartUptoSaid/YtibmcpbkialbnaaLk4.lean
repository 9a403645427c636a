/- Links: bytes cloned, a node; Send. No condition beyond sizes. -/
import Derived.Test.YtibmcpbkialbnaaLk3
namespace Go.Proofs.Ytibmcpbkialbnaa
open Go.RowKit K L E
open Go.Maps (Keyed)
set_option linter.unusedVariables false
set_option linter.unusedSimpArgs false

set_option maxHeartbeats 400000 in
theorem bclone_any (v : Value) (xs : List UInt8) (w : World) (F : Nat → Prop) (h : Bs w F v xs) (hb : xs.length ≤ 1073741824) :
    Calls Try.prog 28 #[v] w fun e w' => ∃ v', e = .returned v' ∧ Ob w' w.heap.size 5 v' xs ∧ Below w.heap.size w w' := by
  have hs := h
  obtain ⟨A, c, rfl, h1, h2, h3, -⟩ := h.open_
  have hq := fun w n c => Lib.run_eql_slice_nil (P := Try.prog) w 22 5 A n c 0 0 Try.underlying22
  cases A with
  | none =>
    obtain rfl : c = 0 := h3 rfl
    obtain rfl : xs = [] := List.eq_nil_of_length_eq_zero (by omega)
    go_enter Try.func28, Try.ntmps28
    go_wp2
    go_ret
    exact ⟨_, rfl, Ob.nil _ _ _, Below.refl _ _⟩
  | some ad =>
    go_enter Try.func28, Try.ntmps28
    go_wp2_with (at_builtin; refine app Try.el8 rfl _ _ rfl w.heap.size (World.ownsRow_lit w _ 0 (Nat.le_refl _) (by simp [maxLen]) rfl) (Sl.below hs (by omega) ((Below.refl _ _).alloc (Nat.le_refl _) _)) rfl rfl (one_bvs xs) (by omega) (by omega) (by simp) ?_; intro v' w1 ho hg)
    go_ret
    rw [Nat.zero_add, List.nil_append] at ho
    exact ⟨_, rfl, ho, ((Below.refl _ _).alloc (Nat.le_refl _) _).grown hg (by simp) (fun k hk => by cases hk; exact Nat.le_refl _)⟩

def nodeB (n : Int) : Bool := decide (1 ≤ n) && decide (n ≤ 6)
theorem node_any (n : Int) (w : World) : Calls Try.prog 27 #[.int .i64 n] w fun e w' => e = .returned (.bool (nodeB n)) ∧ w' = w := by
  refine enter Try.func27 rfl Try.ntmps27 rfl rfl ?_
  by_cases h : 1 ≤ n
  · (repeat (first | refine WR.move rfl rfl ?_ | refine WR.assign rfl rfl ?_ | refine WR.nil ?_ | (refine W.id ?_; first | refine W.seq fun _ _ => ?_ | refine W.region ?_ | refine W.cond_true rfl ?_ | refine W.cond_false rfl ?_ | refine W.block ?_ | refine W.exit ?_ | refine W.ret ?_ | refine W.skip ?_ | refine W.label ?_) | (refine Ends.id ?_; first | refine Ends.seq (by assumption) ?_ | refine Ends.then_exit ?_ | refine Ends.then_ret ?_ | refine Ends.then_goto ?_ | refine Ends.blk_normal ?_ | refine Ends.blk_hit ?_ | refine Ends.blk_miss rfl ?_ | refine Ends.blk_ret ?_ | refine Ends.blk_goto ?_) | (refine WR.idG ?_; first | refine WR.guard_yes rfl rfl ?_ | refine WR.guard_no rfl rfl ne_tf rfl ?_ | refine WR.guard_no rfl rfl ne_ft rfl ?_ | refine WR.guard_no0 rfl rfl ne_tf ?_ | refine WR.guard_no0 rfl rfl ne_ft ?_ | refine WR.guard_no rfl rfl ne_ub rfl ?_ | refine WR.guard_no0 rfl rfl ne_ub ?_) | (refine WR.idL ?_; first | refine WR.loadCell (by rfl) (by assumption) (by rfl) (by rfl) ?_ | refine WR.loadBox (by rfl) (by assumption) (by rfl) (by rfl) ?_) | refine WR.fieldAddr (by rfl) (by rfl) ?_ | refine WR.extract rfl rfl rfl ?_ | refine WR.nilCheck rfl rfl ?_ | (refine WR.idP ?_; first | refine WR.pick_t rfl rfl rfl ?_ | refine WR.pick_f rfl rfl rfl ?_ | refine WR.pick_or rfl rfl rfl ?_ | refine WR.pick_and rfl rfl rfl ?_) | (refine WR.idB ?_; first | refine WR.eql_t rfl rfl rfl (by omega) ?_ | refine WR.eql_f rfl rfl rfl (by omega) ?_ | refine WR.eql rfl rfl rfl ?_ | refine WR.neq_t rfl rfl rfl (by omega) ?_ | refine WR.neq_f rfl rfl rfl (by omega) ?_ | refine WR.neq rfl rfl rfl ?_ | refine WR.lss_t rfl rfl rfl (by omega) ?_ | refine WR.lss_f rfl rfl rfl (by omega) ?_ | refine WR.lss rfl rfl rfl ?_ | refine WR.leq_t rfl rfl rfl (by omega) ?_ | refine WR.leq_f rfl rfl rfl (by omega) ?_ | refine WR.leq rfl rfl rfl ?_ | refine WR.gtr_t rfl rfl rfl (by omega) ?_ | refine WR.gtr_f rfl rfl rfl (by omega) ?_ | refine WR.gtr rfl rfl rfl ?_ | refine WR.geq_t rfl rfl rfl (by omega) ?_ | refine WR.geq_f rfl rfl rfl (by omega) ?_ | refine WR.geq rfl rfl rfl ?_ | refine WR.inc rfl rfl (by omega) ?_ | refine WR.add rfl rfl rfl (by omega) (by omega) ?_ | refine WR.sub rfl rfl rfl (by omega) (by omega) ?_ | refine WR.ptrNil (by rfl) (by rfl) (by rfl) ?_ | refine WR.ptrNilN (by rfl) (by rfl) (by rfl) ?_ | refine WR.neqB (by rfl) (by rfl) (by rfl) ?_ | refine WR.eqlB (by rfl) (by rfl) (by rfl) ?_) | (refine WR.idC ?_; first | refine WR.len (by rfl) (by rfl) ?_ | refine WR.lenS (by rfl) (by rfl) ?_ | refine WR.bmax rfl rfl rfl ?_ | refine WR.bmin rfl rfl rfl ?_) | refine WR.not_dec rfl rfl ?_ | refine WR.not rfl rfl ?_ | refine WR.conv (by rfl) (by rfl) ?_))
    exact Ends.ret1 rfl rfl ⟨by simp [nodeB, h], rfl⟩
  · (repeat (first | refine WR.move rfl rfl ?_ | refine WR.assign rfl rfl ?_ | refine WR.nil ?_ | (refine W.id ?_; first | refine W.seq fun _ _ => ?_ | refine W.region ?_ | refine W.cond_true rfl ?_ | refine W.cond_false rfl ?_ | refine W.block ?_ | refine W.exit ?_ | refine W.ret ?_ | refine W.skip ?_ | refine W.label ?_) | (refine Ends.id ?_; first | refine Ends.seq (by assumption) ?_ | refine Ends.then_exit ?_ | refine Ends.then_ret ?_ | refine Ends.then_goto ?_ | refine Ends.blk_normal ?_ | refine Ends.blk_hit ?_ | refine Ends.blk_miss rfl ?_ | refine Ends.blk_ret ?_ | refine Ends.blk_goto ?_) | (refine WR.idG ?_; first | refine WR.guard_yes rfl rfl ?_ | refine WR.guard_no rfl rfl ne_tf rfl ?_ | refine WR.guard_no rfl rfl ne_ft rfl ?_ | refine WR.guard_no0 rfl rfl ne_tf ?_ | refine WR.guard_no0 rfl rfl ne_ft ?_ | refine WR.guard_no rfl rfl ne_ub rfl ?_ | refine WR.guard_no0 rfl rfl ne_ub ?_) | (refine WR.idL ?_; first | refine WR.loadCell (by rfl) (by assumption) (by rfl) (by rfl) ?_ | refine WR.loadBox (by rfl) (by assumption) (by rfl) (by rfl) ?_) | refine WR.fieldAddr (by rfl) (by rfl) ?_ | refine WR.extract rfl rfl rfl ?_ | refine WR.nilCheck rfl rfl ?_ | (refine WR.idP ?_; first | refine WR.pick_t rfl rfl rfl ?_ | refine WR.pick_f rfl rfl rfl ?_ | refine WR.pick_or rfl rfl rfl ?_ | refine WR.pick_and rfl rfl rfl ?_) | (refine WR.idB ?_; first | refine WR.eql_t rfl rfl rfl (by omega) ?_ | refine WR.eql_f rfl rfl rfl (by omega) ?_ | refine WR.eql rfl rfl rfl ?_ | refine WR.neq_t rfl rfl rfl (by omega) ?_ | refine WR.neq_f rfl rfl rfl (by omega) ?_ | refine WR.neq rfl rfl rfl ?_ | refine WR.lss_t rfl rfl rfl (by omega) ?_ | refine WR.lss_f rfl rfl rfl (by omega) ?_ | refine WR.lss rfl rfl rfl ?_ | refine WR.leq_t rfl rfl rfl (by omega) ?_ | refine WR.leq_f rfl rfl rfl (by omega) ?_ | refine WR.leq rfl rfl rfl ?_ | refine WR.gtr_t rfl rfl rfl (by omega) ?_ | refine WR.gtr_f rfl rfl rfl (by omega) ?_ | refine WR.gtr rfl rfl rfl ?_ | refine WR.geq_t rfl rfl rfl (by omega) ?_ | refine WR.geq_f rfl rfl rfl (by omega) ?_ | refine WR.geq rfl rfl rfl ?_ | refine WR.inc rfl rfl (by omega) ?_ | refine WR.add rfl rfl rfl (by omega) (by omega) ?_ | refine WR.sub rfl rfl rfl (by omega) (by omega) ?_ | refine WR.ptrNil (by rfl) (by rfl) (by rfl) ?_ | refine WR.ptrNilN (by rfl) (by rfl) (by rfl) ?_ | refine WR.neqB (by rfl) (by rfl) (by rfl) ?_ | refine WR.eqlB (by rfl) (by rfl) (by rfl) ?_) | (refine WR.idC ?_; first | refine WR.len (by rfl) (by rfl) ?_ | refine WR.lenS (by rfl) (by rfl) ?_ | refine WR.bmax rfl rfl rfl ?_ | refine WR.bmin rfl rfl rfl ?_) | refine WR.not_dec rfl rfl ?_ | refine WR.not rfl rfl ?_ | refine WR.conv (by rfl) (by rfl) ?_))
    exact Ends.ret1 rfl rfl ⟨by simp [nodeB, h], rfl⟩

end Go.Proofs.Ytibmcpbkialbnaa
