/- Aggregates of many cells, in a round of a range over a function. No condition. -/
import Derived.Test.YthjlmkmijehnjaaAg
import Derived.RangeFuncNested
import Derived.RangeFuncBound
import Derived.RangeFuncLeaves
import Derived.Shelf.RegionOpen
import Derived.OwnWalkIn
import Derived.TacticsInMore
import Derived.LoopNIn
import Derived.LoopIn
import Derived.ControlIn
namespace Go.Proofs.Ythjlmkmijehnjaa.K
open Go Go.RowKit
set_option linter.unusedVariables false
set_option linter.unusedSimpArgs false

section
variable {P : Program} {F : Fence} {n : Nat} {ops : Array Oper} {rest : List Oper} {o : Oper} {a : Act} {w w' : World} {Q : Exit → Act → World → Prop}

theorem wi_val {v : Value} (hgd : o.guard = none) (hd : ∀ c, o.op ≠ .defer c) (hc : ∀ c, o.op ≠ .call c) (hr : (execOp a.eval o).run P w = .ok (.value v) w') (h : wpListIn F n P ops Q rest (a.put o.dst v) w') : wpListIn F n P ops Q (o :: rest) a w :=
  wpListIn_plain hgd fun K hK => by
    refine ⟨fun f hf => ?_, ?_⟩
    · unfold Oper.about at hf
      cases ho : o.op <;> rw [ho] at hf <;> first | cases hf | exact absurd ho (hc _)
    · rw [Oper.semAt_eq _ _ _ hd, hr, Oper.uponIn_value]; exact hK _ _ h
theorem wi_skip (hgd : o.guard = none) (hd : ∀ c, o.op ≠ .defer c) (hc : ∀ c, o.op ≠ .call c) (hr : (execOp a.eval o).run P w = .ok .skip w') (h : wpListIn F n P ops Q rest (a.put o.dst undef) w') : wpListIn F n P ops Q (o :: rest) a w :=
  wpListIn_plain hgd fun K hK => by
    refine ⟨fun f hf => ?_, ?_⟩
    · unfold Oper.about at hf
      cases ho : o.op <;> rw [ho] at hf <;> first | cases hf | exact absurd ho (hc _)
    · rw [Oper.semAt_eq _ _ _ hd, hr, Oper.uponIn_skip]; exact hK _ _ h

theorem wi_load (hgd : o.guard = none) (ty : TypeId) (x : Operand) (ho : o.op = .load ty x) (b p : Nat) (hx : a.eval x = .pointer (some ⟨b, p, none⟩)) (cs : List Value) (d : TypeDesc) (hc : w.rangeAt b p cs) (hu : P.underlying ty = some d) (hd : d.isRow = true) (hi : (P.info? ty).map (·.size) = some cs.length)
    (h : wpListIn F n P ops Q rest (a.put o.dst (.agg cs.toArray)) w) : wpListIn F n P ops Q (o :: rest) a w :=
  wi_val hgd (by rw [ho]; intro c h; cases h) (by rw [ho]; intro c h; cases h) (ex_load ty x ho b p hx cs d hc hu hd hi) h
theorem wi_alloc (hgd : o.guard = none) (ty : TypeId) (ho : o.op = .alloc ty) {z : Array Value} (hz : ∀ w, (zeroValue ty).run P w = .ok (.agg z) w)
    (h : wpListIn F n P ops Q rest (a.put o.dst (.pointer (some ⟨w.heap.size, 0, none⟩))) (w.alloc (.cells z ty))) : wpListIn F n P ops Q (o :: rest) a w :=
  wi_val hgd (by rw [ho]; intro c h; cases h) (by rw [ho]; intro c h; cases h) (by
    unfold execOp
    simp only [ho, Instr.alloc, newVar, newRow, Value.cells, Sem.run_bind, Sem.run_pure, Result.andThen_ok, hz, run_newObj_alloc]) h
theorem wi_store_new (hgd : o.guard = none) (ty : TypeId) (x y : Operand) (ho : o.op = .store ty x y) (c c' : Array Value) (t : TypeId)
    (hx : a.eval x = .pointer (some ⟨w.heap.size, 0, none⟩)) (hy : a.eval y = .agg c') (hi : (P.info? ty).map (·.size) = some c'.size) (hs : c.size = c'.size) (h1 : c'.all (·.oneCell') = true)
    (h : wpListIn F n P ops Q rest (a.put o.dst undef) (w.alloc (.cells c' t))) : wpListIn F n P ops Q (o :: rest) a (w.alloc (.cells c t)) :=
  wi_skip hgd (by rw [ho]; intro c h; cases h) (by rw [ho]; intro c h; cases h) (by
    have hr := run_storeVar_row (P := P) (w.alloc (.cells c t)) w.heap.size t ty c c' (heap_alloc_last w _) hi hs h1
    rw [World.setRow_alloc_new] at hr
    unfold execOp
    simp only [ho, hx, hy, Instr.storeAt, Instr.sureAddr, Sem.run_bind, Sem.run_pure, Result.andThen_ok, hr]) h
theorem wi_store_row (hgd : o.guard = none) (ty : TypeId) (x y : Operand) (ho : o.op = .store ty x y) (b : Nat) (c c' : Array Value) (t : TypeId) (hc : w.heap[b]? = some (.cells c t (0, 0)))
    (hx : a.eval x = .pointer (some ⟨b, 0, none⟩)) (hy : a.eval y = .agg c') (hi : (P.info? ty).map (·.size) = some c'.size) (hs : c.size = c'.size) (h1 : c'.all (·.oneCell') = true)
    (h : wpListIn F n P ops Q rest (a.put o.dst undef) (w.setRow b c')) : wpListIn F n P ops Q (o :: rest) a w :=
  wi_skip hgd (by rw [ho]; intro c h; cases h) (by rw [ho]; intro c h; cases h) (by
    have hr := run_storeVar_row (P := P) w b t ty c c' hc hi hs h1
    unfold execOp
    simp only [ho, hx, hy, Instr.storeAt, Instr.sureAddr, Sem.run_bind, Sem.run_pure, Result.andThen_ok, hr]) h
end

end Go.Proofs.Ythjlmkmijehnjaa.K
