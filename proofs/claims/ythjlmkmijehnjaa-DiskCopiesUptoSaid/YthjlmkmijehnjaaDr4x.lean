/- Results that lie in cells and slots; rows written below. No condition. -/
import Derived.Test.YthjlmkmijehnjaaAg
import Derived.Test.YthjlmkmijehnjaaG
import Derived.Shelf.RegionOpen
import Derived.Test.YthjlmkmijehnjaaG4
namespace Go.Proofs.Ythjlmkmijehnjaa
open Go.RowKit Go.Shelf K
set_option linter.unusedVariables false
set_option linter.unusedSimpArgs false

theorem results_cell_tmp {P : Program} {fn : Func} {p q : Tmp} {tp : TypeId} (h : fn.results = #[.cell p tp, .tmp q]) (tmps : Array Value) (w : World) {x : Addr} {u v : Value}
    (hp : tmps.getD p undef = .pointer (some x)) (hq : tmps.getD q undef = v) (h1 : (loadVar tp x).run P w = .ok u w) : (results fn tmps).run P w = .ok (.tuple #[u, v]) w := by
  have hp' : tmps[p]?.getD undef = .pointer (some x) := by simpa using hp
  have hq' : tmps[q]?.getD undef = v := by simpa using hq
  unfold results
  rw [h]
  simp [Array.mapM_eq_mapM_toList, hp', hq', asAddr, Sem.run_bind, h1]
theorem results_cct {P : Program} {fn : Func} {p q s : Tmp} {tp tq : TypeId} (h : fn.results = #[.cell p tp, .cell q tq, .tmp s]) (tmps : Array Value) (w : World) {x y : Addr} {u v z : Value}
    (hp : tmps.getD p undef = .pointer (some x)) (hq : tmps.getD q undef = .pointer (some y)) (hs : tmps.getD s undef = z) (h1 : (loadVar tp x).run P w = .ok u w) (h2 : (loadVar tq y).run P w = .ok v w) : (results fn tmps).run P w = .ok (.tuple #[u, v, z]) w := by
  have hp' : tmps[p]?.getD undef = .pointer (some x) := by simpa using hp
  have hq' : tmps[q]?.getD undef = .pointer (some y) := by simpa using hq
  have hs' : tmps[s]?.getD undef = z := by simpa using hs
  unfold results
  rw [h]
  simp [Array.mapM_eq_mapM_toList, hp', hq', hs', asAddr, Sem.run_bind, h1, h2]
theorem ex_load_row {P : Program} {o : Oper} {a : Act} {w : World} (ty : TypeId) (x : Operand) (ho : o.op = .load ty x) (g : Nat) (hx : a.eval x = .pointer (some ⟨g, 0, none⟩)) (t : TypeId) (cs : Array Value) (d : TypeDesc) (hg : w.heap[g]? = some (.cells cs t (0, 0))) (hu : P.underlying ty = some d) (hd : (match d with | .struct _ | .array _ _ => true | _ => false) = true) (hi : (P.info? ty).map (·.size) = some cs.size) :
    (execOp a.eval o).run P w = .ok (.value (.agg cs)) w := by
  unfold execOp
  simp only [ho, hx, Instr.loadAt, Instr.sureAddr, Sem.run_bind, Sem.run_pure, Result.andThen_ok, run_loadVar_row w g t ty cs (0, 0) d hg hu hd hi]

theorem below_row {B : Nat} {a w : World} (h : Below B a w) {q : Nat} (hq : B ≤ q) (hB : B ≤ a.heap.size) (cs : Array Value) : Below B a (w.setRow q cs) :=
  ⟨h.os, h.tape, h.output, by rw [size_setRow]; exact h.size, fun b hb => (setRow_other w q b cs (by omega)).trans (h.block b hb)⟩


end Go.Proofs.Ythjlmkmijehnjaa
