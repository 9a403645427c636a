/- Bytes compared and cloned: heliographref01.Same, bytes.Equal, slices.Clone at bytes (for a seat without octet). No condition beyond sizes. -/
import Derived.Test.YtibmcpbkialbnaaK
import Derived.Test.YtibmcpbkialbnaaL
import Derived.Test.YtibmcpbkialbnaaProg
import Derived.Deep.QuietTactic
import Derived.BigQuiet
import Derived.Lib.Hide
namespace Go.Proofs.Ytibmcpbkialbnaa
open Go.RowKit K L
set_option linter.unusedVariables false
set_option linter.unusedSimpArgs false

theorem ret_int {k : IntKind} {a b : Int} (h : a = b) : Ending.returned (.int k a) = .returned (.int k b) := by rw [h]
theorem ret_bool {a b : Bool} (h : a = b) : Ending.returned (.bool a) = .returned (.bool b) := by rw [h]
theorem cell_of {w : World} {b : Nat} {cs : Array Value} {e : TypeId} (h : w.heap[b]? = some (.cells cs e (0, 0))) (j : Nat) : w.cell? ⟨b, j, none⟩ = cs[j]? := by
  simp [World.cell?, h]
theorem frozen_of {w : World} {b : Nat} {cs : Array Value} {e : TypeId} (h : w.heap[b]? = some (.cells cs e (0, 0))) (j : Nat) : w.frozen? ⟨b, j, none⟩ = false := by
  simp [World.frozen?, h]

theorem Try.el8 : Elem Try.prog 22 5 1 1 (.int .u8 0) := ⟨Try.underlying22, by kernel_rfl, rfl, by decide⟩

/-- 'string(b)' as a step of the walk. -/
theorem conv_str {P : Program} {w : World} {src dst e : TypeId} {ops : Array Oper} {rest : List Oper} {o : Oper} {a : Act} {Q : Exit → Act → World → Prop}
    (hw : Region.wanted o (yielded ops a.tmps) = true) (x : Operand) (ho : o.op = .convert src dst x) {F : Nat → Prop} {v : Value} {xs : List UInt8} (h : Bs w F v xs) (hx : a.eval x = v)
    (hs : P.underlying src = some (.slice e)) (he : P.underlying e = some (.int .u8)) (hd : P.underlying dst = some .string)
    (hk : wpList P ops Q rest (a.put o.dst (.string ⟨xs.toArray⟩)) w) : wpList P ops Q (o :: rest) a w := by
  refine BigFrame.wpList_want hw fun K hK => ?_
  have hr := run_string (P := P) w h hs he hd
  unfold Oper.wp execOp
  simp only [ho, hx, Sem.run_bind, hr, Result.andThen_ok, Sem.run_pure]
  exact hK _ _ hk


set_option maxHeartbeats 400000 in
theorem beq_any (v1 v2 : Value) (xs ys : List UInt8) (w : World) (F G : Nat → Prop) (h : Bs w F v1 xs) (g : Bs w G v2 ys) :
    Calls Try.prog 19 #[v1, v2] w fun e w' => e = .returned (.bool (xs == ys)) ∧ w = w' := by
  go_enter Try.func19, Try.ntmps19
  go_wp2_with (first | refine conv_str rfl (.tmp 5) rfl h rfl Try.underlying22 Try.underlying5 Try.underlying9 ?_ | refine conv_str rfl (.tmp 7) rfl g rfl Try.underlying22 Try.underlying5 Try.underlying9 ?_)
  go_ret
  exact ⟨rfl, rfl⟩

end Go.Proofs.Ytibmcpbkialbnaa
