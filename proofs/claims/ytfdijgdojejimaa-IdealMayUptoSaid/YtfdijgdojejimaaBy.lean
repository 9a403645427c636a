/- Bytes compared and cloned: heliographref01.Same, bytes.Equal, slices.Clone at bytes (for a seat without octet). No condition beyond sizes. -/
import Derived.Test.YtfdijgdojejimaaK
import Derived.Test.YtfdijgdojejimaaL
import Derived.Test.YtfdijgdojejimaaProg
import Derived.Deep.QuietTactic
import Derived.BigQuiet
import Derived.Lib.Hide
namespace Go.Proofs.Ytfdijgdojejimaa
open Go.RowKit K L
set_option linter.unusedVariables false
set_option linter.unusedSimpArgs false

theorem ret_int {k : IntKind} {a b : Int} (h : a = b) : Ending.returned (.int k a) = .returned (.int k b) := by rw [h]
theorem ret_bool {a b : Bool} (h : a = b) : Ending.returned (.bool a) = .returned (.bool b) := by rw [h]
theorem cell_of {w : World} {b : Nat} {cs : Array Value} {e : TypeId} (h : w.heap[b]? = some (.cells cs e (0, 0))) (j : Nat) : w.cell? ⟨b, j, none⟩ = cs[j]? := by
  simp [World.cell?, h]
theorem frozen_of {w : World} {b : Nat} {cs : Array Value} {e : TypeId} (h : w.heap[b]? = some (.cells cs e (0, 0))) (j : Nat) : w.frozen? ⟨b, j, none⟩ = false := by
  simp [World.frozen?, h]

set_option maxHeartbeats 400000 in
theorem same_any (v1 v2 : Value) (xs ys : List UInt8) (w : World) (F G : Nat → Prop) (h : Bs w F v1 xs) (g : Bs w G v2 ys) :
    Calls Try.prog 16 #[v1, v2] w fun e w' => e = .returned (.bool (xs == ys)) ∧ ∃ n, w' = w.drewN n := by
  obtain ⟨A, c, rfl, h1, h2, -, hc⟩ := h.open_
  obtain ⟨A', c', rfl, g1, g2, -, hc'⟩ := g.open_
  unfold maxLen at h2 g2
  by_cases hl : xs.length = ys.length
  · have hl1 : (((xs.length : Nat) : Int) != (ys.length : Nat)) = false := by rw [hl]; simp
    have HL := Lib.hid hl
    clear hl
    go_enter Try.func16, Try.ntmps16
    go_wp2
    go_loopw [5] (fun i wr => ∃ k : Nat, k ≤ xs.length ∧ i = .int .i64 k ∧ xs.take k = ys.take k ∧ ∃ n, wr = w.drewN n) (fun i _ => xs.length - (intOf i).toNat)
    case atStart => exact ⟨0, Nat.zero_le _, rfl, rfl, 0, rfl⟩
    case round =>
      obtain ⟨k, hk, rfl, hs, n, rfl⟩ := hrel
      have HS := Lib.hid hs
      clear hs
      by_cases hlt : k < xs.length
      · have hlt' : k < ys.length := by rw [← HL.out]; exact hlt
        obtain ⟨ad, rfl, -, -, hx⟩ := hc k hlt
        obtain ⟨ad', rfl, -, -, hx'⟩ := hc' k hlt'
        clear hc hc' hl1
        go_wp2
        go_quiet (fail)
        go_wp2
        · go_ret
          exact ⟨ret_bool (beq_part xs ys k hlt hlt' (u8_ne (by assumption))).symm, n + nq, by simp⟩
        · exact ⟨⟨k + 1, by omega, by go_num, take_eq_snoc xs ys k hlt hlt' HS.out (u8_eq (by assumption)), n + nq, by simp⟩, by simp [intOf]; omega⟩
      · go_wp2
        go_ret
        exact ⟨ret_bool (beq_all xs ys k HL.out (by omega) HS.out).symm, _, rfl⟩
  · have hl1 : (((xs.length : Nat) : Int) != (ys.length : Nat)) = true := by simp; omega
    go_enter Try.func16, Try.ntmps16
    go_wp2
    go_ret
    exact ⟨ret_bool (beq_len xs ys hl).symm, 0, rfl⟩

theorem Try.el8 : Elem Try.prog 24 5 1 1 (.int .u8 0) := ⟨Try.underlying24, by kernel_rfl, rfl, by decide⟩

set_option maxHeartbeats 400000 in
theorem clone_any (v : Value) (xs : List UInt8) (w : World) (F : Nat → Prop) (h : Bs w F v xs) (hb : xs.length ≤ 1073741824) :
    Calls Try.prog 47 #[v] w fun e w' => ∃ v', e = .returned v' ∧ Ob w' w.heap.size 5 v' xs ∧ Below w.heap.size w w' := by
  have hs := h
  obtain ⟨A, c, rfl, h1, h2, h3, -⟩ := h.open_
  have hq := fun w n c => Lib.run_eql_slice_nil (P := Try.prog) w 24 5 A n c 0 0 Try.underlying24
  cases A with
  | none =>
    obtain rfl : c = 0 := h3 rfl
    obtain rfl : xs = [] := List.eq_nil_of_length_eq_zero (by omega)
    go_enter Try.func47, Try.ntmps47
    go_wp2
    go_ret
    exact ⟨_, rfl, Ob.nil _ _ _, Below.refl _ _⟩
  | some ad =>
    go_enter Try.func47, Try.ntmps47
    go_wp2_with (at_builtin; refine app Try.el8 rfl _ _ rfl w.heap.size (World.ownsRow_lit w _ 0 (Nat.le_refl _) (by simp [maxLen]) rfl) (Sl.below hs (by omega) ((Below.refl _ _).alloc (Nat.le_refl _) _)) rfl rfl (one_bvs xs) (by omega) (by omega) (by simp) ?_; intro v' w1 ho hg)
    go_ret
    rw [Nat.zero_add, List.nil_append] at ho
    exact ⟨_, rfl, ho, ((Below.refl _ _).alloc (Nat.le_refl _) _).grown hg (by simp) (fun k hk => by cases hk; exact Nat.le_refl _)⟩

/-- 'string(b)' as a step of the walk. -/
theorem conv_str {P : Program} {w : World} {src dst e : TypeId} {ops : Array Oper} {rest : List Oper} {o : Oper} {a : Act} {Q : Exit → Act → World → Prop}
    (hw : Region.wanted o (yielded ops a.tmps) = true) (x : Operand) (ho : o.op = .convert src dst x) {F : Nat → Prop} {v : Value} {xs : List UInt8} (h : Bs w F v xs) (hx : a.eval x = v)
    (hs : P.underlying src = some (.slice e)) (he : P.underlying e = some (.int .u8)) (hd : P.underlying dst = some .string)
    (hk : wpList P ops Q rest (a.put o.dst (.string ⟨xs.toArray⟩)) w) : wpList P ops Q (o :: rest) a w := by
  refine BigFrame.wpList_want hw fun K hK => ?_
  have hr := run_string (P := P) w h hs he hd
  unfold Oper.wp execOp
  simp only [ho, hx, Sem.run_bind, hr, Result.andThen_ok, Sem.run_pure]
  exact hK _ _ hk


set_option maxHeartbeats 400000 in
theorem beq_any (v1 v2 : Value) (xs ys : List UInt8) (w : World) (F G : Nat → Prop) (h : Bs w F v1 xs) (g : Bs w G v2 ys) :
    Calls Try.prog 31 #[v1, v2] w fun e w' => e = .returned (.bool (xs == ys)) ∧ w = w' := by
  go_enter Try.func31, Try.ntmps31
  go_wp2_with (first | refine conv_str rfl (.tmp 5) rfl h rfl Try.underlying24 Try.underlying5 Try.underlying9 ?_ | refine conv_str rfl (.tmp 7) rfl g rfl Try.underlying24 Try.underlying5 Try.underlying9 ?_)
  go_ret
  exact ⟨rfl, rfl⟩

end Go.Proofs.Ytfdijgdojejimaa
