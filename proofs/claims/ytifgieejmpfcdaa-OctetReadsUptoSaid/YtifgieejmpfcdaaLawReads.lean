/- OctetReads: a reader of whatever bytes answers whatever is asked of it as the document says; a second one of the same bytes is not moved: 'octetReadsUptoRow'. Condition: the second form's bound. -/
import Derived.Test.YtifgieejmpfcdaaR
import Derived.Test.YtifgieejmpfcdaaOct12
namespace Go.Proofs.Ytifgieejmpfcdaa
open Go.ChangeShapes Go.WideShapes Go.ChangeAt Go.RowKit Go.Deep K L
set_option linter.unusedVariables false

theorem avs_flat (l : List (Int × Int)) : (l.map fun a => [Value.int .i64 a.1, .int .i64 a.2]).flatten = avs l := rfl

theorem octetReads.opened {H : Type} {enc : TypeId × Value → H} {W : World} {base : Nat} {v0 v1 : Value} {d0 d1 : DataW H} {p0 p1 : List MemPlace}
    (o0 : Value.okWide Try.prog W .any base 22 v0) (h0 : DataW.Trod enc Try.prog W 0 (fun _ => true) true 22 v0 d0 p0)
    (o1 : Value.okWide Try.prog W .any base 26 v1) (h1 : DataW.Trod enc Try.prog W 0 (fun _ => true) true 26 v1 d1 p1) (hk : Rows.uptoBulkAll [d0, d1] ≤ 1048576) :
    Calls Try.prog 4 #[v0, v1] W fun e W' => e = .returned (.bool true) ∧ Below W.heap.size W W' := by
  obtain ⟨xs, b0, l0⟩ := R.arg_bytes Try.underlying22 (by kernel_rfl) Try.underlying5 o0 h0
  obtain ⟨l, ⟨css, hl, hc, hs⟩, l1⟩ := R.arg_slice (α := Int × Int) (fun _ _ c (x : Int × Int) => c = [.int .i64 x.1, .int .i64 x.2] ∧ ((-9223372036854775808 ≤ x.1 ∧ x.1 ≤ 9223372036854775807) ∧ (-9223372036854775808 ≤ x.2 ∧ x.2 ≤ 9223372036854775807))) (fun _ => 1)
    Try.underlying26 (k := 2) (by kernel_rfl) (by decide) (fun n cs y hy => by
      obtain ⟨y0, y1, m, hx, hlen, hy0, hy1⟩ := trod_struct2 Try.underlying34 hy
      rw [show Try.prog.cellsOf 34 = 2 from by kernel_rfl] at hlen
      obtain ⟨c0, c1, rfl⟩ : ∃ c0 c1, cs = [c0, c1] := by
        match cs, hlen with
        | [a, b], _ => exact ⟨a, b, rfl⟩
      obtain ⟨n0, e0, r0⟩ := R.read_int Try.underlying3 hy0
      obtain ⟨n1, e1, r1⟩ := R.read_int Try.underlying3 hy1
      rw [show Try.prog.cellsOf 3 = 1 from by kernel_rfl] at e0 e1
      simp at e0 e1
      subst e0; subst e1
      refine ⟨(n0, n1), ⟨rfl, ?_, ?_⟩, R.one_bulk _⟩
      · simpa [IntKind.min, IntKind.max, IntKind.signed, IntKind.bits] using r0
      · simpa [IntKind.min, IntKind.max, IntKind.signed, IntKind.bits] using r1) o1 h1
  simp only [Rows.uptoBulkAll] at hk
  rw [List.map_const', List.sum_replicate_nat, Nat.mul_one] at l1
  have hm := css_map (fun x : Int × Int => [Value.int .i64 x.1, .int .i64 x.2]) css l hl fun j c x h1 h2 => (hc j c x h1 h2).2.1
  rw [hm, avs_flat] at hs
  refine reads_walk v0 v1 xs l W b0 hs (fun x hx => ?_) (by omega) (by omega)
  obtain ⟨j, hj, rfl⟩ := List.getElem_of_mem hx
  exact (hc j _ l[j] (List.getElem?_eq_getElem (by omega)) (List.getElem?_eq_getElem hj)).2.2

namespace octetReads
theorem contract (H : Type) (enc : TypeId × Value → H) (W : World) (base : Nat) (args : Array Value) (ds gs : List (DataW H)) (before : List MemPlace)
    (hval : ∀ (j : Nat) t v, Try.f4.params[j]? = some t → args[j]? = some v → Value.okWide Try.prog W .any base t v)
    (hW : DataW.Whole enc Try.prog Try.f4.params.toList Rows.octetReadsSpec.vars false W args.toList ds gs before) (hk : Rows.uptoSmall H (ds ++ gs) = true) :
    Calls Try.prog 4 args W fun e W' => ∃ v, e = .returned v ∧ Rows.octetReadsSpec.post enc Try.prog Try.f4 false true false false W args v W' := by
  have hW' := hW
  obtain ⟨p, q, hA0, hV, rfl, hfz, hnd⟩ := hW
  have hA : DataW.TrodAll enc Try.prog W 0 (fun _ => true) true Try.f4.params.toList args.toList ds p := hA0
  rw [Try.params4] at hA hval
  obtain ⟨v0, vs0, d0, ds0, p0, q0, hargs, rfl, rfl, h0, r0⟩ := trodAll_cons hA
  obtain ⟨v1, vs1, d1, ds1, p1, q1, rfl, rfl, rfl, h1, r1⟩ := trodAll_cons r0
  obtain ⟨rfl, rfl, rfl⟩ := trodAll_nil r1
  obtain rfl : args = #[v0, v1] := by cases args; simp_all
  obtain ⟨rfl, rfl⟩ := trodVars_none hV
  have hk' : Rows.uptoBulkAll [d0, d1] ≤ 1048576 := by have h := of_decide_eq_true hk; exact h
  refine (opened (hval 0 _ v0 rfl rfl) h0 (hval 1 _ v1 rfl rfl) h1 hk').mono fun e W' ⟨he, hB⟩ => ?_
  subst he
  exact ⟨_, rfl, R.post_law Try.laidOut rfl hW' (fun _ => rfl) rfl Try.underlying4 (by rw [Try.params4]; intro t ht; simp only [List.mem_cons, List.not_mem_nil, or_false] at ht; rcases ht with rfl | rfl <;> exact ⟨by kernel_rfl, of_decide_eq_true (by kernel_rfl)⟩) hB⟩
set_option maxRecDepth 100000 in
theorem lifted (os : Os) (started : os.Started) (H : Type) (enc : TypeId × Value → H) (F : Stop.Interp) :
    ReturnsInHanded {} Try.checked os 4 .any ((Rows.OpenSpec.upto Rows.octetReadsSpec).pre6 enc Try.prog Try.f4 Rows.octetReadsUptoRow.domain false) (((Rows.OpenSpec.upto Rows.octetReadsSpec).at F).post enc Try.prog Try.f4 false true false false) := by
  refine returnsInHanded_of_cond (C := Try.checked) (s := Rows.OpenSpec.upto Rows.octetReadsSpec) (k := Rows.uptoSmall) rfl own started (by kernel_rfl) Try.func4
    (OpenSpec.witness (enc := enc) (C := Try.checked) (s := Rows.OpenSpec.upto Rows.octetReadsSpec) (k := Rows.uptoSmall) rfl false ⟨#[], #[.slice none 0 0,.slice none 0 0], []⟩ 8 (by kernel_rfl) (by kernel_rfl) (by kernel_rfl)
      (x := ([.nil,.nil], [], [])) (by kernel_rfl) rfl (by kernel_rfl)) ?_
  intro W base args ds gs before hval hW _ hk _
  exact contract H enc W base args ds gs before hval hW hk
theorem over : Rows.octetReadsUptoRow.holds Try.pinned (Rows.OpenSpec.upto Rows.octetReadsSpec) :=
  OpenClaim.holds_of_cond 4 Try.f4 rfl rfl rfl rfl rfl rfl rfl ⟨rfl, rfl, rfl, rfl, rfl⟩ rfl rfl rfl rfl rfl (by kernel_rfl) Try.func4 (by kernel_rfl)
    (of_decide_eq_true (by kernel_rfl)) (by unfold Func.isWrapper; first | (rw [if_pos (by decide +kernel)]; kernel_rfl) | (rw [if_neg (by decide +kernel)]; exact ⟨rfl, rfl⟩))
    (fun os started H enc _ F => lifted os started H enc F)
theorem proved : Rows.OctetReadsUptoSaid := over
end octetReads

end Go.Proofs.Ytifgieejmpfcdaa
