/- IdealMay: whether whatever fact may come behind whatever others: 'idealMayUptoRow'. Condition: the second form's bound. -/
import Derived.Test.YtfdijgdojejimaaIdA
import Derived.Test.YtfdijgdojejimaaIdM
namespace Go.Proofs.Ytfdijgdojejimaa
open Go.ChangeShapes Go.WideShapes Go.ChangeAt Go.RowKit Go.Deep K L
set_option linter.unusedVariables false

namespace R
theorem arg_fact {H : Type} {enc : TypeId × Value → H} {W : World} {sp : Nat → Bool} {base : Nat} {v : Value} {d : DataW H} {ps : List MemPlace}
    (o : Value.okWide Try.prog W .any base 26 v) (h : DataW.Trod enc Try.prog W 0 sp true 26 v d ps) :
    ∃ (f : Fact) (vf : Value), v = .agg (f.cells vf).toArray ∧ Bs W (· < W.heap.size) vf f.bytes ∧ f.number < 4294967296 ∧ max 1 f.bytes.length ≤ Rows.uptoBulk d := by
  obtain ⟨cs, rfl, hsz⟩ := okWide_struct Try.underlying26 o
  obtain ⟨fuel, hf⟩ := h
  obtain ⟨l⟩ := cs
  obtain ⟨e, ⟨h1, h2, h3, -⟩, h4⟩ := read_fact (cs := l) (by simpa [Value.cells] using hf)
  exact ⟨e.1, e.2, by rw [h1]; rfl, h2, h3, h4⟩
/-- What is known of a slice of facts that came in. -/
theorem arg_facts2 {H : Type} {enc : TypeId × Value → H} {W : World} {sp : Nat → Bool} {base : Nat} {v : Value} {d : DataW H} {ps : List MemPlace} (hv : Value.okWide Try.prog W .any base 22 v) (h : DataW.Trod enc Try.prog W 0 sp true 22 v d ps) (hb : Rows.uptoBulk d ≤ 1048576) :
    ∃ es : List FE, Ls W v es ∧ es.length ≤ Rows.uptoBulk d ∧ (∀ e ∈ es, e.1.number < 4294967296) ∧ (∀ e ∈ es, -9223372036854775808 ≤ e.1.kind ∧ e.1.kind ≤ 9223372036854775807) := by
  obtain ⟨xs, ⟨css, h1, h2, h3⟩, h4⟩ := arg_slice (α := FE) FactR (fun e => max 1 e.1.bytes.length) Try.underlying22 (by kernel_rfl : Try.prog.cellsOf 26 = 7) (by decide) (fun n cs y hy => read_fact hy) hv h
  have hcs : css = xs.map FE.cells := css_map _ _ _ h1 (fun j c x hc hx => (h2 j c x hc hx).2.1)
  have hprop : ∀ e ∈ xs, Bs W (· < W.heap.size) e.2 e.1.bytes ∧ e.1.number < 4294967296 ∧ (-9223372036854775808 ≤ e.1.kind ∧ e.1.kind ≤ 9223372036854775807) := by
    intro e he
    obtain ⟨j, hj, rfl⟩ := List.getElem_of_mem he
    exact (h2 j _ _ (List.getElem?_eq_getElem (by omega)) (List.getElem?_eq_getElem hj)).2.2
  have hsum : ∀ l : List FE, l.length ≤ (l.map fun e => max 1 e.1.bytes.length).sum ∧ ∀ e ∈ l, e.1.bytes.length ≤ (l.map fun e => max 1 e.1.bytes.length).sum := by
    intro l
    induction l with
    | nil => exact ⟨by simp, fun e he => by cases he⟩
    | cons x l ih =>
      refine ⟨by simp only [List.length_cons, List.map_cons, List.sum_cons]; have := ih.1; omega, fun e he => ?_⟩
      simp only [List.map_cons, List.sum_cons]
      rcases List.mem_cons.1 he with rfl | he
      · omega
      · have := ih.2 e he; omega
  have hs := hsum xs
  refine ⟨xs, ⟨?_, fun e he => ⟨(hprop e he).1, by have := hs.2 e he; omega⟩⟩, by omega, fun e he => (hprop e he).2.1, fun e he => (hprop e he).2.2⟩
  rw [hcs] at h3
  rw [List.flatMap_def]
  exact h3

end R

theorem idealMay.opened {H : Type} {enc : TypeId × Value → H} {W : World} {base : Nat} {v0 v1 : Value} {d0 d1 : DataW H} {p0 p1 : List MemPlace}
    (o0 : Value.okWide Try.prog W .any base 22 v0) (h0 : DataW.Trod enc Try.prog W 0 (fun _ => true) true 22 v0 d0 p0)
    (o1 : Value.okWide Try.prog W .any base 26 v1) (h1 : DataW.Trod enc Try.prog W 0 (fun _ => true) true 26 v1 d1 p1) (hk : Rows.uptoBulkAll [d0, d1] ≤ 1048576) :
    Calls Try.prog 3 #[v0, v1] W fun e W' => e = .returned (.bool true) ∧ Below W.heap.size W W' := by
  simp only [Rows.uptoBulkAll] at hk
  obtain ⟨f, vf, rfl, hvf, hn, hfl⟩ := R.arg_fact o1 h1
  obtain ⟨es, hL, hle, hg, -⟩ := R.arg_facts2 o0 h0 (by omega)
  exact idealMay_walk v0 f vf W es (by omega) hL hg hvf hn (by omega)

namespace idealMay
theorem contract (H : Type) (enc : TypeId × Value → H) (W : World) (base : Nat) (args : Array Value) (ds gs : List (DataW H)) (before : List MemPlace)
    (hval : ∀ (j : Nat) t v, Try.f3.params[j]? = some t → args[j]? = some v → Value.okWide Try.prog W .any base t v)
    (hW : DataW.Whole enc Try.prog Try.f3.params.toList Rows.idealMaySpec.vars false W args.toList ds gs before) (hk : Rows.uptoSmall H (ds ++ gs) = true) :
    Calls Try.prog 3 args W fun e W' => ∃ v, e = .returned v ∧ Rows.idealMaySpec.post enc Try.prog Try.f3 false true false false W args v W' := by
  have hW' := hW
  obtain ⟨p, q, hA0, hV, rfl, hfz, hnd⟩ := hW
  have hA : DataW.TrodAll enc Try.prog W 0 (fun _ => true) true Try.f3.params.toList args.toList ds p := hA0
  rw [Try.params3] at hA hval
  obtain ⟨v0, vs0, d0, ds0, p0, q0, hargs, rfl, rfl, h0, r0⟩ := trodAll_cons hA
  obtain ⟨v1, vs1, d1, ds1, p1, q1, rfl, rfl, rfl, h1, r1⟩ := trodAll_cons r0
  obtain ⟨rfl, rfl, rfl⟩ := trodAll_nil r1
  obtain rfl : args = #[v0, v1] := by cases args; simp_all
  obtain ⟨rfl, rfl⟩ := trodVars_none hV
  have hk' : Rows.uptoBulkAll [d0, d1] ≤ 1048576 := by have h := of_decide_eq_true hk; exact h
  refine (opened (hval 0 _ v0 rfl rfl) h0 (hval 1 _ v1 rfl rfl) h1 hk').mono fun e W' ⟨he, hB⟩ => ?_
  subst he
  exact ⟨_, rfl, R.post_law Try.laidOut rfl hW' (fun _ => rfl) rfl Try.underlying4 (by rw [Try.params3]; intro t ht; simp only [List.mem_cons, List.not_mem_nil, or_false] at ht; rcases ht with rfl | rfl <;> exact ⟨by kernel_rfl, of_decide_eq_true (by kernel_rfl)⟩) hB⟩
set_option maxRecDepth 100000 in
theorem lifted (os : Os) (started : os.Started) (H : Type) (enc : TypeId × Value → H) (F : Stop.Interp) :
    ReturnsInHanded {} Try.checked os 3 .any ((Rows.OpenSpec.upto Rows.idealMaySpec).pre6 enc Try.prog Try.f3 Rows.idealMayUptoRow.domain false) (((Rows.OpenSpec.upto Rows.idealMaySpec).at F).post enc Try.prog Try.f3 false true false false) := by
  refine returnsInHanded_of_cond (C := Try.checked) (s := Rows.OpenSpec.upto Rows.idealMaySpec) (k := Rows.uptoSmall) rfl own started (by kernel_rfl) Try.func3
    (OpenSpec.witness (enc := enc) (C := Try.checked) (s := Rows.OpenSpec.upto Rows.idealMaySpec) (k := Rows.uptoSmall) rfl false ⟨#[], #[.slice none 0 0,.agg #[.int .i64 0, .int .i64 0, .int .i64 0, .int .u32 0, .string ⟨#[]⟩, .int .i64 0, .slice none 0 0]], []⟩ 8 (by kernel_rfl) (by kernel_rfl) (by kernel_rfl)
      (x := ([.nil,.agg [.lit (.int .i64 0), .lit (.int .i64 0), .lit (.int .i64 0), .lit (.int .u32 0), .lit (.string []), .lit (.int .i64 0), .nil]], [], [])) (by kernel_rfl) rfl (by kernel_rfl)) ?_
  intro W base args ds gs before hval hW _ hk _
  exact contract H enc W base args ds gs before hval hW hk
theorem over : Rows.idealMayUptoRow.holds Try.pinned (Rows.OpenSpec.upto Rows.idealMaySpec) :=
  OpenClaim.holds_of_cond 3 Try.f3 rfl rfl rfl rfl rfl rfl rfl ⟨rfl, rfl, rfl, rfl, rfl⟩ rfl rfl rfl rfl rfl (by kernel_rfl) Try.func3 (by kernel_rfl)
    (of_decide_eq_true (by kernel_rfl)) (by unfold Func.isWrapper; first | (rw [if_pos (by decide +kernel)]; kernel_rfl) | (rw [if_neg (by decide +kernel)]; exact ⟨rfl, rfl⟩))
    (fun os started H enc _ F => lifted os started H enc F)
theorem proved : Rows.IdealMayUptoSaid := over
end idealMay

end Go.Proofs.Ytfdijgdojejimaa
