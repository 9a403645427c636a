/- Layer 2's laws: ops and choices that came in, read. -/
import Derived.Test.YthjlmkmijehnjaaR
import Derived.Test.YthjlmkmijehnjaaDl4
namespace Go.Proofs.Ythjlmkmijehnjaa.R
open Go.ChangeShapes Go.WideShapes Go.ChangeAt Go.RowKit Go.Deep K L
set_option linter.unusedVariables false
set_option linter.unusedSimpArgs false
set_option maxRecDepth 100000

instance : Inhabited DE := ⟨(⟨0, 0, 0, []⟩, .slice none 0 0)⟩
def DER (w : World) (F : Nat → Prop) (cs : List Value) (e : DE) : Prop := cs = e.cells ∧ Sl w F 1 e.2 e.1.keep.length (e.1.keep.map Value.bool) ∧ (-9223372036854775808 ≤ e.1.kind ∧ e.1.kind ≤ 9223372036854775807) ∧ (-9223372036854775808 ≤ e.1.at_ ∧ e.1.at_ ≤ 9223372036854775807)
def DE.sz (e : DE) : Nat := e.1.keep.length + 1

section
variable {H : Type} {enc : TypeId × Value → H} {W : World} {sp : Nat → Bool}

theorem read_bools {fuel : Nat} {cs : List Value} {x : DataW H × List MemPlace} (h : DataW.trod enc Try.prog W 0 sp true fuel 30 cs = some x) :
    ∃ v, ∃ ks : List Bool, cs = [v] ∧ Sl W (· < W.heap.size) 1 v ks.length (ks.map Value.bool) ∧ ks.length ≤ Rows.uptoBulk x.1 := by
  obtain ⟨v, xs, rfl, ⟨css, h1, h2, h3⟩, h4⟩ := read_slice (α := Bool) (fun _ _ c y => c = [.bool y]) (fun _ => 1) Try.underlying30 (by kernel_rfl : Try.prog.cellsOf 4 = 1) (by decide) (fun n c y hy => by
    obtain ⟨b, rfl, rfl⟩ := DataW.trod_bool Try.underlying4 hy
    exact ⟨b, rfl, by simp [Rows.uptoBulk]⟩) h
  refine ⟨v, xs, rfl, ?_, by rw [List.map_const'] at h4; simpa using h4⟩
  have e : css.flatten = xs.map Value.bool := by
    rw [K.css_map (fun y => [Value.bool y]) css xs h1 (fun j c x hc hx => (h2 j c x hc hx).2)]
    exact K.flatten_one Value.bool xs
  rw [e] at h3
  exact h3

set_option maxHeartbeats 1000000 in
theorem read_de {n : Nat} {cs : List Value} {y : DataW H × List MemPlace} (h : DataW.trod enc Try.prog W 0 sp true n 32 cs = some y) : ∃ e : DE, DER W (· < W.heap.size) cs e ∧ DE.sz e ≤ Rows.uptoBulk y.1 := by
  obtain ⟨xs, n, _, hx, hcs, hlen, hg⟩ := DataW.trod_struct Try.underlying32 h
  clear h
  rw [show Try.prog.cellsOf 32 = 4 from by kernel_rfl] at hcs
  match cs, hcs with
  | [c0, c1, c2, c3], _ =>
    match xs, hlen with
    | [y0, y1, y2, y3], _ =>
      have k3 : Try.prog.cellsOf 3 = 1 := by kernel_rfl
      have k5 : Try.prog.cellsOf 5 = 1 := by kernel_rfl
      have k6 : Try.prog.cellsOf 30 = 1 := by kernel_rfl
      have h0 := hg 0 _ rfl
      have h1 := hg 1 _ rfl
      have h2 := hg 2 _ rfl
      have h3 := hg 3 _ rfl
      simp [k3, k5, k6] at h0 h1 h2 h3
      obtain ⟨n0, e0, r0⟩ := read_int Try.underlying3 h0
      obtain ⟨n1, e1, r1⟩ := read_int Try.underlying3 h1
      obtain ⟨n2, e2, r2⟩ := read_int Try.underlying5 h2
      obtain ⟨v3, ks, e3, b3, l3⟩ := read_bools h3
      subst hx
      cases e0; cases e1; cases e2; cases e3
      have r2' : 0 ≤ n2 ∧ n2 ≤ 255 := by simpa [IntKind.min, IntKind.max, IntKind.signed, IntKind.bits] using r2
      refine ⟨(⟨n0, n1, UInt8.ofNat n2.toNat, ks⟩, _), ⟨?_, b3, by simpa [IntKind.min, IntKind.max, IntKind.signed, IntKind.bits] using r0, by simpa [IntKind.min, IntKind.max, IntKind.signed, IntKind.bits] using r1⟩, ?_⟩
      · simp only [DE.cells, List.cons.injEq, Value.int.injEq, true_and, and_true]
        simp; omega
      · simp only [Rows.uptoBulk, Rows.uptoBulkAll, List.map_cons, List.map_nil, DE.sz]
        omega

/-- An op that came in. -/
theorem arg_de {base : Nat} {v : Value} {d : DataW H} {ps : List MemPlace} (hv : Value.okWide Try.prog W .any base 32 v) (h : DataW.Trod enc Try.prog W 0 sp true 32 v d ps) (hb : Rows.uptoBulk d ≤ 1048576) :
    ∃ e : DE, v = e.agg ∧ Sl W (· < W.heap.size) 1 e.2 e.1.keep.length (e.1.keep.map Value.bool) ∧ e.1.okk := by
  obtain ⟨cs, rfl, hsz⟩ := okWide_struct Try.underlying32 hv
  obtain ⟨l⟩ := cs
  obtain ⟨fuel, hf⟩ := h
  obtain ⟨e, ⟨h1, h2, h3, h4⟩, h5⟩ := read_de hf
  simp only [DE.sz] at h5
  exact ⟨e, by unfold DE.agg; rw [← h1]; simp [Value.cells], h2, ⟨h3.1, h3.2, h4.1, h4.2, by omega⟩⟩

/-- Ops that came in. -/
theorem arg_des {base : Nat} {v : Value} {d : DataW H} {ps : List MemPlace} (hv : Value.okWide Try.prog W .any base 22 v) (h : DataW.Trod enc Try.prog W 0 sp true 22 v d ps) (hb : Rows.uptoBulk d ≤ 1048576) :
    ∃ es : List DE, Ds W (· < W.heap.size) v es := by
  obtain ⟨xs, ⟨css, h1, h2, h3⟩, h4⟩ := arg_slice (α := DE) DER DE.sz Try.underlying22 (by kernel_rfl : Try.prog.cellsOf 32 = 4) (by decide) (fun n cs y hy => read_de hy) hv h
  have e := K.css_map DE.cells css xs h1 (fun j c x hc hx => (h2 j c x hc hx).2.1)
  refine ⟨xs, by rw [e] at h3; rw [List.flatMap_def]; exact h3, fun x hx => ?_⟩
  obtain ⟨j, hj, rfl⟩ := List.getElem_of_mem hx
  obtain ⟨-, -, q1, q2, q3⟩ := h2 j _ _ (List.getElem?_eq_getElem (by omega)) (List.getElem?_eq_getElem hj)
  have hz : DE.sz xs[j] ≤ (xs.map DE.sz).sum := by
    have : ∀ (l : List DE), ∀ e ∈ l, DE.sz e ≤ (l.map DE.sz).sum := by
      intro l
      induction l with
      | nil => intro e he; cases he
      | cons x l ih =>
        intro e he
        simp only [List.map_cons, List.sum_cons]
        rcases List.mem_cons.1 he with rfl | he
        · omega
        · have := ih e he; omega
    exact this xs _ (List.getElem_mem hj)
  simp only [DE.sz] at hz
  exact ⟨q1, ⟨q2.1, q2.2, q3.1, q3.2, by have : (xs.map DE.sz).sum = (xs.map fun e => e.1.keep.length + 1).sum := rfl; omega⟩⟩

end
end Go.Proofs.Ythjlmkmijehnjaa.R
