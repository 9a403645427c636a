/- Layer 27: facts that came in, read. -/
import Derived.Test.YtfdijgdojejimaaR
import Derived.Test.YtfdijgdojejimaaId9
namespace Go.Proofs.Ytfdijgdojejimaa.R
open Go.ChangeShapes Go.WideShapes Go.ChangeAt Go.RowKit Go.Deep K L
set_option linter.unusedVariables false

theorem bulk_le {H : Type} {d : DataW H} : ∀ {l : List (DataW H)}, d ∈ l → Rows.uptoBulk d ≤ Rows.uptoBulkAll l
  | e :: r, h => by
    simp only [Rows.uptoBulkAll]
    rcases List.mem_cons.1 h with rfl | h
    · omega
    · have := bulk_le h; omega

/-- What is known of a fact that came in. -/
def FactR (w : World) (F : Nat → Prop) (cs : List Value) (e : FE) : Prop := cs = e.cells ∧ Bs w F e.2 e.1.bytes ∧ e.1.number < 4294967296 ∧ (-9223372036854775808 ≤ e.1.kind ∧ e.1.kind ≤ 9223372036854775807)

section
variable {H : Type} {enc : TypeId × Value → H} {W : World} {sp : Nat → Bool}

set_option maxHeartbeats 1000000 in
theorem read_fact {n : Nat} {cs : List Value} {y : DataW H × List MemPlace} (h : DataW.trod enc Try.prog W 0 sp true n 26 cs = some y) :
    ∃ e : FE, FactR W (· < W.heap.size) cs e ∧ max 1 e.1.bytes.length ≤ Rows.uptoBulk y.1 := by
  obtain ⟨xs, n, _, hx, hcs, hlen, hg⟩ := DataW.trod_struct Try.underlying26 h
  clear h
  rw [show Try.prog.cellsOf 26 = 7 from by kernel_rfl] at hcs
  match cs, hcs with
  | [c0, c1, c2, c3, c4, c5, c6], _ =>
    match xs, hlen with
    | [y0, y1, y2, y3, y4, y5, y6], _ =>
      have k3 : Try.prog.cellsOf 3 = 1 := by kernel_rfl
      have k4 : Try.prog.cellsOf 23 = 1 := by kernel_rfl
      have k5 : Try.prog.cellsOf 9 = 1 := by kernel_rfl
      have k6 : Try.prog.cellsOf 24 = 1 := by kernel_rfl
      have h0 := hg 0 _ rfl
      have h1 := hg 1 _ rfl
      have h2 := hg 2 _ rfl
      have h3 := hg 3 _ rfl
      have h4 := hg 4 _ rfl
      have h5 := hg 5 _ rfl
      have h6 := hg 6 _ rfl
      simp [k3, k4, k5, k6] at h0 h1 h2 h3 h4 h5 h6
      obtain ⟨n0, e0, r0⟩ := read_int Try.underlying3 h0
      obtain ⟨n1, e1, r1⟩ := read_int Try.underlying3 h1
      obtain ⟨n2, e2, r2⟩ := read_int Try.underlying3 h2
      obtain ⟨n3, e3, r3⟩ := read_int Try.underlying23 h3
      obtain ⟨s4, e4, d4, -⟩ := DataW.trod_string Try.underlying9 h4
      obtain ⟨n5, e5, r5⟩ := read_int Try.underlying3 h5
      obtain ⟨v6, xs6, e6, b6, l6⟩ := read_bytes Try.underlying24 (by kernel_rfl) Try.underlying5 h6
      subst hx
      cases e0; cases e1; cases e2; cases e3; cases e4; cases e5; cases e6
      have hn3 : 0 ≤ n3 ∧ n3 ≤ 4294967295 := by simpa [IntKind.min, IntKind.max, IntKind.signed, IntKind.bits] using r3
      obtain ⟨m3, rfl⟩ : ∃ k : Nat, n3 = (k : Int) := ⟨n3.toNat, by omega⟩
      refine ⟨(⟨n0, n1, n2, m3, s4.data.toList, n5, xs6⟩, _), ⟨rfl, b6, by dsimp only; omega, by simpa [IntKind.min, IntKind.max, IntKind.signed, IntKind.bits] using r0⟩, ?_⟩
      have := bulk_le (d := y6.1) (l := [y0, y1, y2, y3, y4, y5, y6].map (·.1)) (by simp)
      have h8 := one_bulk y6.1
      simp only [Rows.uptoBulk]
      omega

/-- What is known of a slice of facts that came in. -/
theorem arg_facts {base : Nat} {v : Value} {d : DataW H} {ps : List MemPlace} (hv : Value.okWide Try.prog W .any base 22 v) (h : DataW.Trod enc Try.prog W 0 sp true 22 v d ps) (hb : Rows.uptoBulk d ≤ 1048576) :
    ∃ es : List FE, Ls W v es ∧ es.length ≤ 1048576 ∧ (∀ e ∈ es, e.1.number < 4294967296) ∧ (∀ e ∈ es, -9223372036854775808 ≤ e.1.kind ∧ e.1.kind ≤ 9223372036854775807) := by
  obtain ⟨xs, ⟨css, h1, h2, h3⟩, h4⟩ := arg_slice (α := FE) FactR (fun e => max 1 e.1.bytes.length) Try.underlying22 (by kernel_rfl : Try.prog.cellsOf 26 = 7) (by decide) (fun n cs y hy => read_fact hy) hv h
  have hcs : css = xs.map FE.cells := css_map _ _ _ h1 (fun j c x hc hx => (h2 j c x hc hx).2.1)
  have hprop : ∀ e ∈ xs, Bs W (· < W.heap.size) e.2 e.1.bytes ∧ e.1.number < 4294967296 ∧ (-9223372036854775808 ≤ e.1.kind ∧ e.1.kind ≤ 9223372036854775807) := by
    intro e he
    obtain ⟨j, hj, rfl⟩ := List.getElem_of_mem he
    exact (h2 j _ _ (List.getElem?_eq_getElem (by omega)) (List.getElem?_eq_getElem hj)).2.2
  have hsum : ∀ l : List FE, l.length ≤ (l.map fun e => max 1 e.1.bytes.length).sum ∧ ∀ e ∈ l, e.1.bytes.length ≤ (l.map fun e => max 1 e.1.bytes.length).sum := by
    intro l
    induction l with
    | nil => exact ⟨by simp, fun e he => by cases he⟩
    | cons x l ih =>
      refine ⟨by simp only [List.length_cons, List.map_cons, List.sum_cons]; have := ih.1; omega, fun e he => ?_⟩
      simp only [List.map_cons, List.sum_cons]
      rcases List.mem_cons.1 he with rfl | he
      · omega
      · have := ih.2 e he; omega
  have hs := hsum xs
  refine ⟨xs, ⟨?_, fun e he => ⟨(hprop e he).1, by have := hs.2 e he; omega⟩⟩, by omega, fun e he => (hprop e he).2.1, fun e he => (hprop e he).2.2⟩
  rw [hcs] at h3
  rw [List.flatMap_def]
  exact h3

end
end Go.Proofs.Ytfdijgdojejimaa.R
