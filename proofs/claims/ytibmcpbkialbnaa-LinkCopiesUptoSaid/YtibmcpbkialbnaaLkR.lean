/- Layer 12's laws: flights and ops that came in, read. -/
import Derived.Test.YtibmcpbkialbnaaR
import Derived.Test.YtibmcpbkialbnaaLkF
import Derived.WideKeyPair
namespace Go.Proofs.Ytibmcpbkialbnaa.R
open Go.ChangeShapes Go.WideShapes Go.ChangeAt Go.RowKit Go.Deep K L
set_option linter.unusedVariables false
set_option linter.unusedSimpArgs false
set_option maxRecDepth 100000

def PF.okk (f : PF) : Prop := i64 f.frm ∧ i64 f.dst ∧ i64 f.tick ∧ f.bytes.length ≤ 1048576
def FlR (w : World) (F : Nat → Prop) (cs : List Value) (e : PF × Value) : Prop := cs = e.1.cells e.2 ∧ Bs w F e.2 e.1.bytes ∧ i64 e.1.frm ∧ i64 e.1.dst ∧ i64 e.1.tick
def OpR (w : World) (F : Nat → Prop) (cs : List Value) (e : OE) : Prop := cs = e.cells ∧ Bs w F e.2 e.1.fl.bytes ∧ e.1.i64s
def OE.sz (e : OE) : Nat := e.1.fl.bytes.length + 1
instance : Inhabited OE := ⟨(⟨0, ⟨0, 0, 0, []⟩, 0, 0, 0⟩, .slice none 0 0)⟩
section
variable {H : Type} {enc : TypeId × Value → H} {W : World} {sp : Nat → Bool}
theorem read_fl {n : Nat} {cs : List Value} {y : DataW H × List MemPlace} (h : DataW.trod enc Try.prog W 0 sp true n 24 cs = some y) : ∃ e : PF × Value, FlR W (· < W.heap.size) cs e ∧ e.1.bytes.length + 1 ≤ Rows.uptoBulk y.1 := by
  obtain ⟨xs, n, _, hx, hcs, hlen, hg⟩ := DataW.trod_struct Try.underlying24 h
  clear h
  rw [show Try.prog.cellsOf 24 = 4 from by kernel_rfl] at hcs
  match cs, hcs with
  | [c0, c1, c2, c3], _ =>
    match xs, hlen with
    | [y0, y1, y2, y3], _ =>
      have k3 : Try.prog.cellsOf 3 = 1 := by kernel_rfl
      have k6 : Try.prog.cellsOf 22 = 1 := by kernel_rfl
      have h0 := hg 0 _ rfl
      have h1 := hg 1 _ rfl
      have h2 := hg 2 _ rfl
      have h3 := hg 3 _ rfl
      simp [k3, k6] at h0 h1 h2 h3
      obtain ⟨n0, e0, r0⟩ := read_int Try.underlying3 h0
      obtain ⟨n1, e1, r1⟩ := read_int Try.underlying3 h1
      obtain ⟨n2, e2, r2⟩ := read_int Try.underlying3 h2
      obtain ⟨v3, bs, e3, b3, l3⟩ := read_bytes Try.underlying22 (by kernel_rfl) Try.underlying5 h3
      subst hx
      cases e0; cases e1; cases e2; cases e3
      refine ⟨(⟨n0, n1, n2, bs⟩, _), ⟨rfl, b3, by simpa [IntKind.min, IntKind.max, IntKind.signed, IntKind.bits, i64] using r0, by simpa [IntKind.min, IntKind.max, IntKind.signed, IntKind.bits, i64] using r1, by simpa [IntKind.min, IntKind.max, IntKind.signed, IntKind.bits, i64] using r2⟩, ?_⟩
      simp only [Rows.uptoBulk, Rows.uptoBulkAll, List.map_cons, List.map_nil]
      omega
theorem read_op {n : Nat} {cs : List Value} {y : DataW H × List MemPlace} (h : DataW.trod enc Try.prog W 0 sp true n 48 cs = some y) : ∃ e : OE, OpR W (· < W.heap.size) cs e ∧ OE.sz e ≤ Rows.uptoBulk y.1 := by
  obtain ⟨xs, n, _, hx, hcs, hlen, hg⟩ := DataW.trod_struct Try.underlying48 h
  clear h
  rw [show Try.prog.cellsOf 48 = 8 from by kernel_rfl] at hcs
  match cs, hcs with
  | [c0, c1, c2, c3, c4, c5, c6, c7], _ =>
    match xs, hlen with
    | [y0, y1, y2, y3, y4], _ =>
      have k3 : Try.prog.cellsOf 3 = 1 := by kernel_rfl
      have k6 : Try.prog.cellsOf 24 = 4 := by kernel_rfl
      have h0 := hg 0 _ rfl
      have h1 := hg 1 _ rfl
      have h2 := hg 2 _ rfl
      have h3 := hg 3 _ rfl
      have h4 := hg 4 _ rfl
      simp [k3, k6] at h0 h1 h2 h3 h4
      obtain ⟨n0, e0, r0⟩ := read_int Try.underlying3 h0
      obtain ⟨⟨f, vb⟩, ⟨e1, b1, q1, q2, q3⟩, l1⟩ := read_fl h1
      obtain ⟨n2, e2, r2⟩ := read_int Try.underlying3 h2
      obtain ⟨n3, e3, r3⟩ := read_int Try.underlying3 h3
      obtain ⟨n4, e4, r4⟩ := read_int Try.underlying3 h4
      subst hx
      dsimp only [PF.cells] at e1
      cases e0; cases e1; cases e2; cases e3; cases e4
      refine ⟨(⟨n0, f, n2, n3, n4⟩, _), ⟨rfl, b1, by simpa [IntKind.min, IntKind.max, IntKind.signed, IntKind.bits, i64] using r0, q1, q2, q3, by simpa [IntKind.min, IntKind.max, IntKind.signed, IntKind.bits, i64] using r2, by simpa [IntKind.min, IntKind.max, IntKind.signed, IntKind.bits, i64] using r3, by simpa [IntKind.min, IntKind.max, IntKind.signed, IntKind.bits, i64] using r4⟩, ?_⟩
      simp only [Rows.uptoBulk, Rows.uptoBulkAll, List.map_cons, List.map_nil, OE.sz]
      dsimp only at l1
      omega
/-- A flight that came in. -/
theorem arg_fl {base : Nat} {v : Value} {d : DataW H} {ps : List MemPlace} (hv : Value.okWide Try.prog W .any base 24 v) (h : DataW.Trod enc Try.prog W 0 sp true 24 v d ps) (hb : Rows.uptoBulk d ≤ 1048576) :
    ∃ (f : PF) (vb : Value), v = .agg (f.cells vb).toArray ∧ Bs W (· < W.heap.size) vb f.bytes ∧ PF.okk f := by
  obtain ⟨cs, rfl, hsz⟩ := okWide_struct Try.underlying24 hv
  obtain ⟨l⟩ := cs
  obtain ⟨fuel, hf⟩ := h
  obtain ⟨⟨f, vb⟩, ⟨h1, h2, h3, h4, h5⟩, h6⟩ := read_fl hf
  dsimp only at h1 h2 h3 h4 h5 h6
  exact ⟨f, vb, by rw [← h1]; simp [Value.cells], h2, h3, h4, h5, by omega⟩
/-- An op that came in. -/
theorem arg_op {base : Nat} {v : Value} {d : DataW H} {ps : List MemPlace} (hv : Value.okWide Try.prog W .any base 48 v) (h : DataW.Trod enc Try.prog W 0 sp true 48 v d ps) (hb : Rows.uptoBulk d ≤ 1048576) :
    ∃ e : OE, v = .agg e.cells.toArray ∧ Bs W (· < W.heap.size) e.2 e.1.fl.bytes ∧ e.1.okk := by
  obtain ⟨cs, rfl, hsz⟩ := okWide_struct Try.underlying48 hv
  obtain ⟨l⟩ := cs
  obtain ⟨fuel, hf⟩ := h
  obtain ⟨e, ⟨h1, h2, h3⟩, h5⟩ := read_op hf
  simp only [OE.sz] at h5
  exact ⟨e, by rw [← h1]; simp [Value.cells], h2, h3, by omega⟩
/-- Numbers that came in. -/
theorem arg_ints {base : Nat} {v : Value} {d : DataW H} {ps : List MemPlace} (hv : Value.okWide Try.prog W .any base 35 v) (h : DataW.Trod enc Try.prog W 0 sp true 35 v d ps) (hb : Rows.uptoBulk d ≤ 1048576) :
    ∃ ks : List Int, Sl W (· < W.heap.size) 1 v ks.length (ks.map (Value.int .i64)) ∧ (∀ k ∈ ks, i64 k) ∧ ks.length ≤ 1048576 := by
  obtain ⟨xs, ⟨css, h1, h2, h3⟩, h4⟩ := arg_slice (α := Int) (fun _ _ c y => c = [.int .i64 y] ∧ i64 y) (fun _ => 1) Try.underlying35 (by kernel_rfl : Try.prog.cellsOf 3 = 1) (by decide) (fun n c y hy => by
    obtain ⟨n0, e0, r0⟩ := read_int Try.underlying3 hy
    subst e0
    exact ⟨n0, ⟨rfl, by simpa [IntKind.min, IntKind.max, IntKind.signed, IntKind.bits, i64] using r0⟩, one_bulk _⟩) hv h
  refine ⟨xs, ?_, fun k hk => ?_, by rw [List.map_const'] at h4; simp at h4; omega⟩
  · have e : css.flatten = xs.map (Value.int .i64) := by
      rw [K.css_map (fun y => [Value.int .i64 y]) css xs h1 (fun j c x hc hx => (h2 j c x hc hx).2.1)]
      exact K.flatten_one (Value.int .i64) xs
    rw [e] at h3
    exact h3
  · obtain ⟨j, hj, rfl⟩ := List.getElem_of_mem hk
    exact (h2 j _ _ (List.getElem?_eq_getElem (by omega)) (List.getElem?_eq_getElem hj)).2.2
/-- A pair that came in. -/
theorem arg_pair {base : Nat} {v : Value} {d : DataW H} {ps : List MemPlace} (hv : Value.okWide Try.prog W .any base 53 v) (h : DataW.Trod enc Try.prog W 0 sp true 53 v d ps) : ∃ p : PK, v = kv p ∧ i64 p.1 ∧ i64 p.2 := by
  obtain ⟨c0, c1, rfl⟩ := WideMaps.okWide_pair (P := Try.prog) (e := 3) ⟨Try.underlying53, by kernel_rfl, by kernel_rfl, by kernel_rfl⟩ hv
  obtain ⟨fuel, hf⟩ := h
  obtain ⟨xs, m, _, _, _, hl, hg⟩ := DataW.trod_array Try.underlying53 hf
  have k3 : Try.prog.cellsOf 3 = 1 := by kernel_rfl
  match xs, hl with
  | [y0, y1], _ =>
    have h0 := hg 0 (by decide)
    have h1 := hg 1 (by decide)
    simp [k3, Value.cells] at h0 h1
    obtain ⟨n0, e0, r0⟩ := read_int Try.underlying3 h0
    obtain ⟨n1, e1, r1⟩ := read_int Try.underlying3 h1
    cases e0
    cases e1
    exact ⟨(n0, n1), rfl, by simpa [IntKind.min, IntKind.max, IntKind.signed, IntKind.bits, i64] using r0, by simpa [IntKind.min, IntKind.max, IntKind.signed, IntKind.bits, i64] using r1⟩
/-- Ops that came in. -/
theorem arg_ops {base : Nat} {v : Value} {d : DataW H} {ps : List MemPlace} (hv : Value.okWide Try.prog W .any base 42 v) (h : DataW.Trod enc Try.prog W 0 sp true 42 v d ps) (hb : Rows.uptoBulk d ≤ 1048576) :
    ∃ es : List OE, OpsF W (· < W.heap.size) v es := by
  obtain ⟨xs, ⟨css, h1, h2, h3⟩, h4⟩ := arg_slice (α := OE) OpR OE.sz Try.underlying42 (by kernel_rfl : Try.prog.cellsOf 48 = 8) (by decide) (fun n cs y hy => read_op hy) hv h
  have e := K.css_map OE.cells css xs h1 (fun j c x hc hx => (h2 j c x hc hx).2.1)
  have hsum : ∀ (l : List OE), (∀ e ∈ l, OE.sz e ≤ (l.map OE.sz).sum) ∧ l.length ≤ (l.map OE.sz).sum := by
    intro l
    induction l with
    | nil => exact ⟨fun e he => (by cases he), Nat.le_refl _⟩
    | cons x l ih =>
      simp only [List.map_cons, List.sum_cons, List.length_cons]
      refine ⟨fun e he => ?_, ?_⟩
      · rcases List.mem_cons.1 he with rfl | he
        · omega
        · have := ih.1 e he; omega
      · have : 1 ≤ OE.sz x := by simp [OE.sz]
        have := ih.2; omega
  refine ⟨xs, by rw [e] at h3; rw [List.flatMap_def]; exact h3, fun x hx => ?_, by have := (hsum xs).2; omega⟩
  obtain ⟨j, hj, rfl⟩ := List.getElem_of_mem hx
  obtain ⟨-, -, q1, q2⟩ := h2 j _ _ (List.getElem?_eq_getElem (by omega)) (List.getElem?_eq_getElem hj)
  have hz := (hsum xs).1 _ (List.getElem_mem hj)
  simp only [OE.sz] at hz
  have h4' : (xs.map fun e => e.1.fl.bytes.length + 1).sum ≤ Rows.uptoBulk d := h4
  exact ⟨q1, q2, by have : (xs.map OE.sz).sum = (xs.map fun e => e.1.fl.bytes.length + 1).sum := rfl; omega⟩
end

end Go.Proofs.Ytibmcpbkialbnaa.R
