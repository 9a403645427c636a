/- Layer 5: files, operations and names that came in, read. -/
import Derived.Test.YtjgobljclodpfaaR
import Derived.Test.YtjgobljclodpfaaFiA
namespace Go.Proofs.Ytjgobljclodpfaa.R
open Go.ChangeShapes Go.WideShapes Go.ChangeAt Go.RowKit Go.Deep K L
set_option linter.unusedVariables false
set_option linter.unusedSimpArgs false
set_option maxRecDepth 100000

theorem bulk_le {H : Type} {d : DataW H} : ∀ {l : List (DataW H)}, d ∈ l → Rows.uptoBulk d ≤ Rows.uptoBulkAll l
  | e :: r, h => by
    simp only [Rows.uptoBulkAll]
    rcases List.mem_cons.1 h with rfl | h
    · omega
    · have := bulk_le h; omega

instance : Inhabited FE := ⟨(⟨[], []⟩, .slice none 0 0)⟩
instance : Inhabited OE := ⟨(⟨0, [], [], 0, []⟩, .slice none 0 0)⟩

def FileR (w : World) (F : Nat → Prop) (cs : List Value) (e : FE) : Prop := cs = e.cells ∧ Bs w F e.2 e.1.bytes
def OpR (w : World) (F : Nat → Prop) (cs : List Value) (e : OE) : Prop := cs = e.cells ∧ Bs w F e.2 e.1.bytes ∧ (-9223372036854775808 ≤ e.1.at_ ∧ e.1.at_ ≤ 9223372036854775807) ∧ (-9223372036854775808 ≤ e.1.kind ∧ e.1.kind ≤ 9223372036854775807)
def FE.sz (e : FE) : Nat := e.1.name.length + e.1.bytes.length + 1
def OE.sz (e : OE) : Nat := e.1.name.length + e.1.new.length + e.1.bytes.length + 1

section
variable {H : Type} {enc : TypeId × Value → H} {W : World} {sp : Nat → Bool}

theorem str_bulk {y : DataW H × List MemPlace} {t : TypeId} {n : Nat} {cs : List Value} (ht : Try.prog.underlying t = some .string) (h : DataW.trod enc Try.prog W 0 sp true n t cs = some y) : ∃ s : List UInt8, cs = [.string ⟨s.toArray⟩] ∧ s.length + 1 ≤ Rows.uptoBulk y.1 := by
  obtain ⟨s, e1, d, -⟩ := DataW.trod_string ht h
  refine ⟨s.data.toList, by rw [e1], ?_⟩
  rw [d]; simp [Rows.uptoBulk]

set_option maxHeartbeats 1000000 in
theorem read_file {n : Nat} {cs : List Value} {y : DataW H × List MemPlace} (h : DataW.trod enc Try.prog W 0 sp true n 40 cs = some y) :
    ∃ e : FE, FileR W (· < W.heap.size) cs e ∧ FE.sz e ≤ Rows.uptoBulk y.1 := by
  obtain ⟨xs, n, _, hx, hcs, hlen, hg⟩ := DataW.trod_struct Try.underlying40 h
  clear h
  rw [show Try.prog.cellsOf 40 = 2 from by kernel_rfl] at hcs
  match cs, hcs with
  | [c0, c1], _ =>
    match xs, hlen with
    | [y0, y1], _ =>
      have k5 : Try.prog.cellsOf 9 = 1 := by kernel_rfl
      have k6 : Try.prog.cellsOf 35 = 1 := by kernel_rfl
      have h0 := hg 0 _ rfl
      have h1 := hg 1 _ rfl
      simp [k5, k6] at h0 h1
      obtain ⟨s0, e0, l0⟩ := str_bulk Try.underlying9 h0
      obtain ⟨v1, xs1, e1, b1, l1⟩ := read_bytes Try.underlying35 (by kernel_rfl) Try.underlying5 h1
      subst hx
      cases e0; cases e1
      refine ⟨(⟨s0, xs1⟩, _), ⟨rfl, b1⟩, ?_⟩
      simp only [Rows.uptoBulk, Rows.uptoBulkAll, List.map_cons, List.map_nil, FE.sz]
      omega

set_option maxHeartbeats 1000000 in
theorem read_op {n : Nat} {cs : List Value} {y : DataW H × List MemPlace} (h : DataW.trod enc Try.prog W 0 sp true n 37 cs = some y) :
    ∃ e : OE, OpR W (· < W.heap.size) cs e ∧ OE.sz e ≤ Rows.uptoBulk y.1 := by
  obtain ⟨xs, n, _, hx, hcs, hlen, hg⟩ := DataW.trod_struct Try.underlying37 h
  clear h
  rw [show Try.prog.cellsOf 37 = 5 from by kernel_rfl] at hcs
  match cs, hcs with
  | [c0, c1, c2, c3, c4], _ =>
    match xs, hlen with
    | [y0, y1, y2, y3, y4], _ =>
      have k3 : Try.prog.cellsOf 3 = 1 := by kernel_rfl
      have k5 : Try.prog.cellsOf 9 = 1 := by kernel_rfl
      have k6 : Try.prog.cellsOf 35 = 1 := by kernel_rfl
      have h0 := hg 0 _ rfl
      have h1 := hg 1 _ rfl
      have h2 := hg 2 _ rfl
      have h3 := hg 3 _ rfl
      have h4 := hg 4 _ rfl
      simp [k3, k5, k6] at h0 h1 h2 h3 h4
      obtain ⟨n0, e0, r0⟩ := read_int Try.underlying3 h0
      obtain ⟨s1, e1, l1⟩ := str_bulk Try.underlying9 h1
      obtain ⟨s2, e2, l2⟩ := str_bulk Try.underlying9 h2
      obtain ⟨n3, e3, r3⟩ := read_int Try.underlying3 h3
      obtain ⟨v4, xs4, e4, b4, l4⟩ := read_bytes Try.underlying35 (by kernel_rfl) Try.underlying5 h4
      subst hx
      cases e0; cases e1; cases e2; cases e3; cases e4
      refine ⟨(⟨n0, s1, s2, n3, xs4⟩, _), ⟨rfl, b4, by simpa [IntKind.min, IntKind.max, IntKind.signed, IntKind.bits] using r3, by simpa [IntKind.min, IntKind.max, IntKind.signed, IntKind.bits] using r0⟩, ?_⟩
      simp only [Rows.uptoBulk, Rows.uptoBulkAll, List.map_cons, List.map_nil, OE.sz]
      omega

theorem sum_mem {α : Type} (f : α → Nat) : ∀ (l : List α), ∀ e ∈ l, f e ≤ (l.map f).sum
  | x :: l, e, he => by
    simp only [List.map_cons, List.sum_cons]
    rcases List.mem_cons.1 he with rfl | he
    · omega
    · have := sum_mem f l e he; omega
theorem sum_cost : ∀ l : List FE, cost (fls l) + l.length = (l.map FE.sz).sum
  | [] => rfl
  | x :: l => by
    have := sum_cost l
    simp only [fls, cost, List.map_cons, List.sum_cons, List.length_cons, FE.sz, cost1] at this ⊢
    omega

theorem slr_all {α : Type} [Inhabited α] {k : Nat} {R : World → (Nat → Prop) → List Value → α → Prop} {F : Nat → Prop} {v : Value} {xs : List α} (h : SlR W F k R v xs) (cells : α → List Value) (hc : ∀ c x, R W F c x → c = cells x) : Sl W F k v xs.length (xs.flatMap cells) ∧ ∀ x ∈ xs, ∃ c, R W F c x := by
  obtain ⟨css, h1, h2, h3⟩ := h
  have hcs : css = xs.map cells := by
    apply List.ext_getElem?
    intro j
    rw [List.getElem?_map]
    cases hj : css[j]? with
    | none => rw [List.getElem?_eq_none_iff] at hj; rw [List.getElem?_eq_none (by omega)]; rfl
    | some c =>
      have hlt := (List.getElem?_eq_some_iff.1 hj).1
      have hx := List.getElem?_eq_getElem (l := xs) (i := j) (by omega)
      rw [hx, hc _ _ (h2 j c _ hj hx).2]; rfl
  refine ⟨by rw [hcs] at h3; rw [List.flatMap_def]; exact h3, fun x hx => ?_⟩
  obtain ⟨j, hj, rfl⟩ := List.getElem_of_mem hx
  exact ⟨css[j]'(by omega), (h2 j _ _ (List.getElem?_eq_getElem (by omega)) (List.getElem?_eq_getElem hj)).2⟩

/-- Files that came in. -/
theorem arg_files {base : Nat} {v : Value} {d : DataW H} {ps : List MemPlace} (hv : Value.okWide Try.prog W .any base 24 v) (h : DataW.Trod enc Try.prog W 0 sp true 24 v d ps) (hb : Rows.uptoBulk d ≤ 1048576) :
    ∃ (u : Value) (es : List FE), v = .agg #[u] ∧ FsF W (· < W.heap.size) u es ∧ cost (fls es) + es.length ≤ 1048576 := by
  obtain ⟨cs, rfl, hsz⟩ := okWide_struct Try.underlying24 hv
  obtain ⟨l⟩ := cs
  rw [show Try.prog.cellsOf 24 = 1 from by kernel_rfl] at hsz
  match l, hsz with
  | [c0], _ =>
    obtain ⟨fuel, hf⟩ := h
    obtain ⟨xs, n, _, hx, _, hlen, hg⟩ := DataW.trod_struct Try.underlying24 hf
    match xs, hlen with
    | [y0], _ =>
      have k3 : Try.prog.cellsOf 22 = 1 := by kernel_rfl
      have h0 := hg 0 _ rfl
      simp [Value.cells, k3] at h0
      obtain ⟨u, es, e1, hs, hsum⟩ := read_slice (α := FE) FileR FE.sz Try.underlying22 (by kernel_rfl : Try.prog.cellsOf 40 = 2) (by decide) (fun n cs y hy => read_file hy) h0
      simp only [Prod.mk.injEq] at hx
      obtain ⟨hx1, -⟩ := hx
      cases e1
      subst hx1
      obtain ⟨a1, a2⟩ := slr_all hs FE.cells (fun c x hc => hc.1)
      refine ⟨_, es, rfl, ⟨a1, fun e he => (a2 e he).elim fun c hc => hc.2⟩, ?_⟩
      rw [sum_cost]
      simp only [Rows.uptoBulk, Rows.uptoBulkAll, List.map_cons, List.map_nil] at hb
      omega

/-- Operations that came in. -/
theorem arg_ops {base : Nat} {v : Value} {d : DataW H} {ps : List MemPlace} (hv : Value.okWide Try.prog W .any base 25 v) (h : DataW.Trod enc Try.prog W 0 sp true 25 v d ps) (hb : Rows.uptoBulk d ≤ 1048576) :
    ∃ os : List OE, OpsF W (· < W.heap.size) v os ∧ (os.map OE.sz).sum ≤ 1048576 ∧ (∀ o ∈ os, o.1.ok) ∧ ∀ o ∈ os, -9223372036854775808 ≤ o.1.kind ∧ o.1.kind ≤ 9223372036854775807 := by
  obtain ⟨xs, hs, h4⟩ := arg_slice (α := OE) OpR OE.sz Try.underlying25 (by kernel_rfl : Try.prog.cellsOf 37 = 5) (by decide) (fun n cs y hy => read_op hy) hv h
  obtain ⟨a1, a2⟩ := slr_all hs OE.cells (fun c x hc => hc.1)
  refine ⟨xs, ⟨a1, fun e he => (a2 e he).elim fun c hc => hc.2.1⟩, by omega, fun e he => ?_, fun e he => (a2 e he).elim fun c hc => hc.2.2.2⟩
  have hz := sum_mem OE.sz xs e he
  obtain ⟨c, -, -, hc, -⟩ := a2 e he
  simp only [OE.sz] at hz
  exact ⟨by omega, by omega, by omega, hc.1, hc.2⟩

/-- An operation that came in. -/
theorem arg_op {base : Nat} {v : Value} {d : DataW H} {ps : List MemPlace} (hv : Value.okWide Try.prog W .any base 37 v) (h : DataW.Trod enc Try.prog W 0 sp true 37 v d ps) (hb : Rows.uptoBulk d ≤ 1048576) :
    ∃ o : OE, v = .agg (OE.cells o).toArray ∧ Bs W (· < W.heap.size) o.2 o.1.bytes ∧ o.1.ok ∧ (-9223372036854775808 ≤ o.1.kind ∧ o.1.kind ≤ 9223372036854775807) := by
  obtain ⟨cs, rfl, hsz⟩ := okWide_struct Try.underlying37 hv
  obtain ⟨l⟩ := cs
  obtain ⟨fuel, hf⟩ := h
  obtain ⟨e, ⟨h1, h2, h3, h4⟩, h5⟩ := read_op hf
  simp only [OE.sz] at h5
  exact ⟨e, by rw [← h1]; simp [Value.cells], h2, ⟨by omega, by omega, by omega, h3.1, h3.2⟩, h4⟩

/-- Names that came in. -/
theorem arg_names {base : Nat} {v : Value} {d : DataW H} {ps : List MemPlace} (hv : Value.okWide Try.prog W .any base 45 v) (h : DataW.Trod enc Try.prog W 0 sp true 45 v d ps) (hb : Rows.uptoBulk d ≤ 1048576) :
    ∃ ss : List (List UInt8), Sl W (· < W.heap.size) 1 v ss.length (ss.map fun s => .string ⟨s.toArray⟩) ∧ ss.length ≤ 1048576 ∧ ∀ s ∈ ss, s.length ≤ 1048576 := by
  obtain ⟨xs, hs, h4⟩ := arg_slice (α := List UInt8) (fun _ _ c s => c = [.string ⟨s.toArray⟩]) (fun s => s.length + 1) Try.underlying45 (by kernel_rfl : Try.prog.cellsOf 9 = 1) (by decide) (fun n cs y hy => str_bulk Try.underlying9 hy) hv h
  obtain ⟨a1, a2⟩ := slr_all hs (fun s => [.string ⟨s.toArray⟩]) (fun c x hc => hc)
  have hl : xs.length ≤ (xs.map fun s => s.length + 1).sum := by
    clear hs h4 a1 a2
    induction xs with
    | nil => simp
    | cons x xs ih => simp only [List.map_cons, List.sum_cons, List.length_cons]; omega
  refine ⟨xs, ?_, by omega, fun s hs' => by have := sum_mem (fun s : List UInt8 => s.length + 1) xs s hs'; omega⟩
  rwa [show xs.flatMap (fun s => [Value.string ⟨s.toArray⟩]) = xs.map (fun s => Value.string ⟨s.toArray⟩) from by clear hs h4 a1 a2 hl; induction xs with
    | nil => rfl
    | cons x xs ih => simp [ih]] at a1

end
end Go.Proofs.Ytjgobljclodpfaa.R
