/- From a walk to a law's statement: how arguments read, and that a call that leaves memory unturned and returns true meets the row. No condition. -/
import Derived.Test.YtjgobljclodpfaaRows
import Derived.Test.YtjgobljclodpfaaK
import Derived.WalkKit
import Derived.ProofKit
import Derived.OpenShut
import Derived.JoinedCond
import Derived.Carry
import Derived.Deep.Slices
namespace Go.Proofs.Ytjgobljclodpfaa.R
open Go.ChangeShapes Go.WideShapes Go.ChangeAt Go.RowKit Go.Deep K
set_option linter.unusedVariables false

section
variable {H : Type} {enc : TypeId × Value → H} {P : Program}

theorem trodAll_below (hl : laidOutB P = true) {W W' : World} (hb : Below W.heap.size W W') :
    ∀ (ts : List TypeId) (vs : List Value) (ds : List (DataW H)) (ps : List MemPlace), (∀ t ∈ ts, P.readableRec t = true ∧ t < P.types.size) →
      DataW.TrodAll enc P W 0 (fun _ => true) true ts vs ds ps → DataW.TrodAll enc P W' 0 (fun b => decide (b < W.heap.size)) true ts vs ds ps
  | [], [], [], _, _, h => h
  | [], _ :: _, _, _, _, h => h.elim
  | [], [], _ :: _, _, _, h => h.elim
  | _ :: _, [], _, _, _, h => h.elim
  | _ :: _, _ :: _, [], _, _, h => h.elim
  | t :: ts, v :: vs, d :: ds, ps, hr, h => by
    have hlt := DataW.TrodAll.lt h
    obtain ⟨p, q, h1, h2, e⟩ := h
    refine ⟨p, q, Below.trod hl (hr t (by simp)).1 (hr t (by simp)).2 h1 hb (fun x hx => hlt x (by rw [e]; simp [hx])), ?_, e⟩
    exact trodAll_below hl hb ts vs ds q (fun t ht => hr t (by simp [ht])) h2

/-- A law's row is met by a call that returns true and turns nothing that was there. -/
theorem post_law {f : Func} {s : ChangeSpec} {W W' : World} {args : Array Value} {ds gs : List (DataW H)} {before : List MemPlace} {tb : TypeId} (hl : laidOutB P = true) (hsv : s.vars = [])
    (hW : DataW.Whole enc P f.params.toList s.vars false W args.toList ds gs before) (hfn : gs = [] → s.fn H (ds ++ gs) = { results := [.lit (.bool true)], args := ds })
    (hrt : f.resultTypes = #[tb]) (hub : P.underlying tb = some .bool) (hp : ∀ t ∈ f.params.toList, P.readableRec t = true ∧ t < P.types.size) (hB : Below W.heap.size W W') :
    s.post enc P f false true false false W args (.bool true) W' := by
  have hW' := hW
  obtain ⟨p, q, hA, hV, e, _, _⟩ := hW
  have hgs : gs = [] ∧ q = [] := by
    rw [hsv] at hV
    cases gs with
    | nil => exact ⟨rfl, hV⟩
    | cons g gs => exact hV.elim
  have hfn' := hfn hgs.1
  obtain ⟨hg1, rfl⟩ := hgs
  subst hg1
  refine ⟨ds, [], before, [], before, [], hW', ?_, ?_, ?_, hB.frame _, fun h => by cases h⟩
  · rw [hfn', hrt]
    exact trodAll_mk1 (shut_bool hub true)
  · rw [hfn']
    rw [List.append_nil] at e
    subst e
    exact trodAll_below hl hB _ _ _ _ hp hA
  · rw [hfn', hsv]; rfl
end

section
variable {H : Type} {enc : TypeId × Value → H} {P : Program} {W : World} {sp : Nat → Bool}

theorem bulk_range {n : Nat} (D : Nat → DataW H) (sz : Nat → Nat) (h : ∀ i, i < n → sz i ≤ Rows.uptoBulk (D i)) : ((List.range n).map sz).sum ≤ Rows.uptoBulkAll ((List.range n).map D) := by
  have : ∀ l : List Nat, (∀ i ∈ l, i < n) → (l.map sz).sum ≤ Rows.uptoBulkAll (l.map D) := by
    intro l
    induction l with
    | nil => intro _; simp [Rows.uptoBulkAll]
    | cons a l ih =>
      intro hl
      have h1 := ih (fun i hi => hl i (by simp [hi]))
      have h2 := h a (hl a (by simp))
      simp only [List.map_cons, List.sum_cons, Rows.uptoBulkAll]
      omega
  exact this _ (fun i hi => List.mem_range.1 hi)

theorem one_bulk (d : DataW H) : 1 ≤ Rows.uptoBulk d := by
  cases d with
  | lit l => cases l <;> simp [Rows.uptoBulk]
  | nil => simp [Rows.uptoBulk]
  | ptr d => simp [Rows.uptoBulk]
  | slice elems spare => simp [Rows.uptoBulk]
  | agg parts => simp [Rows.uptoBulk]
  | iface t d => simp [Rows.uptoBulk]
  | map entries => simp [Rows.uptoBulk]
  | held h => simp [Rows.uptoBulk]

/-- A slice that came in: its elements by their own reading. -/
theorem read_slice {α : Type} [Inhabited α] {t e k : TypeId} {fuel : Nat} {cs : List Value} {x : DataW H × List MemPlace} (R : World → (Nat → Prop) → List Value → α → Prop) (sz : α → Nat)
    (ht : P.underlying t = some (.slice e)) (hk : P.cellsOf e = k) (hpos : 0 < k)
    (hR : ∀ n cs y, DataW.trod enc P W 0 sp true n e cs = some y → ∃ a : α, R W (· < W.heap.size) cs a ∧ sz a ≤ Rows.uptoBulk y.1)
    (h : DataW.trod enc P W 0 sp true fuel t cs = some x) :
    ∃ v xs, cs = [v] ∧ SlR W (· < W.heap.size) k R v xs ∧ (xs.map sz).sum ≤ Rows.uptoBulk x.1 := by
  rcases open_slice ht h with ⟨rfl, rfl⟩ | ⟨a, len, cap, m, n, D, Pl, rfl, -, hl, hm, hmm, rfl, hel⟩
  · exact ⟨_, [], rfl, ⟨[], rfl, by simp, Sl.nil _ _ _⟩, by simp⟩
  · have hlm : len ≤ m := by rw [hmm]; split <;> omega
    obtain ⟨C, hC⟩ := choose_lt (α := List Value) (p := fun i c => W.cells? 0 (a.add (i * P.cellsOf e)) (P.cellsOf e) = some c ∧ DataW.trod enc P W 0 sp true n e c = some (D i, Pl i)) (n := len) (fun i hi => hel i (by omega))
    obtain ⟨X, hX⟩ := choose_lt (α := α) (p := fun i y => R W (· < W.heap.size) (C i) y ∧ sz y ≤ Rows.uptoBulk (D i)) (n := len) (fun i hi => hR n (C i) (D i, Pl i) (hC i hi).2)
    have hlen : ∀ c ∈ (List.range len).map C, c.length = k := by
      intro c hc
      obtain ⟨i, hi, rfl⟩ := List.mem_map.1 hc
      have := World.cells?_some (hC i (List.mem_range.1 hi)).1
      rw [hk] at this
      exact this.2.1
    have hfl : ((List.range len).map C).flatten.length = len * k := by rw [flatten_len _ hlen]; simp
    refine ⟨_, (List.range len).map X, rfl, ⟨(List.range len).map C, by simp, ?_, ?_⟩, ?_⟩
    · intro j c x hc hx
      simp only [List.getElem?_map, Option.map_eq_some_iff] at hc hx
      obtain ⟨j1, e1, rfl⟩ := hc
      obtain ⟨j2, e2, rfl⟩ := hx
      have hj : j1 = j ∧ j < len := by
        obtain ⟨hlt, e⟩ := List.getElem?_eq_some_iff.1 e1
        rw [List.getElem_range] at e
        exact ⟨e.symm, by simpa using hlt⟩
      have hj2 : j2 = j := by rw [e1] at e2; cases e2; exact hj.1
      obtain ⟨rfl, hlt⟩ := hj
      subst hj2
      exact ⟨hlen _ (List.mem_map.2 ⟨j2, List.mem_range.2 hlt, rfl⟩), (hX j2 hlt).1⟩
    · rw [List.length_map, List.length_range]
      have hat : At W a ((List.range len).map C).flatten := by
        intro q u hu
        have hq : q < len * k := by rw [← hfl]; exact (List.getElem?_eq_some_iff.1 hu).1
        have hi : q / k < len := (Nat.div_lt_iff_lt_mul hpos).2 hq
        have hj : q % k < k := Nat.mod_lt _ hpos
        have e1 : q / k * k + q % k = q := by rw [Nat.mul_comm]; exact Nat.div_add_mod q k
        rw [← e1, flatten_get _ hlen (q / k) (q % k) (by simpa using hi) hj] at hu
        simp only [List.getElem?_map, List.getElem?_range hi, Option.map_some, Option.bind_some] at hu
        have hc := (World.cells?_some (hC (q / k) hi).1).2.2 (q % k) (by rw [hk]; exact hj)
        rw [hk, K.add_add, e1] at hc
        rw [hc]; exact hu
      refine ⟨hfl, some a, cap, rfl, hl, hm, (fun h => by cases h), fun hn => ⟨a, rfl, ?_, hat⟩⟩
      exact hat.lt (by rw [hfl]; exact Nat.mul_pos hn hpos)
    · have := bulk_range D (fun i => sz (X i)) (fun i hi => (hX i hi).2)
      rw [List.map_map]
      simp only [Rows.uptoBulk]
      exact Nat.le_trans (by simpa [Function.comp_def] using this) (by omega)

theorem flatten_bv : ∀ l : List UInt8, (l.map fun y => [bv y]).flatten = bvs l
  | [] => rfl
  | y :: ys => by rw [List.map_cons, List.flatten_cons, flatten_bv ys]; rfl

/-- Bytes that came in. -/
theorem read_bytes {t e : TypeId} {fuel : Nat} {cs : List Value} {x : DataW H × List MemPlace} (ht : P.underlying t = some (.slice e)) (hk : P.cellsOf e = 1) (he : P.underlying e = some (.int .u8))
    (h : DataW.trod enc P W 0 sp true fuel t cs = some x) : ∃ v xs, cs = [v] ∧ Bs W (· < W.heap.size) v xs ∧ xs.length ≤ Rows.uptoBulk x.1 := by
  obtain ⟨v, xs, rfl, ⟨css, h1, h2, h3⟩, h4⟩ := read_slice (α := UInt8) (fun _ _ c y => c = [bv y]) (fun _ => 1) ht hk (by decide) (fun n c y hy => by
    obtain ⟨m, rfl, rfl, hw⟩ := DataW.trod_int he hy
    have hb : 0 ≤ m ∧ m ≤ 255 := by simpa [Lit.wf, IntKind.min, IntKind.max, IntKind.signed, IntKind.bits] using hw
    refine ⟨UInt8.ofNat m.toNat, ?_, by simp [Rows.uptoBulk]⟩
    simp only [bv, List.cons.injEq, Value.int.injEq, true_and, and_true]
    simp; omega) h
  refine ⟨v, xs, rfl, ?_, by rw [List.map_const'] at h4; simpa using h4⟩
  have e : css.flatten = bvs xs := by
    have hc : css = xs.map fun y => [bv y] := by
      apply List.ext_getElem?
      intro j
      rw [List.getElem?_map]
      cases hj : css[j]? with
      | none => rw [List.getElem?_eq_none_iff] at hj; rw [List.getElem?_eq_none (by omega)]; rfl
      | some c =>
        have hlt := (List.getElem?_eq_some_iff.1 hj).1
        have hx := List.getElem?_eq_getElem (l := xs) (i := j) (by omega)
        rw [hx, (h2 j c _ hj hx).2]; rfl
    rw [hc]
    exact flatten_bv xs
  rw [e] at h3
  exact h3

theorem read_int {t : TypeId} {k : IntKind} {fuel : Nat} {cs : List Value} {x : DataW H × List MemPlace} (ht : P.underlying t = some (.int k)) (h : DataW.trod enc P W 0 sp true fuel t cs = some x) :
    ∃ n, cs = [.int k n] ∧ k.min ≤ n ∧ n ≤ k.max := by
  obtain ⟨n, rfl, _, hw⟩ := DataW.trod_int ht h
  exact ⟨n, rfl, by simpa [Lit.wf] using hw⟩

theorem arg_bytes {t e base : Nat} {v : Value} {d : DataW H} {ps : List MemPlace} (ht : P.underlying t = some (.slice e)) (hk : P.cellsOf e = 1) (he : P.underlying e = some (.int .u8))
    (hv : Value.okWide P W .any base t v) (h : DataW.Trod enc P W 0 sp true t v d ps) : ∃ xs, Bs W (· < W.heap.size) v xs ∧ xs.length ≤ Rows.uptoBulk d := by
  obtain ⟨a, l, c, rfl⟩ := okWide_slice ht hv
  obtain ⟨fuel, hf⟩ := h
  obtain ⟨v, xs, e1, h1, h2⟩ := read_bytes ht hk he hf
  cases e1
  exact ⟨xs, h1, h2⟩

theorem arg_slice {α : Type} [Inhabited α] {t e k base : Nat} {v : Value} {d : DataW H} {ps : List MemPlace} (R : World → (Nat → Prop) → List Value → α → Prop) (sz : α → Nat)
    (ht : P.underlying t = some (.slice e)) (hk : P.cellsOf e = k) (hpos : 0 < k)
    (hR : ∀ n cs y, DataW.trod enc P W 0 sp true n e cs = some y → ∃ a : α, R W (· < W.heap.size) cs a ∧ sz a ≤ Rows.uptoBulk y.1)
    (hv : Value.okWide P W .any base t v) (h : DataW.Trod enc P W 0 sp true t v d ps) : ∃ xs, SlR W (· < W.heap.size) k R v xs ∧ (xs.map sz).sum ≤ Rows.uptoBulk d := by
  obtain ⟨a, l, c, rfl⟩ := okWide_slice ht hv
  obtain ⟨fuel, hf⟩ := h
  obtain ⟨v, xs, e1, h1, h2⟩ := read_slice R sz ht hk hpos hR hf
  cases e1
  exact ⟨xs, h1, h2⟩

theorem arg_int {t base : Nat} {k : IntKind} {v : Value} {d : DataW H} {ps : List MemPlace} (ht : P.underlying t = some (.int k)) (hv : Value.okWide P W .any base t v) (h : DataW.Trod enc P W 0 sp true t v d ps) :
    ∃ n, v = .int k n ∧ k.min ≤ n ∧ n ≤ k.max := by
  obtain ⟨m, rfl⟩ := okWide_int ht hv
  obtain ⟨fuel, hf⟩ := h
  obtain ⟨n, e1, h1⟩ := read_int ht hf
  cases e1
  exact ⟨m, rfl, h1⟩

end
end Go.Proofs.Ytjgobljclodpfaa.R

namespace Go.Proofs.Ytjgobljclodpfaa
theorem own : ownKnob Try.prog.godebug = none := by kernel_rfl
theorem Try.laidOut : laidOutB Try.prog = true := by kernel_rfl
end Go.Proofs.Ytjgobljclodpfaa
