/- Layer 27: facts in memory; predicates handed over as function values. No condition beyond sizes. -/
import Derived.Test.YtfdijgdojejimaaBy
import Derived.Test.YtfdijgdojejimaaIdL
namespace Go.Proofs.Ytfdijgdojejimaa
open Go.RowKit K L
set_option linter.unusedVariables false
set_option linter.unusedSimpArgs false

/-- A fact with the slice value of its bytes. -/
abbrev FE := Fact × Value
def FE.cells (e : FE) : List Value := e.1.cells e.2
theorem FE.len (e : FE) : e.cells.length = 7 := rfl
def FE.agg (e : FE) : Value := .agg e.cells.toArray

/-- Slice value v: the facts es, whose bytes lie in w. -/
def Fs (w : World) (F : Nat → Prop) (v : Value) (es : List FE) : Prop :=
  Sl w F 7 v es.length (es.flatMap FE.cells) ∧ ∀ e ∈ es, Bs w (· < w.heap.size) e.2 e.1.bytes

theorem bs_lift {w w' : World} {v : Value} {xs : List UInt8} (h : Bs w (· < w.heap.size) v xs) (hb : Below w.heap.size w w') : Bs w' (· < w'.heap.size) v xs :=
  (h.below hb).imp fun _ hl _ => hl
theorem Fs.below {w w' : World} {F : Nat → Prop} {v : Value} {es : List FE} (h : Fs w F v es) (hb : Below w.heap.size w w') : Fs w' F v es :=
  ⟨Sl.below h.1 (by decide) hb, fun e he => bs_lift (h.2 e he) hb⟩

theorem flatMap_get : ∀ (es : List FE) (i j : Nat), i < es.length → j < 7 → (es.flatMap FE.cells)[i * 7 + j]? = (es[i]?).bind (·.cells[j]?)
  | [], i, j, hi, _ => by simp at hi
  | e :: es, i, j, hi, hj => by
    rw [List.flatMap_cons]
    cases i with
    | zero => rw [List.getElem?_append_left (by rw [FE.len]; omega)]; simp
    | succ i =>
      rw [List.getElem?_append_right (by rw [FE.len, Nat.succ_mul]; omega), FE.len, show (i + 1) * 7 + j - 7 = i * 7 + j from by omega, flatMap_get es i j (by simpa using hi) hj]
      simp

/-- The seven cells of the i-th. -/
theorem row_at {w : World} {F : Nat → Prop} {A : Option Addr} {n c : Nat} {es : List FE} (h : Sl w F 7 (.slice A n c) es.length (es.flatMap FE.cells)) (i : Nat) (hi : i < es.length) :
    ∃ b o, A = some ⟨b, o, none⟩ ∧ F b ∧ b < w.heap.size ∧ w.cell? ⟨b, o + i * 7, none⟩ = some (.int .i64 es[i].1.kind) ∧ w.cell? ⟨b, o + i * 7 + 1, none⟩ = some (.int .i64 es[i].1.node) ∧ w.cell? ⟨b, o + i * 7 + 2, none⟩ = some (.int .i64 es[i].1.frm) ∧
      w.cell? ⟨b, o + i * 7 + 3, none⟩ = some (.int .u32 (es[i].1.number : Nat)) ∧ w.cell? ⟨b, o + i * 7 + 4, none⟩ = some (.string ⟨es[i].1.name.toArray⟩) ∧ w.cell? ⟨b, o + i * 7 + 5, none⟩ = some (.int .i64 es[i].1.code) ∧ w.cell? ⟨b, o + i * 7 + 6, none⟩ = some es[i].2 := by
  have hn : n = es.length := by
    obtain ⟨_, A', c', e, _⟩ := h
    cases e; rfl
  subst hn
  obtain ⟨b, o, hA, hF, hb, hc⟩ := Sl.cells h (by omega) (by decide)
  have key : ∀ j v, es[i].cells[j]? = some v → w.cell? ⟨b, o + i * 7 + j, none⟩ = some v := fun j v hv => by
    have hj : j < 7 := by have := (List.getElem?_eq_some_iff.1 hv).1; rwa [FE.len] at this
    have := hc (i * 7 + j) v (by rw [flatMap_get es i j hi hj, List.getElem?_eq_getElem hi]; exact hv)
    rwa [← Nat.add_assoc] at this
  exact ⟨b, o, hA, hF, hb, key 0 _ rfl, key 1 _ rfl, key 2 _ rfl, key 3 _ rfl, key 4 _ rfl, key 5 _ rfl, key 6 _ rfl⟩

/-- Function value g with what it has captured: it tells p of each fact whose bytes lie in w0, and turns nothing. -/
def Holds (g : Nat) (lb : Array Value) (p : Fact → Bool) (w0 : World) : Prop :=
  (∀ args w, (callFunc g args).run Try.prog w = .ok (.enter g args) w) ∧
  ∀ (W : World) (e : FE), Below w0.heap.size w0 W → Bs w0 (· < w0.heap.size) e.2 e.1.bytes →
    Calls Try.prog g (#[e.agg] ++ lb) W fun r w' => r = .returned (.bool (p e.1)) ∧ Below W.heap.size W w'

theorem Holds.at {g : Nat} {lb : Array Value} {p : Fact → Bool} {w0 w1 : World} (h : Holds g lb p w0) (hb : Below w0.heap.size w0 w1) {W : World} {e : FE} (hW : Below w1.heap.size w1 W) (hx : Bs w0 (· < w0.heap.size) e.2 e.1.bytes) :
    Calls Try.prog g (#[e.agg] ++ lb) W fun r w' => r = .returned (.bool (p e.1)) ∧ Below W.heap.size W w' := h.2 W e (hb.trans (hW.mono hb.size)) hx

/-- A call of a function value as a step. -/
theorem upon_fn {P : Program} {g : Nat} {args : Array Value} {w : World} {o : Oper} {a : Act} {next : Act → World → Prop} {Q : Exit → Act → World → Prop} {v : Value}
    (eg : ∀ args w, (callFunc g args).run P w = .ok (.enter g args) w) (h : Calls P g args w fun r w' => r = .returned v ∧ Below w.heap.size w w') (k : ∀ w', Below w.heap.size w w' → next (a.put o.dst v) w') :
    o.upon P a next Q ((callFunc g args).run P w) := by
  rw [eg, Oper.upon_enter]
  refine h.mono ?_
  rintro e w' ⟨rfl, hb⟩
  exact k w' hb

set_option maxHeartbeats 400000 in
theorem fits_any (n m : Nat) (w : World) : Calls Try.prog 32 #[.int .u32 (n : Nat), .int .u32 (m : Nat)] w fun e w' => e = .returned (.bool (decide (m = 0) || decide (m = n))) ∧ w = w' := by
  go_enter Try.func32, Try.ntmps32
  by_cases h0 : m = 0
  · subst h0
    go_wp2
    go_ret
    exact ⟨ret_bool (by simp), rfl⟩
  · have hd : ((m : Int) == 0) = false := by simp; omega
    go_wp2
    go_ret
    exact ⟨ret_bool (by rw [Bool.eq_iff_iff]; simp; omega), rfl⟩

set_option maxHeartbeats 2000000 in
theorem indexF (g : Nat) (lb : Array Value) (p : Fact → Bool) (w0 : World) (hp : Holds g lb p w0) (v : Value) (es : List FE) (w : World) (F : Nat → Prop) (hs : Sl w F 7 v es.length (es.flatMap FE.cells)) (hB : Below w0.heap.size w0 w)
    (hx : ∀ e ∈ es, Bs w0 (· < w0.heap.size) e.2 e.1.bytes) :
    Calls Try.prog 51 #[v, .func (.func g) #[] lb] w fun e w' => (∃ i : Int, e = .returned (.int .i64 i) ∧ (0 ≤ i ↔ (es.any fun e => p e.1) = true)) ∧ Below w.heap.size w w' := by
  have hs' := hs
  have EG := Lib.hid hp.1
  obtain ⟨hl, A, c, rfl, h1, h2, -, -⟩ := hs
  unfold maxLen at h2
  go_enter Try.func51, Try.ntmps51
  go_wp2
  go_loopw [5, 8] (fun _ i wr => ∃ k : Nat, k ≤ es.length ∧ i = .int .i64 k ∧ Below w.heap.size w wr ∧ Hid ((es.take k).any (fun e => p e.1) = false)) (fun _ i _ => es.length - (intOf i).toNat)
  case atStart => exact ⟨0, Nat.zero_le _, rfl, Below.refl _ _, Lib.hid (by simp)⟩
  case round =>
    obtain ⟨k, hk, rfl, hb, HP⟩ := hrel
    by_cases hlt : k < es.length
    · obtain ⟨b, o, rfl, -, -, c0, c1, c2, c3, c4, c5, c6⟩ := row_at (Sl.below hs' (by decide) hb) k hlt
      have hcall := hp.2 wr es[k] (hB.trans (hb.mono hB.size)) (hx _ (List.getElem_mem hlt))
      have hany : (es.take (k + 1)).any (fun e => p e.1) = ((es.take k).any (fun e => p e.1) || p es[k].1) := by rw [take_snoc es k hlt, List.any_append]; simp only [List.any_cons, List.any_nil, Bool.or_false]
      have hall : p es[k].1 = true → es.any (fun e => p e.1) = true := fun h => List.any_eq_true.2 ⟨_, List.getElem_mem hlt, h⟩
      generalize es[k] = y at *
      have HANY := Lib.hid hany
      have HALL := Lib.hid hall
      clear hany hall
      obtain ⟨x, vb⟩ := y
      dsimp only [FE.agg, FE.cells, Fact.cells] at hcall
      cases hq : p x with
      | true =>
        rw [hq] at hcall
        have HC := Lib.hid hcall
        clear hcall hp
        go_wp2_with fail
        refine upon_fn EG.out HC.out ?_
        intro w' hb'
        go_wp2
        go_ret
        exact ⟨⟨_, rfl, by rw [HALL.out hq]; simp⟩, below_tr hb hb'⟩
      | false =>
        rw [hq] at hcall
        have HC := Lib.hid hcall
        clear hcall hp
        go_wp2_with fail
        refine upon_fn EG.out HC.out ?_
        intro w' hb'
        go_wp2
        refine ⟨⟨k + 1, by omega, by go_num, below_tr hb hb', Lib.hid ?_⟩, by simp only [intOf]; omega⟩
        rw [HANY.out, HP.out, hq]; rfl
    · obtain rfl : k = es.length := by omega
      go_wp2
      go_ret
      refine ⟨⟨_, rfl, ?_⟩, hb⟩
      have := HP.out
      rw [List.take_length] at this
      rw [this]; simp

end Go.Proofs.Ytfdijgdojejimaa
