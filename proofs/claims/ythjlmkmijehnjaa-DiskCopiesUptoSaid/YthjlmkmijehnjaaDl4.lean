/- Layer 2's laws: what an op does, whatever its kind; some ops of a row; none. No condition beyond sizes. -/
import Derived.Test.YthjlmkmijehnjaaDl3
namespace Go.Proofs.Ythjlmkmijehnjaa
open Go.RowKit Go.Shelf K L
set_option linter.unusedVariables false
set_option linter.unusedSimpArgs false

theorem does_none (e : DE) (w : World) (F : Nat → Prop) (hko : e.1.okk) (hv : Sl w F 1 e.2 e.1.keep.length (e.1.keep.map Value.bool)) :
    Calls Try.prog 18 #[.pointer none, e.agg] w fun r w' => r = .returned (.tuple #[.agg (bvs zblk).toArray, .int .i64 1]) ∧ Below w.heap.size w w' := by
  rcases opk_cases e.1.kind with h | h | h | h | h | h
  · exact does_nil_0 e w F h hko hv
  · exact does_nil_1 e w F h hko hv
  · exact does_nil_2 e w F h hko hv
  · exact does_nil_3 e w F h hko hv
  · exact does_nil_4 e w F h hko hv
  · exact does_nil_5 e w F h hko hv
theorem does_any {w : World} {S : Nat → Prop} {b : Nat} {d : PD} (hd : IsD w S b d) (hn : d.ops < 1073741823) (e : DE) (F : Nat → Prop) (hko : e.1.okk) (hv : Sl w F 1 e.2 e.1.keep.length (e.1.keep.map Value.bool)) :
    Calls Try.prog 18 #[.pointer (some ⟨b, 0, none⟩), e.agg] w (DPost w S b (d.does e.1)) := by
  rcases opk_cases e.1.kind with h | h | h | h | h | h
  · exact does_0 hd hn e F h hko hv
  · exact does_1 hd hn e F h hko hv
  · exact does_2 hd hn e F h hko hv
  · exact does_3 hd hn e F h hko hv
  · exact does_4 hd hn e F h hko hv
  · exact does_5 hd hn e F h hko hv

/-- Ops in memory. -/
structure Ds (w : World) (F : Nat → Prop) (v : Value) (es : List DE) : Prop where
  row : Sl w F 4 v es.length (es.flatMap DE.cells)
  inn : ∀ e ∈ es, Sl w F 1 e.2 e.1.keep.length (e.1.keep.map Value.bool) ∧ e.1.okk
theorem Ds.below {w w' : World} {F : Nat → Prop} {v : Value} {es : List DE} (h : Ds w F v es) (hb : Below w.heap.size w w') : Ds w' F v es := ⟨Sl.below h.row (by decide) hb, fun e he => ⟨Sl.below (h.inn e he).1 (by decide) hb, (h.inn e he).2⟩⟩
theorem Ds.upd {S F : Nat → Prop} {w w' : World} {v : Value} {es : List DE} (h : Ds w F v es) (hu : Upd S w w') (hF : ∀ b, F b → ¬ S b) : Ds w' F v es := ⟨hu.sl h.row (by decide) hF, fun e he => ⟨hu.sl (h.inn e he).1 (by decide) hF, (h.inn e he).2⟩⟩
theorem Ds.take {w : World} {F : Nat → Prop} {A : Option Addr} {n c : Nat} {es : List DE} (h : Ds w F (.slice A n c) es) (m : Nat) (hm : m ≤ es.length) : Ds w F (.slice A m c) (es.take m) := by
  have hn : n = es.length := by obtain ⟨⟨_, A', c', e, _⟩, _⟩ := h; cases e; rfl
  subst hn
  obtain ⟨⟨hl, A', c', e, h1, h2, h3, h4⟩, hin⟩ := h
  cases e
  refine ⟨⟨?_, A, c, by rw [List.length_take, Nat.min_eq_left hm], by rw [List.length_take]; omega, h2, h3, fun hp => ?_⟩, fun e he => hin e (List.mem_of_mem_take he)⟩
  · rw [← fm_take (f := DE.cells) (k := 4) (fun _ => rfl), List.length_take, hl, List.length_take, Nat.min_eq_left hm, Nat.min_eq_left (by omega)]
  · rw [List.length_take] at hp
    obtain ⟨ad, e, hf, hat⟩ := h4 (by omega)
    refine ⟨ad, e, hf, fun j u hu => hat j u ?_⟩
    rw [← fm_take (f := DE.cells) (k := 4) (fun _ => rfl), List.getElem?_take] at hu
    split at hu
    · exact hu
    · cases hu

set_option maxHeartbeats 1000000 in
theorem few_any (v : Value) (es : List DE) (w : World) (F : Nat → Prop) (h : Ds w F v es) : Calls Try.prog 12 #[v] w fun e w' => ∃ v', e = .returned v' ∧ Ds w F v' (es.take 120) ∧ w = w' := by
  have H := Lib.hid h
  obtain ⟨⟨hl, A, c, rfl, h1, h2, h3, -⟩, -⟩ := h
  unfold maxLen at h2
  by_cases hm : es.length ≤ 120
  · have HT := Lib.hid (show Ds w F (.slice A es.length c) (es.take 120) by rw [List.take_of_length_le hm]; exact H.out)
    cases A with
    | none =>
      obtain rfl : c = 0 := h3 rfl
      have hz : es.length = 0 := by omega
      rw [hz] at HT ⊢
      clear hl hm h1 hz
      go_enter Try.func12, Try.ntmps12
      go_wp2
      go_ret
      exact ⟨_, rfl, HT.out, rfl⟩
    | some ad =>
      have hml : min (es.length : Int) 120 = es.length := by omega
      clear hl
      go_enter Try.func12, Try.ntmps12
      go_wp2
      go_ret
      exact ⟨_, rfl, HT.out, rfl⟩
  · have HT := Lib.hid (Ds.take H.out 120 (by omega))
    obtain ⟨ad, rfl⟩ : ∃ ad, A = some ad := by
      cases A with
      | some ad => exact ⟨ad, rfl⟩
      | none => have := h3 rfl; omega
    have hml : min (es.length : Int) 120 = 120 := by omega
    have hle : 120 < es.length := by omega
    have hlc : 120 ≤ c := by omega
    clear hl hm
    go_enter Try.func12, Try.ntmps12
    go_wp2
    go_ret
    exact ⟨_, rfl, HT.out, rfl⟩

end Go.Proofs.Ythjlmkmijehnjaa
