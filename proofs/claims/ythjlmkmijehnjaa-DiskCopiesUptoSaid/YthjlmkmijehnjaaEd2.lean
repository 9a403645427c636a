/- A drawn region, its last operations in each of their orders. No condition. -/
import Derived.Test.YthjlmkmijehnjaaEd
import Derived.Test.YthjlmkmijehnjaaG5
namespace Go.Proofs.Ythjlmkmijehnjaa.E
open Go Go.RowKit K
set_option linter.unusedVariables false
set_option linter.unusedSimpArgs false

structure WA (P : Program) (n : Nat) (D : List Deferred) (ops : Array Oper) (fuel : Nat) (listed : Array Bool) (L : Slots) (w : World) (Q : Exit → Act → World → Prop) : Prop where
  go : ∀ a, Fr n D L a → wpAny P .any ops Q fuel listed a w
structure KontA (K : Act → World → Prop) (P : Program) (n : Nat) (D : List Deferred) (ops : Array Oper) (fuel : Nat) (listed : Array Bool) (Q : Exit → Act → World → Prop) : Prop where
  go : ∀ L w, WA P n D ops fuel listed L w Q → ∀ a, Fr n D L a → K a w

section
variable {P : Program} {n : Nat} {D : List Deferred} {L : Slots} {w : World} {Q : Exit → Act → World → Prop} {ops : Array Oper} {fuel : Nat} {listed : Array Bool}
theorem WA.done (hr : Region.ready .any ops listed = []) (h : Ends n D .normal L w Q) : WA P n D ops 0 listed L w Q := ⟨fun a ha => ⟨hr, h.go a ha⟩⟩
theorem Ends.any {K : Act → World → Prop} (hK : KontA K P n D ops fuel listed Q) (h : WA P n D ops fuel listed L w Q) : Ends n D .normal L w (Exit.then K Q) := ⟨fun a ha => hK.go L w h a ha⟩
def EachA (P : Program) (n : Nat) (D : List Deferred) (ops : Array Oper) (fuel : Nat) (listed : Array Bool) (L : Slots) (w : World) (Q : Exit → Act → World → Prop) : List Nat → Prop
  | [] => True
  | i :: r => (match ops[i]? with | none => False | some o => ∀ K : Act → World → Prop, KontA K P n D ops fuel (listed.setIfInBounds i true) Q → WR P n D ops [o] L w (Exit.then K Q)) ∧ EachA P n D ops fuel listed L w Q r
theorem eachA_get : ∀ {is : List Nat}, EachA P n D ops fuel listed L w Q is → ∀ i ∈ is, ∃ o, ops[i]? = some o ∧ ∀ K : Act → World → Prop, KontA K P n D ops fuel (listed.setIfInBounds i true) Q → WR P n D ops [o] L w (Exit.then K Q)
  | [], _, i, hi => by cases hi
  | j :: r, ⟨h1, h2⟩, i, hi => by
    rcases List.mem_cons.1 hi with rfl | hi
    · cases ho : ops[i]? with
      | none => rw [ho] at h1; exact h1.elim
      | some o => rw [ho] at h1; exact ⟨o, rfl, h1⟩
    · exact eachA_get h2 i hi
theorem WA.step (is : List Nat) (hr : Region.ready .any ops listed = is) (hne : is.isEmpty = false) (h : EachA P n D ops fuel listed L w Q is) : WA P n D ops (fuel + 1) listed L w Q := by
  refine ⟨fun a ha => ⟨fun h0 => ?_, fun i hi => ?_⟩⟩
  · rw [hr] at h0; subst h0; cases hne
  · rw [hr] at hi
    obtain ⟨o, ho, h⟩ := eachA_get h i hi
    have hw := (h (wpAny P .any ops Q fuel (listed.setIfInBounds i true)) ⟨fun L w hw a ha => hw.go a ha⟩).go a ha
    unfold wpOp
    rw [ho]
    unfold wpList at hw
    dsimp only
    split
    · rename_i hwant
      rw [if_pos hwant] at hw
      rcases hw with hw | ⟨hw, a', w', hl⟩
      · exact .inl (swap (fun a w hh => hh) hw)
      · exact .inr ⟨hw, a', w', hl⟩
    · rename_i hwant
      rw [if_neg hwant] at hw
      exact hw
/-- A region that draws its order: the first k operations by predicates, the others behind them, in each order that may be. -/
theorem W.drawsAny {id : Nat} {l : List Oper} (k : Nat) (js : List (List Nat)) (Rs : List (World → Value → Prop)) (hm : P.follows .mixedOrders = true) (hok : G.okB (l.take k) 0 [] n = true) (hfree : freeB L (l.take k) = true) (hw : waitsB (l.take k) js = true) (hB : G.splitH l k = true)
    (hR : AllStab Rs) (step : Steps P n D (l.take k) Rs w L 0 (l.take k) js)
    (fin : ∀ w', Below w.heap.size w w' → Need Rs (l.take k) w' (fun L' => WA P n D l.toArray (l.length - k) (Array.replicate k true ++ Array.replicate (l.length - k) false) L' w' Q) (List.range (l.take k).length) L) : W P n D (.region id l.toArray true) L w Q :=
  ⟨fun a ha => G.region_split2 k hm hB (any_core (Q := G.tailA P l k Q) js Rs hok hfree hw (allStab_get hR) step (fun w' hb => need_mono (fin w' hb) (fun L' h => ⟨h.go⟩)) a ha)⟩
theorem WA.id (h : WA P n D ops fuel listed L w Q) : WA P n D ops fuel listed L w Q := h
end

end Go.Proofs.Ythjlmkmijehnjaa.E
