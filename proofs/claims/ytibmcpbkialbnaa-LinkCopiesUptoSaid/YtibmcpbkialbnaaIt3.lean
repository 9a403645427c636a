/- A range over a function: regions in its body that draw their order; a loop whose rounds hold such ranges; what is fresh. No condition. -/
import Derived.OrdersIn
import Derived.Test.YtibmcpbkialbnaaIt2
import Derived.Test.YtibmcpbkialbnaaEd4
namespace Go.Proofs.Ytibmcpbkialbnaa.E
open Go Go.RowKit K
set_option linter.unusedVariables false
set_option linter.unusedSimpArgs false

section
variable {P : Program} {n : Nat} {D : List Deferred} {L : Slots} {w : World} {Q : Exit → Act → World → Prop}
/-- A region that draws its order, by what it may come to. -/
structure WX (P : Program) (n : Nat) (D : List Deferred) (l : List Oper) (L : Slots) (w : World) (Q : Exit → Act → World → Prop) : Prop where
  go : ∀ a, Fr n D L a → wpAny P .any l.toArray Q l.toArray.size (Array.replicate l.toArray.size false) a w.drew
theorem WX.draws {l : List Oper} (js : List (List Nat)) (Rs : List (World → Value → Prop)) (hok : G.okB l 0 [] n = true) (hfree : freeB L l = true) (hw : waitsB l js = true)
    (hR : AllStab Rs) (step : Steps P n D l Rs w L 0 l js)
    (fin : ∀ w', Below w.heap.size w w' → Need Rs l w' (fun L' => Ends n D .normal L' w' Q) (List.range l.length) L) : WX P n D l L w Q :=
  ⟨any_core js Rs hok hfree hw (allStab_get hR) step fin⟩
theorem split_end {l : List Oper} {a : Act} (k : Nat) (hB : G.splitB l k = true)
    (h : wpAny P .any (l.take k).toArray (G.tailQ P l k Q) (l.take k).toArray.size (Array.replicate (l.take k).toArray.size false) a w.drew) : wpAny P .any l.toArray Q l.toArray.size (Array.replicate l.toArray.size false) a w.drew := by
  have hk : k ≤ l.length := by
    have := hB
    simp only [G.splitB, Bool.and_eq_true, decide_eq_true_eq] at this
    exact this.1.1.1
  have hsz : (l.take k).toArray.size = k := by simp; omega
  rw [hsz] at h
  have := G.split_any hB k _ a w.drew (by simp) (fun i o _ hi => by
    have := hi.2
    simp [Array.getD] at this) (by
    rw [List.filter_eq_self.2 (fun i hi => by have := List.mem_range.1 hi; simp [Array.getD, this])]
    simp) h
  rw [show k + (l.length - k) = l.toArray.size from by simp; omega] at this
  have e : (Array.replicate k false ++ Array.replicate (l.length - k) false) = Array.replicate l.toArray.size false := by
    apply Array.ext (by simp; omega)
    intro i h1 h2
    simp [Array.getElem_append]
  rw [e] at this
  exact this
theorem WX.drawsTo {l : List Oper} (k : Nat) (js : List (List Nat)) (Rs : List (World → Value → Prop)) (hok : G.okB (l.take k) 0 [] n = true) (hfree : freeB L (l.take k) = true) (hw : waitsB (l.take k) js = true) (hB : G.splitB l k = true)
    (hR : AllStab Rs) (step : Steps P n D (l.take k) Rs w L 0 (l.take k) js)
    (fin : ∀ w', Below w.heap.size w w' → Need Rs (l.take k) w' (fun L' => WR P n D l.toArray (l.drop k) L' w' Q) (List.range (l.take k).length) L) : WX P n D l L w Q :=
  ⟨fun a ha => split_end k hB (any_core (Q := G.tailQ P l k Q) js Rs hok hfree hw (allStab_get hR) step (fun w' hb => need_mono (fin w' hb) (fun L' h => ⟨h.go⟩)) a ha)⟩

def noDefer (o : Oper) : Bool := match o.op with | .defer _ => false | _ => true
theorem upon_in {ρ : Option Nat} {M0 : Nat} {o : Oper} {a : Act} {K K' : Act → World → Prop} (hk : ∀ a w, K a w → K' a w) {r : Result Next} (h : o.upon P a K Q r) : o.uponIn (FW ρ) M0 P a K' Q r := by
  cases r with
  | ok nx w' =>
    cases nx <;> simp only [Oper.upon] at h <;> unfold Oper.uponIn
    all_goals first
      | exact hk _ _ h
      | exact h.elim
      | exact ⟨fw_depth, (callsIn_fw h).mono fun e w'' he => by cases e <;> first | exact hk _ _ he | exact he⟩
      | exact ⟨fw_depth, fun c cs _ => let ⟨v, w', r, s⟩ := h c cs; ⟨v, w', hk _ _ r, stepsIn_wide.2 s⟩⟩
  | halt x w' => cases x <;> simp only [Oper.upon] at h <;> unfold Oper.uponIn <;> first | exact h | exact h.elim
theorem anyIn_of_any {ρ : Option Nat} {M0 : Nat} {md : Region.Mode} {ops : Array Oper} (hq : ¬ LetsOut Q) (hops : ∀ (i : Nat) (o : Oper), ops[i]? = some o → noDefer o = true) : ∀ (fuel : Nat) (listed : Array Bool) (a : Act) (w : World), wpAny P md ops Q fuel listed a w → wpAnyIn (FW ρ) M0 P md ops Q fuel listed a w
  | 0, listed, a, w, h => h
  | fuel + 1, listed, a, w, h => by
    refine ⟨h.1, fun i hi => ?_⟩
    have h := h.2 i hi
    unfold wpOp at h
    unfold wpOpIn
    cases ho : ops[i]? with
    | none => rw [ho] at h; exact anyIn_of_any hq hops fuel _ a w h
    | some o =>
      rw [ho] at h
      dsimp only at h ⊢
      split
      · rename_i hw
        rw [if_pos hw] at h
        rcases h with h | ⟨_, h⟩
        · refine ⟨fun _ _ => trivial, ?_⟩
          rw [Oper.semAt_eq _ _ _ (fun c hc => by have := hops i o ho; unfold noDefer at this; rw [hc] at this; cases this)]
          exact upon_in (fun a w => anyIn_of_any hq hops fuel _ a w) h
        · exact absurd h hq
      · rename_i hw
        rw [if_neg hw] at h
        exact ⟨fun _ _ => trivial, anyIn_of_any hq hops fuel _ _ w h⟩
theorem WI.any {ρ : Option Nat} {M0 : Nat} {id : Nat} {l : List Oper} (hm : P.follows .mixedOrders = true) (hq : ∀ a w, ¬ Q .outgrown a w) (hops : l.all noDefer = true) (h : WX P n D l L w Q) : WI ρ M0 P n D (.region id l.toArray true) L w Q :=
  ⟨fun a ha => wpIn_region_any hm (anyIn_of_any (fun ⟨a, w, h⟩ => hq a w h) (fun i o ho => List.all_eq_true.1 hops o (List.mem_of_getElem? (by simpa using ho))) _ _ _ _ (h.go a ha))⟩

/-- A loop whose rounds leave more to be done at the function's end. -/
theorem W.loopD {X : Type} {body : Code} (DD : X → List Deferred) (LI : X → Slots) (J : X → World → Prop) (m : X → Nat) (x0 : X) (hD : DD x0 = D) (hk : Keeps L (LI x0)) (h0 : J x0 w)
    (round : ∀ x w, J x w → ∀ K : Act → World → Prop, (∀ x' L' w', Keeps L' (LI x') → J x' w' → m x' < m x → ∀ a, Fr n (DD x') L' a → K a w') → W P n (DD x) body (LI x) w (Exit.then K Q)) : W P n D (.loop body) L w Q := by
  subst hD
  refine ⟨fun a ha => ?_⟩
  classical
  let G : Nat → Act → World → Prop := fun k a w => ∃ x, Fr n (DD x) (LI x) a ∧ J x w ∧ m x = k
  let I : Act → World → Prop := fun a w => ∃ k, G k a w
  have least : ∀ a w, I a w → ∃ k, G k a w ∧ ∀ j, G j a w → k ≤ j := fun a w hI => by
    obtain ⟨k, hk⟩ := hI
    induction k using Nat.strongRecOn with
    | _ k ih =>
      by_cases h : ∃ j, j < k ∧ G j a w
      · obtain ⟨j, hj, hg⟩ := h; exact ih j hj hg
      · exact ⟨k, hk, fun j hj => Nat.le_of_not_lt fun hlt => h ⟨j, hlt, hj⟩⟩
  let mu : Act → World → Nat := fun a w => if h : I a w then Classical.choose (least a w h) else 0
  refine wp_loop I mu ⟨_, x0, ha.keep hk, h0, rfl⟩ fun a w hI => ?_
  have hmu : mu a w = Classical.choose (least a w hI) := dif_pos hI
  obtain ⟨x, hF, hJ, hm⟩ : G (mu a w) a w := by rw [hmu]; exact (Classical.choose_spec (least a w hI)).1
  refine (round x w hJ (fun a' w' => I a' w' ∧ mu a' w' < mu a w) ?_).go a hF
  intro x' L' w' hk' hJ' hlt a' ha'
  have hG : G (m x') a' w' := ⟨x', ha'.keep hk', hJ', rfl⟩
  have hI' : I a' w' := ⟨_, hG⟩
  refine ⟨hI', ?_⟩
  have : mu a' w' = Classical.choose (least a' w' hI') := dif_pos hI'
  rw [this, ← hm]
  exact Nat.lt_of_le_of_lt ((Classical.choose_spec (least a' w' hI')).2 _ hG) hlt
theorem Ends.roundD {X : Type} {DD : X → List Deferred} {LI : X → Slots} {J : X → World → Prop} {m : X → Nat} {k : Nat} {K : Act → World → Prop} (hK : ∀ x' L' w', Keeps L' (LI x') → J x' w' → m x' < k → ∀ a, Fr n (DD x') L' a → K a w') (x' : X) (hD : DD x' = D) (hk : Keeps L (LI x')) (hJ : J x' w) (hm : m x' < k) : Ends n D .normal L w (Exit.then K Q) :=
  ⟨fun a ha => hK x' L w hk hJ hm a (hD ▸ ha)⟩
end

section
variable {w w' u : World} {base : Nat} {Os Zs : List Ass}
/-- All that was made since base lies as at u. -/
def zFr (base : Nat) (u : World) : Ass := ⟨fun w F => (∀ b, F b ↔ base ≤ b ∧ b < u.heap.size) ∧ Stays F u w, fun {w F} h b hb => Nat.lt_of_lt_of_le ((h.1 b).1 hb).2 h.2.size,
  fun {w w' F} h hs => ⟨h.1, ⟨hs.os.trans h.2.os, hs.tape.trans h.2.tape, hs.output.trans h.2.output, Nat.le_trans h.2.size hs.size, fun b hb => (hs.block b hb).trans (h.2.block b hb)⟩⟩⟩
theorem Mem.fr0 (M : Mem w Os Zs) : Mem w Os (zFr w.heap.size w :: Zs) := by
  obtain ⟨G, h1, h2, h3⟩ := M
  refine ⟨G, h1, fun z hz => ?_, h3⟩
  rcases List.mem_cons.1 hz with rfl | hz
  · exact ⟨fun _ => False, ⟨fun b => ⟨fun h => h.elim, fun h => by omega⟩, ⟨rfl, rfl, rfl, Nat.le_refl _, fun _ _ => rfl⟩⟩, fun _ h => h.elim⟩
  · exact h2 z hz
theorem Mem.frB (M : Mem w Os (zFr base w :: Zs)) (hb : Below w.heap.size w w') : Mem w' Os (zFr base w' :: Zs) := by
  have M' := M.below hb
  obtain ⟨G, h1, h2, h3⟩ := M
  obtain ⟨F, hF, hs⟩ := h2 _ (List.mem_cons_self ..)
  refine ⟨fun b => G b ∨ (w.heap.size ≤ b ∧ b < w'.heap.size), fun b hb' => hb'.elim (fun h => Nat.lt_of_lt_of_le (h1 b h) hb.size) (·.2), fun z hz => ?_, (h3.fresh (Upd.of_below hb)).imp fun b hb' => hb'.elim .inl (fun h => .inr h.1)⟩
  rcases List.mem_cons.1 hz with rfl | hz
  · refine ⟨fun b => base ≤ b ∧ b < w'.heap.size, ⟨fun _ => Iff.rfl, ⟨rfl, rfl, rfl, Nat.le_refl _, fun _ _ => rfl⟩⟩, fun b hb' => ?_⟩
    rcases Nat.lt_or_ge b w.heap.size with h | h
    · exact .inl (hs b ((hF.1 b).2 ⟨hb'.1, h⟩))
    · exact .inr ⟨h, hb'.2⟩
  · obtain ⟨E, hE, hs⟩ := h2 z (List.mem_cons_of_mem _ hz)
    exact ⟨E, z.stab hE ((Stays.of_below hb).mono fun b hb => z.bnd hE b hb), fun b hb => .inl (hs b hb)⟩
theorem Mem.frU (M : Mem w' Os (zFr base w :: Zs)) : Upd (· < base) w w' := by
  obtain ⟨F, hF⟩ := M.z 0 rfl
  exact ⟨hF.2.os, hF.2.tape, hF.2.output, hF.2.size, fun b hb hn => hF.2.block b ((hF.1 b).2 ⟨by omega, hb⟩)⟩
end
end Go.Proofs.Ytibmcpbkialbnaa.E
