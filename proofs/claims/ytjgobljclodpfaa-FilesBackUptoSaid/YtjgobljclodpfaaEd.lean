/- A region that draws its order, with the frame out of sight: of each operation a predicate is said, and shown out of those that it waits for. No condition. -/
import Derived.Test.YtjgobljclodpfaaE
import Derived.Test.YtjgobljclodpfaaG4
namespace Go.Proofs.Ytjgobljclodpfaa.E
open Go Go.RowKit K
set_option linter.unusedVariables false
set_option linter.unusedSimpArgs false

/-- Nothing but the end is gone to. -/
def onlyK (K : Act → World → Prop) : Exit → Act → World → Prop
  | .normal, a, w => K a w
  | _, _, _ => False

section
variable {P : Program} {n : Nat} {D : List Deferred} {L : Slots} {w : World} {Q : Exit → Act → World → Prop}

theorem upon_put {o : Oper} {a : Act} {K : Act → World → Prop} {Q : Exit → Act → World → Prop} {r : Result Next} (hK : ∀ a' w', K a' w' → a'.defers = a.defers) (h : o.upon P a K (onlyK K) r) : o.upon P a (fun a' w' => ∃ v, a' = a.put o.dst v ∧ K a' w') Q r := by
  cases r with
  | ok nx w' =>
    cases nx <;> simp only [Oper.upon] at h ⊢ <;>
      first
        | exact ⟨_, rfl, h⟩
        | (exfalso; have := congrArg List.length (hK _ _ h); cases hd : o.dst <;> simp [Act.put, hd] at this)
        | exact Calls.mono h (fun e w'' he => by
            cases e <;> first | exact ⟨_, rfl, he⟩ | exact he.elim | (obtain ⟨a, w, hq⟩ := he; exact hq.elim))
        | exact Rows.mono h (fun _ _ he => ⟨_, rfl, he⟩)
        | exact h
  | halt x w' => cases x <;> simp only [Oper.upon] at h ⊢ <;> first | exact h.elim | exact h

/-- Operation j's slot. -/
def dstOf (l : List Oper) (j : Nat) : Option Tmp := (l[j]?).bind (·.dst)
/-- Whatever stands in the slots of these. -/
def Need (Rs : List (World → Value → Prop)) (l : List Oper) (w : World) (G : Slots → Prop) : List Nat → Slots → Prop
  | [], L => G L
  | j :: js, L => match dstOf l j with
    | none => Need Rs l w G js L
    | some t => ∀ v, (Rs.getD j (fun _ _ => True)) w v → Need Rs l w G js ((t, v) :: L)

/-- What an operation is asked for. -/
structure One (K : Act → World → Prop) (n : Nat) (D : List Deferred) (w : World) (dst : Option Tmp) (R : World → Value → Prop) : Prop where
  go : ∀ L' w' v, (match dst with | none => True | some d => look L' d = some v) → (dst ≠ none → R w' v) → Below w.heap.size w w' → ∀ a, Fr n D L' a → K a w'
theorem Ends.one {K : Act → World → Prop} {w0 : World} {d : Nat} {R : World → Value → Prop} {v : Value} (hK : One K n D w0 (some d) R) (hv : look L d = some v) (hr : R w v) (hb : Below w0.heap.size w0 w) : Ends n D .normal L w (onlyK K) :=
  ⟨fun a ha => hK.go L w v hv (fun _ => hr) hb a ha⟩
theorem Ends.one0 {K : Act → World → Prop} {w0 : World} {R : World → Value → Prop} (hK : One K n D w0 none R) (hb : Below w0.heap.size w0 w) : Ends n D .normal L w (onlyK K) :=
  ⟨fun a ha => hK.go L w undef trivial (fun h => absurd rfl h) hb a ha⟩

def Steps (P : Program) (n : Nat) (D : List Deferred) (l : List Oper) (Rs : List (World → Value → Prop)) (w0 : World) (L : Slots) : Nat → List Oper → List (List Nat) → Prop
  | _, [], _ => True
  | _, _ :: _, [] => False
  | k, o :: r, j :: js => (∀ w, Below w0.heap.size w0 w → ∀ K, One K n D w o.dst (Rs.getD k (fun _ _ => True)) → Need Rs l w (fun L' => WR P n D l.toArray [o] L' w (onlyK K)) j L) ∧ Steps P n D l Rs w0 L (k + 1) r js

/-- Each operation waits for those that it is shown from. -/
def waitsB : List Oper → List (List Nat) → Bool
  | [], _ => true
  | _ :: _, [] => false
  | o :: r, j :: js => j.all (fun i => o.after.any fun e => Region.binds .any e && Nat.beq e.on i) && waitsB r js
/-- None of these slots is the region's own. -/
def freeB (L : Slots) (l : List Oper) : Bool := L.all fun p => l.all fun o => match o.dst with | none => true | some d => !Nat.beq d p.1

theorem steps_get {l : List Oper} {Rs : List (World → Value → Prop)} {w0 : World} : ∀ (r : List Oper) (js : List (List Nat)) (k : Nat), Steps P n D l Rs w0 L k r js → waitsB r js = true → ∀ (i : Nat) (o : Oper), r[i]? = some o →
    ∃ j : List Nat, (∀ i ∈ j, ∃ e ∈ o.after, Region.binds .any e = true ∧ e.on = i) ∧ ∀ w, Below w0.heap.size w0 w → ∀ K, One K n D w o.dst (Rs.getD (k + i) (fun _ _ => True)) → Need Rs l w (fun L' => WR P n D l.toArray [o] L' w (onlyK K)) j L
  | [], js, k, _, _, i, o, h => by simp at h
  | p :: r, [], k, h, _, _, _, _ => h.elim
  | p :: r, j :: js, k, ⟨h1, h2⟩, hw, i, o, h => by
    simp only [waitsB, Bool.and_eq_true] at hw
    cases i with
    | zero =>
      obtain rfl : p = o := by simpa using h
      refine ⟨j, fun i hi => ?_, h1⟩
      have := List.all_eq_true.1 hw.1 i hi
      rw [Array.any_eq_true] at this
      obtain ⟨x, hx, h⟩ := this
      rw [Bool.and_eq_true] at h
      exact ⟨p.after[x], Array.getElem_mem hx, h.1, Nat.eq_of_beq_eq_true h.2⟩
    | succ i =>
      have := steps_get r js (k + 1) h2 hw.2 i o (by simpa using h)
      rwa [show k + 1 + i = k + (i + 1) from by omega] at this

theorem need_of {l : List Oper} {Rs : List (World → Value → Prop)} {H : Slots → Prop} {a : Act} : ∀ (js : List Nat) (L : Slots), Fr n D L a → (∀ t, (∃ j ∈ js, dstOf l j = some t) → t < n) → (∀ j ∈ js, ∀ t, dstOf l j = some t → (Rs.getD j (fun _ _ => True)) w (G.slot a (some t))) → Need Rs l w H js L → ∃ L', Fr n D L' a ∧ H L'
  | [], L, ha, _, _, h => ⟨L, ha, h⟩
  | j :: js, L, ha, hn, hR, h => by
    unfold Need at h
    cases hd : dstOf l j with
    | none =>
      rw [hd] at h
      exact need_of js L ha (fun t ⟨i, hi, ht⟩ => hn t ⟨i, List.mem_cons_of_mem _ hi, ht⟩) (fun i hi => hR i (List.mem_cons_of_mem _ hi)) h
    | some t =>
      rw [hd] at h
      have htn := hn t ⟨j, List.mem_cons_self .., hd⟩
      have hts : a.tmps[t]? = some (G.slot a (some t)) := by
        have : t < a.tmps.size := by rw [ha.size]; exact htn
        simp [G.slot, this]
      refine need_of js _ ⟨ha.size, ha.defers, fun s v hs => ?_⟩ (fun t ⟨i, hi, ht⟩ => hn t ⟨i, List.mem_cons_of_mem _ hi, ht⟩) (fun i hi => hR i (List.mem_cons_of_mem _ hi)) (h _ (hR j (List.mem_cons_self ..) t hd))
      by_cases e : t = s
      · subst e; rw [look_cons_eq] at hs; cases hs; exact hts
      · rw [look_cons_ne e] at hs; exact ha.vals s v hs

theorem need_mono {l : List Oper} {Rs : List (World → Value → Prop)} {H H' : Slots → Prop} : ∀ {js : List Nat} {L : Slots}, Need Rs l w H js L → (∀ L, H L → H' L) → Need Rs l w H' js L
  | [], _, h, hh => hh _ h
  | j :: js, L, h, hh => by
    unfold Need at h ⊢
    cases hd : dstOf l j with
    | none => rw [hd] at h; exact need_mono h hh
    | some t => rw [hd] at h; exact fun v hv => need_mono (h v hv) hh

theorem any_core {l : List Oper} {Q : Exit → Act → World → Prop} (js : List (List Nat)) (Rs : List (World → Value → Prop)) (hok : G.okB l 0 [] n = true) (hfree : freeB L l = true) (hw : waitsB l js = true)
    (hR : ∀ (k : Nat) (w w' : World) (v : Value), (Rs.getD k (fun _ _ => True)) w v → Below w.heap.size w w' → (Rs.getD k (fun _ _ => True)) w' v)
    (step : Steps P n D l Rs w L 0 l js)
    (fin : ∀ w', Below w.heap.size w w' → Need Rs l w' (fun L' => Ends n D .normal L' w' Q) (List.range l.length) L) (a0 : Act) (ha0 : Fr n D L a0) : wpAny P .any l.toArray Q l.toArray.size (Array.replicate l.toArray.size false) a0 w.drew := by
  have hdst : ∀ (i : Nat) (o : Oper), l[i]? = some o → ∀ t, o.dst = some t → t < n := fun i o ho t ht => by
    have := (G.okB_spec l 0 [] n hok i o ho).1 t ht
    exact this.1
  have hfr : ∀ a, G.Same l.toArray a0 a → Fr n D L a := fun a hs => ⟨by rw [hs.size, ha0.size], by rw [hs.defers, ha0.defers], fun t v ht => by
    have h1 := ha0.vals t v ht
    have hmem : ∃ p ∈ L, p.1 = t := by
      clear h1 hfree step fin ha0
      induction L with
      | nil => cases ht
      | cons p L ih =>
        obtain ⟨s, u⟩ := p
        by_cases e : s = t
        · exact ⟨_, List.mem_cons_self .., e⟩
        · rw [look_cons_ne e] at ht
          obtain ⟨p, hp, h⟩ := ih ht
          exact ⟨p, List.mem_cons_of_mem _ hp, h⟩
    obtain ⟨p, hp, rfl⟩ := hmem
    have h2 := hs.other p.1 (fun i o ho e => by
      have := List.all_eq_true.1 (List.all_eq_true.1 hfree p hp) o (List.mem_of_getElem? (by simpa using ho))
      rw [e] at this
      simp at this)
    have hsz : p.1 < a.tmps.size := by rw [hs.size]; exact (Array.getElem?_eq_some_iff.1 h1).1
    simp only [G.slot, h1, Option.getD_some] at h2
    simp only [Array.getElem?_eq_getElem hsz, Option.getD_some] at h2
    rw [Array.getElem?_eq_getElem hsz, h2]⟩
  refine G.any_inv (P := P) (ops := l.toArray) (Q := Q) (a0 := a0) (w0 := w) (by rw [ha0.size]; simpa using hok) (fun w w' => Below w.heap.size w w') (fun a b c h1 h2 => h1.trans (h2.mono h1.size)) (fun w' h => Below.refl _ _) (Below.refl _ _)
    (fun i w v => match dstOf l i with | none => True | some _ => (Rs.getD i (fun _ _ => True)) w v) (fun i w w' v h hb => ?_) (fun i o ho hd w v => ?_) (fun i o ho a w' hb hs hdeps => ?_) (fun a w' hb hs hall => ?_)
  · split
    · trivial
    · rename_i t ht; rw [ht] at h; exact hR i w w' v h hb
  · have : dstOf l i = none := by
      have ho' : l[i]? = some o := by simpa using ho
      simp [dstOf, ho', hd]
    rw [this]; trivial
  · have ho' : l[i]? = some o := by simpa using ho
    have hdo : dstOf l i = o.dst := by simp [dstOf, ho']
    have ha := hfr a hs
    have hb0 : Below w.heap.size w w' := ⟨hb.os, hb.tape, hb.output, hb.size, hb.block⟩
    obtain ⟨j, hj, hst⟩ := steps_get l js 0 step hw i o ho'
    rw [Nat.zero_add] at hst
    have hst := hst w' hb0 (fun a' w'' => a'.defers = D ∧ Below w'.heap.size w' w'' ∧ (match o.dst with | none => True | some d => (Rs.getD i (fun _ _ => True)) w'' (G.slot a' (some d)))) ⟨fun L' w'' v hv hr hb' a' ha' => ⟨ha'.defers, hb', by
      cases hd : o.dst with
      | none => trivial
      | some d =>
        rw [hd] at hv hr
        have h1 := ha'.vals d v hv
        simp only [G.slot, h1, Option.getD_some]
        exact hr (by simp)⟩⟩
    obtain ⟨L', ha', hwr⟩ := need_of j L ha (fun t ⟨i', hi', ht⟩ => by
      obtain ⟨e, he, hbd, rfl⟩ := hj i' hi'
      unfold dstOf at ht
      cases hl : l[e.on]? with
      | none => rw [hl] at ht; cases ht
      | some p => rw [hl] at ht; exact hdst _ p hl t ht) (fun i' hi' t ht => by
      obtain ⟨e, he, hbd, rfl⟩ := hj i' hi'
      have hp := ht
      unfold dstOf at hp
      cases hl : l[e.on]? with
      | none => rw [hl] at hp; cases hp
      | some p =>
        rw [hl] at hp
        have := hdeps e he hbd p (by simpa using hl)
        rw [ht] at this
        rw [show p.dst = some t from hp] at this
        exact this) hst
    have hgo := hwr.go a ha'
    unfold wpList at hgo
    split
    · rename_i hwant
      rw [if_pos hwant] at hgo
      rcases hgo with hgo | ⟨_, a', w'', hl⟩
      · have h2 := upon_put (Q := Q) (fun a' w'' h => by rw [h.1, ha.defers]) (show o.upon P a _ (onlyK _) _ from hgo)
        refine Oper.wp_mono (fun a' w'' ⟨v, hav, _, hb', hr⟩ => ⟨v, hav, hb', ?_⟩) h2
        rw [hdo]
        cases hd : o.dst with
        | none => trivial
        | some d =>
          rw [hd] at hr hav
          subst hav
          dsimp only at hr
          rwa [G.slot_put a d v (by rw [ha.size]; exact hdst i o ho' d hd)] at hr
      · exact hl.elim
    · rename_i hwant
      rw [if_neg hwant] at hgo
      obtain ⟨_, _, hr⟩ := hgo
      rw [hdo]
      cases hd : o.dst with
      | none => trivial
      | some d =>
        rw [hd] at hr
        dsimp only at hr
        rwa [G.slot_put a d undef (by rw [ha.size]; exact hdst i o ho' d hd)] at hr
  · have ha := hfr a hs
    have hb0 : Below w.heap.size w w' := ⟨hb.os, hb.tape, hb.output, hb.size, hb.block⟩
    obtain ⟨L', ha', he⟩ := need_of (List.range l.length) L ha (fun t ⟨i', hi', ht⟩ => by
      unfold dstOf at ht
      cases hl : l[i']? with
      | none => rw [hl] at ht; cases ht
      | some p => rw [hl] at ht; exact hdst _ p hl t ht) (fun i' hi' t ht => by
      have hp := ht
      unfold dstOf at hp
      cases hl : l[i']? with
      | none => rw [hl] at hp; cases hp
      | some p =>
        rw [hl] at hp
        have := hall i' p (by simpa using hl)
        rw [ht] at this
        rw [show p.dst = some t from hp] at this
        exact this) (fin w' hb0)
    exact he.go a ha'
/-- The slot holds this. -/
def is (x : Value) : World → Value → Prop := fun _ v => v = x
def Stab (R : World → Value → Prop) : Prop := ∀ (w w' : World) (v : Value), R w v → Below w.heap.size w w' → R w' v
theorem stab_is (x : Value) : Stab (is x) := fun _ _ _ h _ => h
def AllStab : List (World → Value → Prop) → Prop
  | [] => True
  | R :: Rs => Stab R ∧ AllStab Rs
theorem allStab_get : ∀ {Rs : List (World → Value → Prop)}, AllStab Rs → ∀ (k : Nat) (w w' : World) (v : Value), (Rs.getD k (fun _ _ => True)) w v → Below w.heap.size w w' → (Rs.getD k (fun _ _ => True)) w' v
  | [], _, k, w, w', v, h, hb => trivial
  | R :: Rs, ⟨h1, _⟩, 0, w, w', v, h, hb => h1 w w' v h hb
  | R :: Rs, ⟨_, h2⟩, k + 1, w, w', v, h, hb => allStab_get h2 k w w' v h hb
theorem W.draws {id : Nat} {l : List Oper} (js : List (List Nat)) (Rs : List (World → Value → Prop)) (hm : P.follows .mixedOrders = true) (hok : G.okB l 0 [] n = true) (hfree : freeB L l = true) (hw : waitsB l js = true)
    (hR : AllStab Rs) (step : Steps P n D l Rs w L 0 l js)
    (fin : ∀ w', Below w.heap.size w w' → Need Rs l w' (fun L' => Ends n D .normal L' w' Q) (List.range l.length) L) : W P n D (.region id l.toArray true) L w Q :=
  ⟨fun a ha => wp_region_any hm (any_core js Rs hok hfree hw (allStab_get hR) step fin a ha)⟩
/-- .. the first k operations alone: what follows comes behind them in every order, one by one. -/
theorem W.drawsTo {id : Nat} {l : List Oper} (k : Nat) (js : List (List Nat)) (Rs : List (World → Value → Prop)) (hm : P.follows .mixedOrders = true) (hok : G.okB (l.take k) 0 [] n = true) (hfree : freeB L (l.take k) = true) (hw : waitsB (l.take k) js = true) (hB : G.splitB l k = true)
    (hR : AllStab Rs) (step : Steps P n D (l.take k) Rs w L 0 (l.take k) js)
    (fin : ∀ w', Below w.heap.size w w' → Need Rs (l.take k) w' (fun L' => WR P n D l.toArray (l.drop k) L' w' Q) (List.range (l.take k).length) L) : W P n D (.region id l.toArray true) L w Q :=
  ⟨fun a ha => G.region_split k hm hB (any_core (Q := G.tailQ P l k Q) js Rs hok hfree hw (allStab_get hR) step (fun w' hb => need_mono (fin w' hb) (fun L' h => ⟨h.go⟩)) a ha)⟩
end

end Go.Proofs.Ytjgobljclodpfaa.E
