/- A drawn region of which some operations change memory of the call's own: one invariant for all orders, with what is still alive. No condition. -/
import Derived.Test.YtjgobljclodpfaaG
namespace Go.Proofs.Ytjgobljclodpfaa.G
open Go.RowKit K
set_option linter.unusedVariables false
set_option linter.unusedSimpArgs false

/-- One operation more is done. -/
def more (L : Nat → Bool) (i : Nat) : Nat → Bool := fun j => j == i || L j
theorem more_self (L : Nat → Bool) (i : Nat) : more L i i = true := by simp [more]
theorem more_old {L : Nat → Bool} {j : Nat} (i : Nat) (h : L j = true) : more L i j = true := by simp [more, h]

/-- What is done has all done that it hangs on. -/
def Shut (ops : Array Oper) (L : Nat → Bool) : Prop := ∀ (j : Nat) (o : Oper), ops[j]? = some o → L j = true → ∀ e ∈ o.after, Region.binds .any e = true → L e.on = true

def onlyAt : List Oper → Nat → Nat → Nat → Bool
  | [], _, _, _ => true
  | o :: r, t, k, i => (o.dst != some t || i == k) && onlyAt r t k (i + 1)
theorem onlyAt_spec : ∀ (l : List Oper) (t k i : Nat), onlyAt l t k i = true → ∀ (j : Nat) (p : Oper), l[j]? = some p → p.dst = some t → i + j = k
  | [], _, _, _, _, j, p, h, _ => by simp at h
  | o :: r, t, k, i, h, j, p, hp, hd => by
    simp only [onlyAt, Bool.and_eq_true, Bool.or_eq_true] at h
    cases j with
    | zero =>
      obtain rfl : o = p := by simpa using hp
      rw [hd] at h
      simpa using h.1
    | succ j => have := onlyAt_spec r t k (i + 1) h.2 j p (by simpa using hp) hd; omega
/-- A slot that only a later operation writes. -/
theorem unlisted {ops : Array Oper} {L : Nat → Bool} {i : Nat} (t k : Nat) {o : Oper} (hLi : L i = false) (hS : Shut ops L) (hk : ops[k]? = some o) (hu : onlyAt ops.toList t k 0 = true) (g : Ground) (he : (⟨i, g⟩ : Edge) ∈ o.after) (hb : Region.binds .any ⟨i, g⟩ = true) :
    ∀ (j : Nat) (p : Oper), ops[j]? = some p → p.dst = some t → L j = false := by
  intro j p hj hd
  have := onlyAt_spec ops.toList t k 0 hu j p (by simpa using hj) hd
  obtain rfl : j = k := by omega
  cases h : L j with
  | false => rfl
  | true => have := hS j o hk h _ he hb; rw [hLi] at this; cases this

section
variable {P : Program} {ops : Array Oper} {Q : Exit → Act → World → Prop}

theorem any_two {a0 : Act} {w0 : World} (hok : okL ops.toList 0 [] a0.tmps.size = true) (I : (Nat → Bool) → World → Prop)
    (R : (Nat → Bool) → Nat → World → Value → Prop) (hI0 : ∀ L : Nat → Bool, (∀ i, i < ops.size → L i = false) → I L w0.drew)
    (hne : ∀ (i : Nat) (o : Oper), ops[i]? = some o → o.dst = none → ∀ L w v, R L i w v)
    (step : ∀ (i : Nat) (o : Oper), ops[i]? = some o → ∀ (L : Nat → Bool) a w, L i = false → (∀ e ∈ o.after, Region.binds .any e = true → L e.on = true) → Shut ops L → (∀ t, (∀ (j : Nat) (p : Oper), ops[j]? = some p → p.dst = some t → L j = false) → slot a (some t) = slot a0 (some t)) → I L w → Same ops a0 a → (∀ (j : Nat) (p : Oper), ops[j]? = some p → L j = true → R L j w (slot a p.dst)) →
      if Region.wanted o (yielded ops a.tmps) then o.wp P a w (fun a' w' => ∃ v, a' = a.put o.dst v ∧ I (more L i) w' ∧ R (more L i) i w' v ∧ ∀ j u, L j = true → R L j w u → R (more L i) j w' u) Q
      else I (more L i) w ∧ R (more L i) i w undef ∧ ∀ j u, L j = true → R L j w u → R (more L i) j w u)
    (fin : ∀ L a w, (∀ i, i < ops.size → L i = true) → I L w → Same ops a0 a → (∀ (i : Nat) (o : Oper), ops[i]? = some o → R L i w (slot a o.dst)) → Q .normal a w)
    : wpAny P .any ops Q ops.size (Array.replicate ops.size false) a0 w0.drew := by
  have hsp : ∀ (i : Nat) (o : Oper), ops[i]? = some o → (∀ t, o.dst = some t → t < a0.tmps.size ∧ ∀ (j : Nat) (p : Oper), ops[j]? = some p → p.dst = some t → i = j) ∧ ∀ e ∈ o.after, e.on < i := by
    intro i o hi
    have := okL_spec ops.toList 0 [] a0.tmps.size hok i o (by simpa using hi)
    refine ⟨fun t ht => ?_, fun e he => by have := this.2 e he; omega⟩
    obtain ⟨h1, _, h3⟩ := this.1 t ht
    exact ⟨h1, fun j p hj => h3 j p (by simpa using hj)⟩
  have hset : ∀ (listed : Array Bool) (i : Nat), i < listed.size → (fun j => (listed.setIfInBounds i true).getD j true) = more (fun j => listed.getD j true) i := by
    intro listed i hi
    funext j
    by_cases hj : j < listed.size
    · by_cases e : i = j
      · subst e; simp [Array.getD, hj, more]
      · have e' : (j == i) = false := by simpa using Ne.symm e
        simp [Array.getD, hj, e, more, e']
    · simp [Array.getD, hj, more]
  have put : ∀ (i : Nat) (o : Oper) (a : Act) (w w' : World) (v : Value) (listed : Array Bool), ops[i]? = some o → listed.size = ops.size → Same ops a0 a →
      R (more (fun j => listed.getD j true) i) i w' v → (∀ j u, listed.getD j true = true → R (fun j => listed.getD j true) j w u → R (more (fun j => listed.getD j true) i) j w' u) →
      (∀ (j : Nat) (p : Oper), ops[j]? = some p → listed.getD j true = true → R (fun j => listed.getD j true) j w (slot a p.dst)) →
      Same ops a0 (a.put o.dst v) ∧ ∀ (j : Nat) (p : Oper), ops[j]? = some p → (listed.setIfInBounds i true).getD j true = true → R (fun j => (listed.setIfInBounds i true).getD j true) j w' (slot (a.put o.dst v) p.dst) := by
    intro i o a w w' v listed hi hs ha hv hk hj
    have hlt : i < listed.size := by rw [hs]; exact (Array.getElem?_eq_some_iff.1 hi).1
    rw [hset listed i hlt]
    refine ⟨⟨?_, ?_, fun t ht => ?_⟩, fun j p hp hl => ?_⟩
    · rw [← ha.size]; cases o.dst <;> simp [Act.put]
    · rw [← ha.defers]; cases o.dst <;> simp [Act.put]
    · have := slot_put_ne a o.dst t v (ht i o hi)
      rw [this, ha.other t ht]
    · cases hd : p.dst with
      | none => exact hne j p hp hd _ w' _
      | some t =>
        by_cases e : i = j
        · subst e
          obtain rfl : o = p := by rw [hi] at hp; exact Option.some.inj hp
          rw [hd, slot_put a t v (by rw [ha.size]; exact ((hsp i o hi).1 t hd).1)]
          exact hv
        · rw [slot_put_ne a o.dst t v (fun h => e (((hsp i o hi).1 t h).2 j p hp hd)), ← hd]
          have hjs : j < listed.size := by rw [hs]; exact (Array.getElem?_eq_some_iff.1 hp).1
          have hl' : listed.getD j true = true := by
            simp only [Array.getD, Array.size_setIfInBounds, hjs, ↓reduceDIte, Array.getInternal_eq_getElem, Array.getElem_setIfInBounds, e, if_false] at hl ⊢
            exact hl
          exact hk j _ hl' (hj j p hp hl')
  have all : ∀ (listed : Array Bool), listed.size = ops.size → Region.ready .any ops listed = [] → ∀ i, i < ops.size → listed.getD i true = true := by
    intro listed hs hr i
    induction i using Nat.strongRecOn with
    | _ i ih =>
      intro hi
      cases hl : listed.getD i true with
      | true => rfl
      | false =>
        exfalso
        have hmem : i ∈ Region.ready .any ops listed := by
          unfold Region.ready
          rw [List.mem_filter]
          refine ⟨List.mem_range.2 hi, ?_⟩
          have ho := Array.getElem?_eq_getElem hi
          rw [ho, hl]
          simp only [Bool.not_false, Option.map_some, Option.getD_some, Bool.true_and, Array.all_eq_true]
          intro k hk
          have h1 := (hsp i _ ho).2 _ (Array.getElem_mem hk)
          have h2 := ih _ h1 (by omega)
          have h3 : ops[i].after[k].on < listed.size := by omega
          simp only [Array.getD, h3, ↓reduceDIte, Array.getInternal_eq_getElem] at h2 ⊢
          simp [h2]
        rw [hr] at hmem
        cases hmem
  have key : ∀ (fuel : Nat) (listed : Array Bool) (a : Act) (w : World), listed.size = ops.size → (((List.range ops.size).filter fun i => !listed.getD i true).length ≤ fuel) → Shut ops (fun j => listed.getD j true) → (∀ t, (∀ (j : Nat) (p : Oper), ops[j]? = some p → p.dst = some t → listed.getD j true = false) → slot a (some t) = slot a0 (some t)) → I (fun j => listed.getD j true) w → Same ops a0 a →
      (∀ (i : Nat) (o : Oper), ops[i]? = some o → listed.getD i true = true → R (fun j => listed.getD j true) i w (slot a o.dst)) → wpAny P .any ops Q fuel listed a w := by
    intro fuel
    induction fuel with
    | zero =>
      intro listed a w hs hf hsh hun hw ha hj
      have hnil := List.eq_nil_of_length_eq_zero (Nat.le_zero.1 hf)
      have hl : ∀ i, i < ops.size → listed.getD i true = true := by
        intro i hi
        cases h : listed.getD i true with
        | true => rfl
        | false =>
          have : i ∈ (List.range ops.size).filter fun i => !listed.getD i true := by rw [List.mem_filter]; exact ⟨List.mem_range.2 hi, by rw [h]; rfl⟩
          rw [hnil] at this
          cases this
      refine ⟨?_, fin _ a w hl hw ha fun i o hi => hj i o hi (hl i (Array.getElem?_eq_some_iff.1 hi).1)⟩
      unfold Region.ready
      rw [List.filter_eq_nil_iff]
      intro i hi
      rw [hl i (List.mem_range.1 hi)]
      simp
    | succ fuel ih =>
      intro listed a w hs hf hsh hun hw ha hj
      refine ⟨fun hr => fin _ a w (all listed hs hr) hw ha fun i o hi => hj i o hi (all listed hs hr i (Array.getElem?_eq_some_iff.1 hi).1), fun i hi => ?_⟩
      unfold Region.ready at hi
      rw [List.mem_filter] at hi
      obtain ⟨hi1, hi2⟩ := hi
      have hlt := List.mem_range.1 hi1
      have ho := Array.getElem?_eq_getElem hlt
      rw [ho] at hi2
      simp only [Option.map_some, Option.getD_some, Bool.and_eq_true, Bool.not_eq_true', Array.all_eq_true] at hi2
      obtain ⟨hnl, hpre⟩ := hi2
      have hst := step i _ ho (fun j => listed.getD j true) a w hnl (fun e he hb => by
        obtain ⟨k, hk, rfl⟩ := Array.getElem_of_mem he
        have := hpre k hk
        rw [hb] at this
        have hjs : ops[i].after[k].on < listed.size := by rw [hs]; exact Nat.lt_trans ((hsp i _ ho).2 _ (Array.getElem_mem hk)) hlt
        simp only [Array.getD, hjs, ↓reduceDIte, Array.getInternal_eq_getElem] at this ⊢
        simpa using this) hsh hun hw ha hj
      have hpre' : ∀ e ∈ ops[i].after, Region.binds .any e = true → listed.getD e.on true = true := fun e he hb => by
        obtain ⟨k, hk, rfl⟩ := Array.getElem_of_mem he
        have := hpre k hk
        rw [hb] at this
        have hjs : ops[i].after[k].on < listed.size := by rw [hs]; exact Nat.lt_trans ((hsp i _ ho).2 _ (Array.getElem_mem hk)) hlt
        simp only [Array.getD, hjs, ↓reduceDIte, Array.getInternal_eq_getElem] at this ⊢
        simpa using this
      have hsh' : Shut ops (more (fun j => listed.getD j true) i) := fun j o hj hL e he hb => by
        by_cases e' : j = i
        · subst e'
          rw [ho] at hj
          obtain rfl := Option.some.inj hj
          exact more_old _ (hpre' e he hb)
        · have : (j == i) = false := by simpa using e'
          simp only [more, this, Bool.false_or] at hL
          exact more_old _ (hsh j o hj hL e he hb)
      have hun' : ∀ v t, (∀ (j : Nat) (p : Oper), ops[j]? = some p → p.dst = some t → more (fun j => listed.getD j true) i j = false) → slot (a.put ops[i].dst v) (some t) = slot a0 (some t) := fun v t ht => by
        rw [slot_put_ne a _ t v (fun hd => by have := ht i _ ho hd; rw [more_self] at this; cases this)]
        refine hun t fun j p hp hd => ?_
        have := ht j p hp hd
        simp only [more, Bool.or_eq_false_iff] at this
        exact this.2
      have hless : ((List.range ops.size).filter fun j => !(listed.setIfInBounds i true).getD j true).length ≤ fuel := by
        have hsub : ((List.range ops.size).filter fun j => !(listed.setIfInBounds i true).getD j true) = ((List.range ops.size).filter fun j => !listed.getD j true).erase i := by
          rw [List.Nodup.erase_eq_filter ((List.nodup_range).filter _), List.filter_filter]
          apply List.filter_congr
          intro j hj
          have hjs : j < listed.size := by rw [hs]; exact List.mem_range.1 hj
          by_cases e : i = j
          · subst e; simp [Array.getD, hjs]
          · simp [Array.getD, hjs, e, Ne.symm e]
        rw [hsub, List.length_erase_of_mem (by rw [List.mem_filter]; exact ⟨hi1, by rw [hnl]; rfl⟩)]
        omega
      unfold wpOp
      rw [ho]
      simp only
      by_cases hwd : Region.wanted ops[i] (yielded ops a.tmps) = true
      · rw [if_pos hwd] at hst ⊢
        refine .inl (Oper.wp_mono ?_ hst)
        rintro a' w' ⟨v, rfl, hI, hv, hk⟩
        obtain ⟨q1, q2⟩ := put i _ a w w' v listed ho hs ha hv hk hj
        exact ih _ _ _ (by simpa using hs) hless (by rw [hset listed i (by omega)]; exact hsh') (fun t ht => hun' _ t fun j p hp hd => by have := ht j p hp hd; rwa [← hset listed i (by omega)]) (by rw [hset listed i (by omega)]; exact hI) q1 q2
      · rw [if_neg hwd] at hst ⊢
        obtain ⟨hI, hv, hk⟩ := hst
        obtain ⟨q1, q2⟩ := put i _ a w w undef listed ho hs ha hv hk hj
        exact ih _ _ _ (by simpa using hs) hless (by rw [hset listed i (by omega)]; exact hsh') (fun t ht => hun' _ t fun j p hp hd => by have := ht j p hp hd; rwa [← hset listed i (by omega)]) (by rw [hset listed i (by omega)]; exact hI) q1 q2
  refine key ops.size _ a0 _ (by simp) ?_ (fun j o hj hL => by
      have hlt := (Array.getElem?_eq_some_iff.1 hj).1
      simp [Array.getD, hlt] at hL) (fun t _ => rfl) (hI0 _ fun i hi => by simp [Array.getD, hi]) ⟨rfl, rfl, fun _ _ => rfl⟩ (fun i o hi hl => ?_)
  · exact Nat.le_trans (List.length_filter_le _ _) (by simp)
  · have hlt := (Array.getElem?_eq_some_iff.1 hi).1
    simp [Array.getD, hlt] at hl

theorem region_two {id : Nat} {a0 : Act} {w0 : World} (hm : P.follows .mixedOrders = true) (hok : okL ops.toList 0 [] a0.tmps.size = true) (I : (Nat → Bool) → World → Prop)
    (R : (Nat → Bool) → Nat → World → Value → Prop) (hI0 : ∀ L : Nat → Bool, (∀ i, i < ops.size → L i = false) → I L w0.drew)
    (hne : ∀ (i : Nat) (o : Oper), ops[i]? = some o → o.dst = none → ∀ L w v, R L i w v)
    (step : ∀ (i : Nat) (o : Oper), ops[i]? = some o → ∀ (L : Nat → Bool) a w, L i = false → (∀ e ∈ o.after, Region.binds .any e = true → L e.on = true) → Shut ops L → (∀ t, (∀ (j : Nat) (p : Oper), ops[j]? = some p → p.dst = some t → L j = false) → slot a (some t) = slot a0 (some t)) → I L w → Same ops a0 a → (∀ (j : Nat) (p : Oper), ops[j]? = some p → L j = true → R L j w (slot a p.dst)) →
      if Region.wanted o (yielded ops a.tmps) then o.wp P a w (fun a' w' => ∃ v, a' = a.put o.dst v ∧ I (more L i) w' ∧ R (more L i) i w' v ∧ ∀ j u, L j = true → R L j w u → R (more L i) j w' u) Q
      else I (more L i) w ∧ R (more L i) i w undef ∧ ∀ j u, L j = true → R L j w u → R (more L i) j w u)
    (fin : ∀ L a w, (∀ i, i < ops.size → L i = true) → I L w → Same ops a0 a → (∀ (i : Nat) (o : Oper), ops[i]? = some o → R L i w (slot a o.dst)) → Q .normal a w)
    : (Code.region id ops true).wp P Q a0 w0 :=
  wp_region_any hm (any_two hok I R hI0 hne step fin)

end

/-- What is known of a slot, and till which operation. -/
structure Pred where
  holds : World → Value → Prop
  till : Option Nat := none

def Pred.at_ (p : Pred) (L : Nat → Bool) (w : World) (v : Value) : Prop := match p.till with | none => p.holds w v | some k => L k = true ∨ p.holds w v
def of2 (l : List Pred) (L : Nat → Bool) (i : Nat) (w : World) (v : Value) : Prop := match l[i]? with | some p => p.at_ L w v | none => True

theorem Pred.still {p : Pred} {L : Nat → Bool} {w w' : World} {v : Value} (i : Nat) (h : p.at_ L w v) (hk : p.holds w v → p.holds w' v) : p.at_ (more L i) w' v := by
  cases p with
  | mk P t =>
    cases t with
    | none => exact hk h
    | some k =>
      rcases h with h | h
      · exact .inl (more_old i h)
      · exact .inr (hk h)

/-- All that is known bears fresh memory. -/
def Bears : List Pred → Prop
  | [] => True
  | p :: r => (∀ w w' v, p.holds w v → Below w.heap.size w w' → p.holds w' v) ∧ Bears r
theorem bears_at : ∀ {l : List Pred}, Bears l → ∀ {i : Nat} {p : Pred}, l[i]? = some p → ∀ w w' v, p.holds w v → Below w.heap.size w w' → p.holds w' v
  | p :: r, h, 0, q, hq => by obtain rfl : p = q := by simpa using hq
                              exact h.1
  | p :: r, h, i + 1, q, hq => bears_at h.2 (by simpa using hq)

theorem of2_fresh {l : List Pred} (hl : Bears l) {L : Nat → Bool} {w w' : World} (i : Nat) (hb : Below w.heap.size w w') : ∀ j u, L j = true → of2 l L j w u → of2 l (more L i) j w' u := by
  intro j u _ h
  unfold of2 at h ⊢
  cases hj : l[j]? with
  | none => trivial
  | some p =>
    rw [hj] at h
    exact Pred.still i h fun h => bears_at hl hj w w' u h hb

/-- What an operation leaves alive that changes memory of the call's own. -/
def Lives (L : Nat → Bool) (i : Nat) (w w' : World) : List Pred → Nat → Prop
  | [], _ => True
  | p :: r, k => (L k = true → ∀ u, p.at_ L w u → p.at_ (more L i) w' u) ∧ Lives L i w w' r (k + 1)
theorem lives_at {L : Nat → Bool} {i : Nat} {w w' : World} : ∀ {l : List Pred} {k : Nat}, Lives L i w w' l k → ∀ {j : Nat} {p : Pred}, l[j]? = some p → L (k + j) = true → ∀ u, p.at_ L w u → p.at_ (more L i) w' u
  | p :: r, k, h, 0, q, hq, hL => by obtain rfl : p = q := by simpa using hq
                                     exact h.1 hL
  | p :: r, k, h, j + 1, q, hq, hL => lives_at h.2 (by simpa using hq) (by rwa [show k + 1 + j = k + (j + 1) from by omega])
theorem of2_own {l : List Pred} {L : Nat → Bool} {i : Nat} {w w' : World} (h : Lives L i w w' l 0) : ∀ j u, L j = true → of2 l L j w u → of2 l (more L i) j w' u := by
  intro j u hL hj
  unfold of2 at hj ⊢
  cases hp : l[j]? with
  | none => trivial
  | some p =>
    rw [hp] at hj
    exact lives_at h hp (by rwa [Nat.zero_add]) u hj

/-- The region's own invariant: memory that was is as it was; the slice at hand is the call's own till an operation takes it. -/
def Own (W0 : World) (P0 : World → Prop) (k : Nat) (L : Nat → Bool) (w : World) : Prop := Below W0.heap.size W0 w ∧ (L k = true ∨ P0 w)
theorem Own.fresh {W0 : World} {P0 : World → Prop} {k : Nat} {L : Nat → Bool} {w w' : World} (hP : ∀ w w', P0 w → Below w.heap.size w w' → P0 w') (i : Nat) (h : Own W0 P0 k L w) (hb : Below w.heap.size w w') : Own W0 P0 k (more L i) w' :=
  ⟨below_tr h.1 hb, h.2.elim (fun h => .inl (more_old i h)) fun h => .inr (hP _ _ h hb)⟩

end Go.Proofs.Ytjgobljclodpfaa.G
