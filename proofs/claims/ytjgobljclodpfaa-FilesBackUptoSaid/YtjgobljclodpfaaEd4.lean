/- A region that draws its order, a store at its end: what only takes a tuple apart may come behind the store (late). No condition. -/
import Derived.Orders
import Derived.Test.YtjgobljclodpfaaEd
import Derived.Test.YtjgobljclodpfaaEr
import Derived.Test.YtjgobljclodpfaaG6
namespace Go.Proofs.Ytjgobljclodpfaa.E
open Go Go.RowKit K
set_option linter.unusedVariables false
set_option linter.unusedSimpArgs false

section
variable {P : Program} {n : Nat} {D : List Deferred} {L : Slots} {w : World} {Q : Exit → Act → World → Prop}

/-- The operation leaves nothing but that memory. -/
def Sk (P : Program) (n : Nat) (D : List Deferred) (o : Oper) (L : Slots) (w w' : World) : Prop := ∀ a, Fr n D L a → (execOp a.eval o).run P w = .ok .skip w'
def isExt (o : Oper) : Bool := (match o.op with | .extract _ _ => true | .move _ => true | .assign _ => true | _ => false) && o.guard.isNone
def isSto (o : Oper) : Bool := (match o.op with | .store _ _ _ => true | _ => false) && o.guard.isNone && o.dst.isNone
def lateB (l : List Oper) (k : Nat) (late : List Nat) : Bool :=
  ((List.range l.length).all fun i => Nat.beq i k || (G.ancM l k).testBit i || late.any (Nat.beq i)) &&
  match l[k]? with
  | none => false
  | some p => isSto p && late.all fun i => match l[i]? with
    | none => false
    | some o => isExt o && match o.dst with | none => true | some d => !(p.looksAt #[]).any (Nat.beq d)
theorem ext_run {ρ : Operand → Value} {o : Oper} (ho : isExt o = true) {w w1 : World} {nx : Next} (h : (execOp ρ o).run P w = .ok nx w1) : w1 = w ∧ (∃ v, nx = .value v) ∧ ∀ w2, (execOp ρ o).run P w2 = .ok nx w2 := by
  obtain ⟨d, op, ty, pos, after, g⟩ := o
  unfold isExt at ho
  cases op <;> simp only [Bool.and_eq_true, Bool.false_eq_true, false_and] at ho
  case move x =>
    simp only [execOp, Sem.run_pure] at h ⊢
    cases h
    exact ⟨rfl, ⟨_, rfl⟩, fun _ => rfl⟩
  case assign x =>
    simp only [execOp, Sem.run_pure] at h ⊢
    cases h
    exact ⟨rfl, ⟨_, rfl⟩, fun _ => rfl⟩
  rename_i x i
  simp only [execOp, Instr.extract] at h ⊢
  cases hx : ρ x <;> simp only [hx] at h ⊢ <;> (try (simp [Sem.run_bind, Sem.run_pure, Result.andThen_ok] at h; done))
  rename_i vs
  cases hv : vs[i]? <;> simp only [hv] at h ⊢ <;> (try (simp [Sem.run_bind, Sem.run_pure, Result.andThen_ok] at h; done))
  simp only [Sem.run_bind, Sem.run_pure, Result.andThen_ok] at h ⊢
  cases h
  exact ⟨rfl, ⟨_, rfl⟩, fun _ => rfl⟩
theorem wanted_none {o : Oper} (h : o.guard.isNone = true) (y : Nat → Option Bool) : Region.wanted o y = true := by
  obtain ⟨d, op, ty, pos, after, g⟩ := o
  cases g
  · rfl
  · cases h

/-- What holds on the way: what has been done was done at wp; behind the store, memory is what the store made of it. -/
def InvL (P : Program) (l : List Oper) (Rs : List (World → Value → Prop)) (k : Nat) (pv : Oper) (w0 : World) (listed : Array Bool) (a : Act) (w' : World) : Prop :=
  ∃ wp, Below w0.heap.size w0 wp ∧ (∀ (i : Nat) (p : Oper), l[i]? = some p → i ≠ k → listed.getD i true = true → ∀ t, p.dst = some t → (Rs.getD i (fun _ _ => True)) wp (G.slot a (some t))) ∧
    ((listed.getD k true = false ∧ wp = w') ∨ (listed.getD k true = true ∧ (execOp a.eval pv).run P wp = .ok .skip w'))

theorem any_late {l : List Oper} {k : Nat} {pv : Oper} (late : List Nat) (js js2 : List (List Nat)) (jp : List Nat) (Rs : List (World → Value → Prop)) (hpv : l[k]? = some pv) (hok : G.okB l 0 [] n = true) (hfree : freeB L l = true) (hw : waitsB (l.take k) js = true) (hw2 : waitsB (l.drop (k + 1)) js2 = true) (hwp : waitsB [pv] [jp] = true)
    (hl : lateB l k late = true)
    (hR : ∀ (k : Nat) (w w' : World) (v : Value), (Rs.getD k (fun _ _ => True)) w v → Below w.heap.size w w' → (Rs.getD k (fun _ _ => True)) w' v)
    (step : Steps P n D l Rs w L 0 (l.take k) js) (step2 : Steps P n D l Rs w L (k + 1) (l.drop (k + 1)) js2)
    (hp : ∀ w', Below w.heap.size w w' → Need Rs l w' (fun L' => ∃ w'', Sk P n D pv L' w' w'') jp L)
    (fin : ∀ w', Below w.heap.size w w' → Need Rs l w' (fun L' => ∃ w'', Sk P n D pv L' w' w'' ∧ Ends n D .normal L' w'' Q) (List.range l.length) L) (a0 : Act) (ha0 : Fr n D L a0) : wpAny P .any l.toArray Q l.toArray.size (Array.replicate l.toArray.size false) a0 w.drew := by
  have htk : ∀ i, i < k → (l.take k)[i]? = l[i]? := fun i hi => List.getElem?_take_of_lt hi
  have hdst : ∀ (i : Nat) (o : Oper), l[i]? = some o → ∀ t, o.dst = some t → t < n := fun i o ho t ht => by
    have := (G.okB_spec l 0 [] n hok i o ho).1 t ht
    exact this.1
  have hapart : ∀ (i : Nat) (o : Oper), l[i]? = some o → ∀ t, o.dst = some t → ∀ (j : Nat) (p : Oper), l[j]? = some p → p.dst = some t → i = j := fun i o ho t ht j p hp hpt => ((G.okB_spec l 0 [] n hok i o ho).1 t ht).2.2 j p hp hpt
  have hedge : ∀ (i : Nat) (o : Oper), l[i]? = some o → ∀ e ∈ o.after, Region.binds .any e = true → e.on < i := fun i o ho e he hb => by
    have := (G.okB_spec l 0 [] n hok i o ho).2 e he hb; omega
  have hfr : ∀ a, G.Same l.toArray a0 a → Fr n D L a := fun a hs => ⟨by rw [hs.size, ha0.size], by rw [hs.defers, ha0.defers], fun t v ht => by
    have h1 := ha0.vals t v ht
    have hmem : ∃ p ∈ L, p.1 = t := by
      clear h1 hfree step step2 fin ha0 hp
      induction L with
      | nil => cases ht
      | cons p L ih =>
        obtain ⟨s, u⟩ := p
        by_cases e : s = t
        · exact ⟨_, List.mem_cons_self .., e⟩
        · rw [look_cons_ne e] at ht
          obtain ⟨p, hp, h⟩ := ih ht
          exact ⟨p, List.mem_cons_of_mem _ hp, h⟩
    obtain ⟨p, hp, rfl⟩ := hmem
    have h2 := hs.other p.1 (fun i o ho e => by
      have := List.all_eq_true.1 (List.all_eq_true.1 hfree p hp) o (List.mem_of_getElem? (by simpa using ho))
      rw [e] at this
      simp at this)
    have hsz : p.1 < a.tmps.size := by rw [hs.size]; exact (Array.getElem?_eq_some_iff.1 h1).1
    simp only [G.slot, h1, Option.getD_some] at h2
    simp only [Array.getElem?_eq_getElem hsz, Option.getD_some] at h2
    rw [Array.getElem?_eq_getElem hsz, h2]⟩
  have set_get : ∀ (listed : Array Bool) (i j : Nat), i < listed.size → (listed.setIfInBounds i true).getD j true = if i = j then true else listed.getD j true := by
    intro listed i j hi
    by_cases hj : j < listed.size
    · simp only [Array.getD, Array.size_setIfInBounds, hj, ↓reduceDIte, Array.getInternal_eq_getElem, Array.getElem_setIfInBounds]
    · have : i ≠ j := by omega
      simp [Array.getD, hj, this]
  unfold lateB at hl
  rw [hpv] at hl
  simp only [Bool.and_eq_true] at hl
  obtain ⟨hanc, hsto, hlate⟩ := hl
  have hpd : pv.dst = none := by
    unfold isSto at hsto
    cases hd : pv.dst with
    | none => rfl
    | some d => simp [hd] at hsto
  have hpg : pv.guard.isNone = true := by unfold isSto at hsto; simp only [Bool.and_eq_true] at hsto; exact hsto.1.2
  have hsel : ∀ cs b, pv.op ≠ .select cs b := fun cs b e => by unfold isSto at hsto; rw [e] at hsto; simp at hsto
  have small : ∀ j : List Nat, ∀ t, (∃ i ∈ j, dstOf l i = some t) → t < n := fun j t ⟨i, _, ht⟩ => by
    unfold dstOf at ht
    cases hl : l[i]? with
    | none => rw [hl] at ht; cases ht
    | some p => rw [hl] at ht; exact hdst _ p hl t ht
  have known : ∀ {listed : Array Bool} {a : Act} {wp : World}, (∀ (i : Nat) (p : Oper), l[i]? = some p → i ≠ k → listed.getD i true = true → ∀ t, p.dst = some t → (Rs.getD i (fun _ _ => True)) wp (G.slot a (some t))) → ∀ j : List Nat, (∀ i ∈ j, listed.getD i true = true) → ∀ i ∈ j, ∀ t, dstOf l i = some t → (Rs.getD i (fun _ _ => True)) wp (G.slot a (some t)) := by
    intro listed a wp I j hj i hi t ht
    unfold dstOf at ht
    cases hl : l[i]? with
    | none => rw [hl] at ht; cases ht
    | some p =>
      rw [hl] at ht
      by_cases hik : i = k
      · subst hik
        obtain rfl : pv = p := by rw [hpv] at hl; exact Option.some.inj hl
        rw [show (some pv).bind (fun x => x.dst) = none from hpd] at ht; cases ht
      · exact I i p hl hik (hj i hi) t ht
  have h0k : (Array.replicate l.toArray.size false).getD k true = false := by
    have : k < l.length := (List.getElem?_eq_some_iff.1 hpv).1
    simp [Array.getD, this]
  refine G.any_gen (P := P) (ops := l.toArray) (Q := Q) (a0 := a0) (by rw [ha0.size]; simpa using hok) (fun listed a w' => InvL P l Rs k pv w listed a w') (fun i o ho listed a w' hsz hnl hcl hpre hs ⟨wp, hb, hsl, hph⟩ => ?_) (fun listed a w' hsz hall hs ⟨wp, hb, hsl, hph⟩ => ?_) ⟨w.drew, ⟨rfl, rfl, rfl, Nat.le_refl _, fun _ _ => rfl⟩, fun i p hp hi hl => ?_, .inl ⟨h0k, rfl⟩⟩
  · have ho' : l[i]? = some o := by simpa using ho
    have hi : i < listed.size := by rw [hsz]; exact (Array.getElem?_eq_some_iff.1 ho).1
    have ha := hfr a hs
    by_cases e : i = k
    · -- the store
      subst e
      obtain rfl : o = pv := by rw [hpv] at ho'; exact (Option.some.inj ho').symm
      rcases hph with ⟨_, rfl⟩ | ⟨h1, _⟩
      · rw [if_pos (wanted_none hpg _)]
        have hjp : ∀ i' ∈ jp, listed.getD i' true = true := fun i' hi' => by
          simp only [waitsB, Bool.and_eq_true, Bool.and_true] at hwp
          have := List.all_eq_true.1 hwp i' hi'
          rw [Array.any_eq_true] at this
          obtain ⟨x, hx, h⟩ := this
          rw [Bool.and_eq_true] at h
          rw [← Nat.eq_of_beq_eq_true h.2]
          exact hpre _ (Array.getElem_mem hx) h.1
        obtain ⟨L', ha', w'', hsk⟩ := need_of jp L ha (small jp) (known hsl jp hjp) (hp wp hb)
        have hrun := hsk a ha'
        unfold Oper.wp
        rw [hrun]
        refine ⟨undef, rfl, wp, hb, fun j p hp' hj hjl t ht => ?_, .inr ⟨by rw [set_get listed i i hi, if_pos rfl], by rw [hpd]; exact hrun⟩⟩
        rw [set_get listed i j hi, if_neg (Ne.symm hj)] at hjl
        rw [hpd]
        exact hsl j p hp' hj hjl t ht
      · rw [hnl] at h1; cases h1
    · have hlt := (List.getElem?_eq_some_iff.1 ho').1
      have hst : ∃ j : List Nat, (∀ i ∈ j, ∃ e ∈ o.after, Region.binds .any e = true ∧ e.on = i) ∧ ∀ w', Below w.heap.size w w' → ∀ K, One K n D w' o.dst (Rs.getD i (fun _ _ => True)) → Need Rs l w' (fun L' => WR P n D l.toArray [o] L' w' (onlyK K)) j L := by
        rcases Nat.lt_or_ge i k with h | h
        · have := steps_get (l := l) (l.take k) js 0 step hw i o (by rw [htk i h]; exact ho')
          rwa [Nat.zero_add] at this
        · have := steps_get (l := l) (l.drop (k + 1)) js2 (k + 1) step2 hw2 (i - (k + 1)) o (by rw [List.getElem?_drop, show k + 1 + (i - (k + 1)) = i from by omega]; exact ho')
          rwa [show k + 1 + (i - (k + 1)) = i from by omega] at this
      obtain ⟨j, hj, hst⟩ := hst
      have hst := hst wp hb (fun a' w'' => a'.defers = D ∧ Below wp.heap.size wp w'' ∧ (match o.dst with | none => True | some d => (Rs.getD i (fun _ _ => True)) w'' (G.slot a' (some d)))) ⟨fun L' w'' v hv hr hb' a' ha' => ⟨ha'.defers, hb', by
        cases hd : o.dst with
        | none => trivial
        | some d =>
          rw [hd] at hv hr
          have h1 := ha'.vals d v hv
          simp only [G.slot, h1, Option.getD_some]
          exact hr (by simp)⟩⟩
      have hpred : ∀ i' ∈ j, listed.getD i' true = true := fun i' hi' => by
        obtain ⟨e, he, hb, rfl⟩ := hj i' hi'
        exact hpre e he hb
      obtain ⟨L', ha', hwr⟩ := need_of j L ha (small j) (known hsl j hpred) hst
      have next : ∀ (x : Value) (w'' : World), (match o.dst with | none => True | some d => (Rs.getD i (fun _ _ => True)) w'' x) → Below wp.heap.size wp w'' → ∀ (j : Nat) (p : Oper), l[j]? = some p → j ≠ k → (listed.setIfInBounds i true).getD j true = true → ∀ t, p.dst = some t → (Rs.getD j (fun _ _ => True)) w'' (G.slot (a.put o.dst x) (some t)) := by
        intro x w'' hx hb' j p hp' hjk hjl t ht
        rw [set_get listed i j hi] at hjl
        by_cases e2 : i = j
        · subst e2
          obtain rfl : o = p := by rw [ho'] at hp'; exact Option.some.inj hp'
          rw [ht] at hx ⊢
          rw [G.slot_put a t x (by rw [ha.size]; exact hdst i o ho' t ht)]
          exact hx
        · rw [if_neg e2] at hjl
          have hne : o.dst ≠ some t := fun h => e2 (hapart i o ho' t h j p hp' ht)
          rw [G.slot_put_ne a o.dst t x hne]
          exact hR j _ _ _ (hsl j p hp' hjk hjl t ht) hb'
      have hgo := hwr.go a ha'
      unfold wpList at hgo
      rcases hph with ⟨h1, rfl⟩ | ⟨h1, hrun⟩
      · -- ahead of the store
        have hk1 : (listed.setIfInBounds i true).getD k true = false := by rw [set_get listed i k hi, if_neg e]; exact h1
        split
        · rename_i hwant
          rw [if_pos hwant] at hgo
          rcases hgo with hgo | ⟨_, a', w'', hl⟩
          · have h2 := upon_put (Q := Q) (fun a' w'' h => by rw [h.1, ha.defers]) (show o.upon P a _ (onlyK _) _ from hgo)
            refine Oper.wp_mono (fun a' w'' ⟨v, hav, _, hb', hr⟩ => ⟨v, hav, w'', hb.trans (hb'.mono hb.size), ?_, .inl ⟨hk1, rfl⟩⟩) h2
            subst hav
            refine next v w'' ?_ hb'
            cases hd : o.dst with
            | none => trivial
            | some d =>
              rw [hd] at hr
              dsimp only at hr ⊢
              rwa [G.slot_put a d v (by rw [ha.size]; exact hdst i o ho' d hd)] at hr
          · exact hl.elim
        · rename_i hwant
          rw [if_neg hwant] at hgo
          obtain ⟨_, hb', hr⟩ := hgo
          refine ⟨wp, hb, next undef wp ?_ (Below.refl _ _), .inl ⟨hk1, rfl⟩⟩
          cases hd : o.dst with
          | none => trivial
          | some d =>
            rw [hd] at hr
            dsimp only at hr ⊢
            rwa [G.slot_put a d undef (by rw [ha.size]; exact hdst i o ho' d hd)] at hr
      · -- behind it
        have hk1 : (listed.setIfInBounds i true).getD k true = true := by rw [set_get listed i k hi, if_neg e]; exact h1
        have hil : late.any (Nat.beq i) = true := by
          have := List.all_eq_true.1 hanc i (List.mem_range.2 hlt)
          rw [Bool.or_eq_true, Bool.or_eq_true] at this
          rcases this with (h | h) | h
          · exact absurd (Nat.eq_of_beq_eq_true h) e
          · exfalso
            have := G.ancM_spec (S := fun j => listed.getD j true = true) (fun j q hq hl e he hbd => hcl j q (by simpa using hq) hl e he hbd) k pv hpv (fun e he hbd => hcl k pv (by simpa using hpv) h1 e he hbd) i h
            rw [hnl] at this; cases this
          · exact h
        obtain ⟨m, hm, hmi⟩ := List.any_eq_true.1 hil
        obtain rfl : i = m := Nat.eq_of_beq_eq_true hmi
        have hlt2 := List.all_eq_true.1 hlate i hm
        rw [ho'] at hlt2
        simp only [Bool.and_eq_true] at hlt2
        obtain ⟨hext, hread⟩ := hlt2
        have hwant : ∀ y, Region.wanted o y = true := fun y => wanted_none (by unfold isExt at hext; simp only [Bool.and_eq_true] at hext; exact hext.2) y
        rw [if_pos (hwant _)] at hgo ⊢
        rcases hgo with hgo | ⟨_, a', w'', hl⟩
        · unfold Oper.wp at hgo ⊢
          cases hr : (execOp a.eval o).run P wp with
          | halt x w1 => rw [hr] at hgo; cases x <;> simp [Oper.upon, onlyK] at hgo
          | ok nx w1 =>
            obtain ⟨rfl, ⟨v, rfl⟩, hany⟩ := ext_run hext hr
            rw [hr] at hgo
            rw [hany w']
            simp only [Oper.upon, onlyK] at hgo ⊢
            obtain ⟨_, hb', hr'⟩ := hgo
            refine ⟨v, rfl, w1, hb, next v w1 ?_ (Below.refl _ _), .inr ⟨hk1, ?_⟩⟩
            · cases hd : o.dst with
              | none => trivial
              | some d =>
                rw [hd] at hr'
                dsimp only at hr' ⊢
                rwa [G.slot_put a d v (by rw [ha.size]; exact hdst i o ho' d hd)] at hr'
            · rw [execOp_put (ops := #[]) pv hsel a o.dst v (fun d hd hmem => by
                rw [hd] at hread
                dsimp only at hread
                rw [Bool.not_eq_true'] at hread
                have := List.any_eq_false.1 hread d hmem
                simp at this)]
              exact hrun
        · exact hl.elim
  · have ha := hfr a hs
    have hkl : listed.getD k true = true := hall k (by simpa using (List.getElem?_eq_some_iff.1 hpv).1)
    rcases hph with ⟨h1, _⟩ | ⟨_, hrun⟩
    · rw [hkl] at h1; cases h1
    · obtain ⟨L', ha', w'', hsk, he⟩ := need_of (List.range l.length) L ha (small _) (known hsl _ (fun i hi => hall i (by simpa using List.mem_range.1 hi))) (fin wp hb)
      have h2 := hsk a ha'
      rw [hrun] at h2
      cases h2
      exact he.go a ha'
  · have hlt := (List.getElem?_eq_some_iff.1 hp).1
    simp [Array.getD, hlt] at hl
theorem W.drawsLate {id : Nat} {l : List Oper} (k m : Nat) (pv : Oper) (late : List Nat) (js js2 : List (List Nat)) (jp : List Nat) (Rs : List (World → Value → Prop)) (hm : P.follows .mixedOrders = true) (hpv : (l.take m)[k]? = some pv) (hok : G.okB (l.take m) 0 [] n = true) (hfree : freeB L (l.take m) = true) (hw : waitsB ((l.take m).take k) js = true) (hw2 : waitsB ((l.take m).drop (k + 1)) js2 = true) (hwp : waitsB [pv] [jp] = true)
    (hl : lateB (l.take m) k late = true) (hB : G.splitB l m = true)
    (hR : AllStab Rs) (step : Steps P n D (l.take m) Rs w L 0 ((l.take m).take k) js) (step2 : Steps P n D (l.take m) Rs w L (k + 1) ((l.take m).drop (k + 1)) js2)
    (hp : ∀ w', Below w.heap.size w w' → Need Rs (l.take m) w' (fun L' => ∃ w'', Sk P n D pv L' w' w'') jp L)
    (fin : ∀ w', Below w.heap.size w w' → Need Rs (l.take m) w' (fun L' => ∃ w'', Sk P n D pv L' w' w'' ∧ WR P n D l.toArray (l.drop m) L' w'' Q) (List.range (l.take m).length) L) : W P n D (.region id l.toArray true) L w Q :=
  ⟨fun a ha => G.region_split m hm hB (any_late (Q := G.tailQ P l m Q) late js js2 jp Rs hpv hok hfree hw hw2 hwp hl (allStab_get hR) step step2 hp (fun w' hb => need_mono (fin w' hb) (fun L' ⟨w'', h1, h2⟩ => ⟨w'', h1, ⟨h2.go⟩⟩)) a ha)⟩
/-- A store of a whole, said by what it leaves. -/
theorem Sk.storeAgg {t : TypeId} {x y : Operand} {ty : TypeId} {pos : String} {after : Array Edge} {G : World → Prop} {b k : Nat} {cs cs' : List Value} [S : Siz P t k] (hb : Box w b cs) (hx : evo L x = some (.pointer (some ⟨b, 0, none⟩))) (hy : evo L y = some (.agg cs'.toArray)) (hk : cs.length = k) (hk' : cs'.length = k) (h1 : ∀ u ∈ cs', u.oneCell' = true)
    (h : ∀ w', Upd (· = b) w w' → Box w' b cs' → w'.heap.size = w.heap.size → G w') : ∃ w'', Sk P n D ⟨none, .store t x y, ty, pos, after, none⟩ L w w'' ∧ G w'' := by
  obtain ⟨e, hh⟩ := hb
  have hr := run_storeVar_row (P := P) w b e t cs.toArray cs'.toArray hh (by rw [S.h]; simp [hk']) (by simp [hk, hk']) (all_oneCell_toArray h1)
  refine ⟨w.setRow b cs'.toArray, fun a ha => ?_, h _ (upd_setRow _ _ _) ⟨e, setRow_heap _ _ _ _ _ _ hh⟩ (size_setRow _ _ _)⟩
  unfold execOp
  simp only [ha.ev hx, ha.ev hy, Instr.storeAt, Instr.sureAddr, Sem.run_bind, Sem.run_pure, Result.andThen_ok, hr]
/-- .. the same, of it only that it can be done. -/
theorem Sk.agg {t : TypeId} {x y : Operand} {ty : TypeId} {pos : String} {after : Array Edge} {b k : Nat} {cs cs' : List Value} [S : Siz P t k] (hb : Box w b cs) (hx : evo L x = some (.pointer (some ⟨b, 0, none⟩))) (hy : evo L y = some (.agg cs'.toArray)) (hk : cs.length = k) (hk' : cs'.length = k) (h1 : ∀ u ∈ cs', u.oneCell' = true) : ∃ w'', Sk P n D ⟨none, .store t x y, ty, pos, after, none⟩ L w w'' := by
  exact (Sk.storeAgg (P := P) (n := n) (D := D) (t := t) (G := fun _ => True) hb hx hy hk hk' h1 (fun _ _ _ _ => trivial)).imp fun _ h => h.1
end
end Go.Proofs.Ytjgobljclodpfaa.E
