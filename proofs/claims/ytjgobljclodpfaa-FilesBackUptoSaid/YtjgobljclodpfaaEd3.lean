/- A region that draws its order and turns memory on its way: those that turn it come in one order, the others stand anywhere between them. No condition. -/
import Derived.Test.YtjgobljclodpfaaEd
import Derived.Test.YtjgobljclodpfaaG6
namespace Go.Proofs.Ytjgobljclodpfaa.E
open Go Go.RowKit K
set_option linter.unusedVariables false
set_option linter.unusedSimpArgs false

section
variable {P : Program} {n : Nat} {D : List Deferred} {L : Slots} {w : World} {Q : Exit → Act → World → Prop}

/-- What is known of slot k, the turning operations mu having left vs. -/
def mslot : List Nat → List Value → Nat → (World → Value → Prop) → (World → Value → Prop)
  | m :: mu, v :: vs, k, R => bif Nat.beq m k then (fun _ x => x = v) else mslot mu vs k R
  | [], _, _, R => R
  | _ :: _, [], _, R => R
def rsAt (mu : List Nat) (vs : List Value) : Nat → List (World → Value → Prop) → List (World → Value → Prop)
  | _, [] => []
  | k, R :: r => mslot mu vs k R :: rsAt mu vs (k + 1) r
def Vals : Nat → (List Value → Prop) → Prop
  | 0, f => f []
  | s + 1, f => ∀ v, Vals s (fun vs => f (v :: vs))
theorem vals_all : ∀ {s : Nat} {f : List Value → Prop}, Vals s f → ∀ vs, vs.length = s → f vs
  | 0, f, h, [], _ => h
  | s + 1, f, h, v :: vs, hl => vals_all (h v) vs (by simpa using hl)
/-- Each stage from lo on, c of them. -/
def Stages (f : List Value → Prop) : Nat → Nat → Prop
  | _, 0 => True
  | lo, c + 1 => Vals lo f ∧ Stages f (lo + 1) c
theorem stages_all {f : List Value → Prop} : ∀ {c lo : Nat}, Stages f lo c → ∀ vs : List Value, lo ≤ vs.length → vs.length < lo + c → f vs
  | 0, lo, _, vs, h1, h2 => by omega
  | c + 1, lo, ⟨h1, h2⟩, vs, a, b => by
    by_cases e : vs.length = lo
    · exact vals_all h1 vs e
    · exact stages_all h2 vs (by omega) (by omega)

theorem rsAt_get (mu : List Nat) (vs : List Value) : ∀ (Rs : List (World → Value → Prop)) (k i : Nat), i < Rs.length → (rsAt mu vs k Rs).getD i (fun _ _ => True) = mslot mu vs (k + i) (Rs.getD i (fun _ _ => True))
  | [], k, i, h => by simp at h
  | R :: r, k, 0, _ => rfl
  | R :: r, k, i + 1, h => by
    have := rsAt_get mu vs r (k + 1) i (by simpa using h)
    rw [show k + 1 + i = k + (i + 1) from by omega] at this
    simpa [rsAt] using this
theorem mslot_other : ∀ {mu : List Nat} {vs : List Value} {k : Nat} {R : World → Value → Prop}, (∀ j, j < vs.length → mu[j]? ≠ some k) → mslot mu vs k R = R
  | [], vs, k, R, _ => by cases vs <;> rfl
  | _ :: _, [], k, R, _ => rfl
  | m :: mu, v :: vs, k, R, h => by
    have h0 : m ≠ k := fun e => h 0 (by simp) (by simp [e])
    have hb : Nat.beq m k = false := by rw [← Bool.not_eq_true]; exact fun e => h0 (Nat.eq_of_beq_eq_true e)
    unfold mslot
    rw [hb]
    exact mslot_other fun j hj => by have := h (j + 1) (by simpa using hj); simpa using this
theorem mslot_at : ∀ {mu : List Nat} {vs : List Value} {k j : Nat} {v : Value} {R : World → Value → Prop}, mu.Nodup → mu[j]? = some k → vs[j]? = some v → mslot mu vs k R = fun _ x => x = v
  | [], vs, k, j, v, R, _, h, _ => by simp at h
  | _ :: _, [], k, j, v, R, _, _, h => by simp at h
  | m :: mu, u :: vs, k, 0, v, R, hn, h1, h2 => by
    obtain rfl : m = k := by simpa using h1
    obtain rfl : u = v := by simpa using h2
    unfold mslot
    rw [Nat.beq_refl]; rfl
  | m :: mu, u :: vs, k, j + 1, v, R, hn, h1, h2 => by
    have h0 : m ≠ k := fun e => (List.nodup_cons.1 hn).1 (e ▸ List.mem_of_getElem? (by simpa using h1))
    have hb : Nat.beq m k = false := by rw [← Bool.not_eq_true]; exact fun e => h0 (Nat.eq_of_beq_eq_true e)
    unfold mslot
    rw [hb]
    exact mslot_at (List.nodup_cons.1 hn).2 (by simpa using h1) (by simpa using h2)

/-- What a turning operation is asked for. -/
structure OneM (K : Act → World → Prop) (n : Nat) (D : List Deferred) (S : Nat → Prop) (w : World) (dst : Option Tmp) (J : Value → World → Prop) : Prop where
  go : ∀ L' w' v, (match dst with | none => True | some d => look L' d = some v) → J v w' → Upd S w w' → ∀ a, Fr n D L' a → K a w'
theorem Ends.oneM {K : Act → World → Prop} {S : Nat → Prop} {w0 : World} {d : Nat} {J : Value → World → Prop} {v : Value} (hK : OneM K n D S w0 (some d) J) (hv : look L d = some v) (hj : J v w) (hu : Upd S w0 w) : Ends n D .normal L w (onlyK K) :=
  ⟨fun a ha => hK.go L w v hv hj hu a ha⟩
theorem Ends.oneM0 {K : Act → World → Prop} {S : Nat → Prop} {w0 : World} {J : Value → World → Prop} (hK : OneM K n D S w0 none J) (v : Value) (hj : J v w) (hu : Upd S w0 w) : Ends n D .normal L w (onlyK K) :=
  ⟨fun a ha => hK.go L w v trivial hj hu a ha⟩

/-- An operation's duty, the turning ones having left vs. -/
def Duty (P : Program) (n : Nat) (D : List Deferred) (l : List Oper) (Rs : List (World → Value → Prop)) (mu : List Nat) (J : List Value → World → Prop) (S : Nat → Prop) (w0 : World) (L : Slots) (k : Nat) (o : Oper) (j : List Nat) (vs : List Value) : Prop :=
  ∀ w, Upd S w0 w → J vs w → ∀ K,
    (bif mu.any (Nat.beq k) then OneM K n D S w o.dst (fun v => J (vs ++ [v])) else One K n D w o.dst (Rs.getD k (fun _ _ => True))) → Need (rsAt mu vs 0 Rs) l w (fun L' => WR P n D l.toArray [o] L' w (onlyK K)) j L
def Steps3 (P : Program) (n : Nat) (D : List Deferred) (l : List Oper) (Rs : List (World → Value → Prop)) (mu : List Nat) (J : List Value → World → Prop) (S : Nat → Prop) (w0 : World) (L : Slots) : Nat → List Oper → List (List Nat) → List (Nat × Nat) → Prop
  | _, [], _, _ => True
  | _, _ :: _, [], _ => False
  | _, _ :: _, _ :: _, [] => False
  | k, o :: r, j :: js, b :: bs => Stages (Duty P n D l Rs mu J S w0 L k o j) b.1 b.2 ∧ Steps3 P n D l Rs mu J S w0 L (k + 1) r js bs
/-- The stages at which an operation may come up: at least b.1, b.2 of them. -/
def boundsB (l : List Oper) (mu : List Nat) : Nat → List Oper → List (Nat × Nat) → Bool
  | _, [], _ => true
  | _, _ :: _, [] => false
  | k, _ :: r, b :: bs => (match b.1 with | 0 => true | lo + 1 => match mu[lo]? with | some m => (G.ancM l k).testBit m | none => false) &&
      (match mu[b.1 + b.2 - 1]? with | none => decide (mu.length < b.1 + b.2) | some m => decide (0 < b.1 + b.2) && (Nat.beq m k || (G.ancM l m).testBit k)) && (bif mu.any (Nat.beq k) then Nat.beq b.2 1 && (match mu[b.1]? with | some m => Nat.beq m k | none => false) else true) && boundsB l mu (k + 1) r bs
def noDup : List Nat → Bool
  | [] => true
  | x :: r => !r.any (Nat.beq x) && noDup r
theorem noDup_spec : ∀ {l : List Nat}, noDup l = true → l.Nodup
  | [], _ => List.nodup_nil
  | x :: r, h => by
    simp only [noDup, Bool.and_eq_true, Bool.not_eq_true', List.any_eq_false] at h
    exact List.nodup_cons.2 ⟨fun hm => h.1 x hm (Nat.beq_refl x), noDup_spec h.2⟩

theorem steps3_get {l : List Oper} {Rs : List (World → Value → Prop)} {mu : List Nat} {J : List Value → World → Prop} {S : Nat → Prop} {w0 : World} : ∀ (r : List Oper) (js : List (List Nat)) (bs : List (Nat × Nat)) (k : Nat), Steps3 P n D l Rs mu J S w0 L k r js bs → waitsB r js = true → boundsB l mu k r bs = true → ∀ (i : Nat) (o : Oper), r[i]? = some o →
    ∃ (j : List Nat) (lo c : Nat), (∀ i ∈ j, ∃ e ∈ o.after, Region.binds .any e = true ∧ e.on = i) ∧ Stages (Duty P n D l Rs mu J S w0 L (k + i) o j) lo c ∧ (∀ q, lo = q + 1 → ∃ m, mu[q]? = some m ∧ (G.ancM l (k + i)).testBit m = true) ∧
      ((mu[lo + c - 1]? = none ∧ mu.length < lo + c) ∨ ∃ m, mu[lo + c - 1]? = some m ∧ 0 < lo + c ∧ (m = k + i ∨ (G.ancM l m).testBit (k + i) = true)) ∧ (mu.any (Nat.beq (k + i)) = true → c = 1 ∧ mu[lo]? = some (k + i))
  | [], js, bs, k, _, _, _, i, o, h => by simp at h
  | p :: r, [], bs, k, h, _, _, _, _, _ => h.elim
  | p :: r, j :: js, [], k, h, _, _, _, _, _ => h.elim
  | p :: r, j :: js, b :: bs, k, ⟨h1, h2⟩, hw, hb, i, o, h => by
    simp only [waitsB, Bool.and_eq_true] at hw
    simp only [boundsB, Bool.and_eq_true] at hb
    cases i with
    | zero =>
      obtain rfl : p = o := by simpa using h
      refine ⟨j, b.1, b.2, fun i hi => ?_, h1, fun q hq => ?_, ?_, fun hm => ?_⟩
      · have := List.all_eq_true.1 hw.1 i hi
        rw [Array.any_eq_true] at this
        obtain ⟨x, hx, h⟩ := this
        rw [Bool.and_eq_true] at h
        exact ⟨p.after[x], Array.getElem_mem hx, h.1, Nat.eq_of_beq_eq_true h.2⟩
      · have := hb.1.1.1
        rw [hq] at this
        dsimp only at this
        cases hm : mu[q]? with
        | none => rw [hm] at this; cases this
        | some m => rw [hm] at this; exact ⟨m, rfl, this⟩
      · have := hb.1.1.2
        cases hm : mu[b.1 + b.2 - 1]? with
        | none => rw [hm] at this; exact .inl ⟨rfl, of_decide_eq_true this⟩
        | some m =>
          rw [hm] at this
          simp only [Bool.and_eq_true, decide_eq_true_eq, Bool.or_eq_true] at this
          exact .inr ⟨m, rfl, this.1, this.2.imp (fun h => Nat.eq_of_beq_eq_true h) id⟩
      · have := hb.1.2
        rw [show mu.any (Nat.beq k) = true from hm] at this
        simp only [cond_true, Bool.and_eq_true] at this
        refine ⟨Nat.eq_of_beq_eq_true this.1, ?_⟩
        have h3 := this.2
        cases hm : mu[b.1]? with
        | none => rw [hm] at h3; cases h3
        | some m => rw [hm] at h3; rw [Nat.eq_of_beq_eq_true h3]; rfl
    | succ i =>
      have := steps3_get r js bs (k + 1) h2 hw.2 hb.2 i o (by simpa using h)
      rwa [show k + 1 + i = k + (i + 1) from by omega] at this

def Stab3 (S : Nat → Prop) (R : World → Value → Prop) : Prop := ∀ (w w' : World) (v : Value), R w v → Upd S w w' → R w' v
theorem stab3_is (S : Nat → Prop) (x : Value) : Stab3 S (is x) := fun _ _ _ h _ => h
def AllStab3 (S : Nat → Prop) : List (World → Value → Prop) → Prop
  | [] => True
  | R :: Rs => Stab3 S R ∧ AllStab3 S Rs
theorem allStab3_get {S : Nat → Prop} : ∀ {Rs : List (World → Value → Prop)}, AllStab3 S Rs → ∀ (k : Nat), Stab3 S (Rs.getD k (fun _ _ => True))
  | [], _, k => fun w w' v h hb => trivial
  | R :: Rs, ⟨h1, _⟩, 0 => h1
  | R :: Rs, ⟨_, h2⟩, k + 1 => allStab3_get h2 k

/-- What holds while the region is under way. -/
structure Inv3 (n : Nat) (D : List Deferred) (l : List Oper) (Rs : List (World → Value → Prop)) (mu : List Nat) (J : List Value → World → Prop) (S : Nat → Prop) (w0 : World) (listed : Array Bool) (a : Act) (w : World) (vs : List Value) : Prop where
  upd : Upd S w0 w
  j : J vs w
  len : vs.length ≤ mu.length
  turned : ∀ q m, mu[q]? = some m → listed.getD m true = decide (q < vs.length)
  slot : ∀ (i : Nat) (o : Oper), l[i]? = some o → listed.getD i true = true → ∀ t, o.dst = some t → (mslot mu vs i (Rs.getD i (fun _ _ => True))) w (G.slot a (some t))
theorem any_core3 {S : Nat → Prop} {l : List Oper} (js : List (List Nat)) (bs : List (Nat × Nat)) (Rs : List (World → Value → Prop)) (mu : List Nat) (J : List Value → World → Prop) (hok : G.okB l 0 [] n = true) (hfree : freeB L l = true) (hw : waitsB l js = true) (hbs : boundsB l mu 0 l bs = true) (hmu : (noDup mu && mu.all (Nat.blt · l.length)) = true) (hlen : Rs.length = l.length)
    (hR : AllStab3 S Rs) (hJ : ∀ vs w w', J vs w → Below w.heap.size w w' → J vs w') (hJ0 : J [] w)
    (step : Steps3 P n D l Rs mu J S w L 0 l js bs)
    (fin : Vals mu.length fun vs => ∀ w', Upd S w w' → J vs w' → Need (rsAt mu vs 0 Rs) l w' (fun L' => Ends n D .normal L' w' Q) (List.range l.length) L) (a0 : Act) (ha0 : Fr n D L a0) : wpAny P .any l.toArray Q l.toArray.size (Array.replicate l.toArray.size false) a0 w.drew := by
  rw [Bool.and_eq_true] at hmu
  have hnd := noDup_spec hmu.1
  have hmi : ∀ (q m : Nat), mu[q]? = some m → m < l.length := fun q m hm => Nat.le_of_ble_eq_true (List.all_eq_true.1 hmu.2 m (List.mem_of_getElem? hm))
  have hdst : ∀ (i : Nat) (o : Oper), l[i]? = some o → ∀ t, o.dst = some t → t < n := fun i o ho t ht => by
    have := (G.okB_spec l 0 [] n hok i o ho).1 t ht
    exact this.1
  have hapart : ∀ (i : Nat) (o : Oper), l[i]? = some o → ∀ t, o.dst = some t → ∀ (j : Nat) (p : Oper), l[j]? = some p → p.dst = some t → i = j := fun i o ho t ht j p hp hpt => ((G.okB_spec l 0 [] n hok i o ho).1 t ht).2.2 j p hp hpt
  have hfr : ∀ a, G.Same l.toArray a0 a → Fr n D L a := fun a hs => ⟨by rw [hs.size, ha0.size], by rw [hs.defers, ha0.defers], fun t v ht => by
    have h1 := ha0.vals t v ht
    have hmem : ∃ p ∈ L, p.1 = t := by
      clear h1 hfree step fin ha0
      induction L with
      | nil => cases ht
      | cons p L ih =>
        obtain ⟨s, u⟩ := p
        by_cases e : s = t
        · exact ⟨_, List.mem_cons_self .., e⟩
        · rw [look_cons_ne e] at ht
          obtain ⟨p, hp, h⟩ := ih ht
          exact ⟨p, List.mem_cons_of_mem _ hp, h⟩
    obtain ⟨p, hp, rfl⟩ := hmem
    have h2 := hs.other p.1 (fun i o ho e => by
      have := List.all_eq_true.1 (List.all_eq_true.1 hfree p hp) o (List.mem_of_getElem? (by simpa using ho))
      rw [e] at this
      simp at this)
    have hsz : p.1 < a.tmps.size := by rw [hs.size]; exact (Array.getElem?_eq_some_iff.1 h1).1
    simp only [G.slot, h1, Option.getD_some] at h2
    simp only [Array.getElem?_eq_getElem hsz, Option.getD_some] at h2
    rw [Array.getElem?_eq_getElem hsz, h2]⟩
  have hlt : ∀ (i : Nat) (o : Oper), l[i]? = some o → i < Rs.length := fun i o ho => by rw [hlen]; exact (List.getElem?_eq_some_iff.1 ho).1
  have set_get : ∀ (listed : Array Bool) (i j : Nat), i < listed.size → (listed.setIfInBounds i true).getD j true = if i = j then true else listed.getD j true := by
    intro listed i j hi
    by_cases hj : j < listed.size
    · simp only [Array.getD, Array.size_setIfInBounds, hj, ↓reduceDIte, Array.getInternal_eq_getElem, Array.getElem_setIfInBounds]
    · have : i ≠ j := by omega
      simp [Array.getD, hj, this]
  -- what is known of the slots of what has been done
  have known : ∀ {listed : Array Bool} {a : Act} {w' : World} {vs : List Value}, Inv3 n D l Rs mu J S w listed a w' vs → ∀ j : List Nat, (∀ i ∈ j, listed.getD i true = true) → ∀ i ∈ j, ∀ t, dstOf l i = some t → ((rsAt mu vs 0 Rs).getD i (fun _ _ => True)) w' (G.slot a (some t)) := by
    intro listed a w' vs I j hj i hi t ht
    unfold dstOf at ht
    cases hl : l[i]? with
    | none => rw [hl] at ht; cases ht
    | some p =>
      rw [hl] at ht
      rw [rsAt_get mu vs Rs 0 i (hlt i p hl), Nat.zero_add]
      exact I.slot i p hl (hj i hi) t ht
  have small : ∀ j : List Nat, ∀ t, (∃ i ∈ j, dstOf l i = some t) → t < n := fun j t ⟨i, _, ht⟩ => by
    unfold dstOf at ht
    cases hl : l[i]? with
    | none => rw [hl] at ht; cases ht
    | some p => rw [hl] at ht; exact hdst _ p hl t ht
  refine G.any_gen (P := P) (ops := l.toArray) (Q := Q) (a0 := a0) (by rw [ha0.size]; simpa using hok) (fun listed a w' => ∃ vs, Inv3 n D l Rs mu J S w listed a w' vs) (fun i o ho listed a w' hsz hnl hcl hpre hs ⟨vs, I⟩ => ?_) (fun listed a w' hsz hall hs ⟨vs, I⟩ => ?_) ⟨[], ⟨⟨rfl, rfl, rfl, Nat.le_refl _, fun _ _ _ => rfl⟩, hJ _ _ _ hJ0 ⟨rfl, rfl, rfl, Nat.le_refl _, fun _ _ => rfl⟩, Nat.zero_le _, fun q m hm => ?_, fun i o ho hl => ?_⟩⟩
  rotate_left 2
  · have hm' : m < l.length := hmi q m hm
    simp [Array.getD, hm']
  · have hlt := (List.getElem?_eq_some_iff.1 ho).1
    simp [Array.getD, hlt] at hl
  · have ho' : l[i]? = some o := by simpa using ho
    have hi : i < listed.size := by rw [hsz]; exact (Array.getElem?_eq_some_iff.1 ho).1
    have ha := hfr a hs
    obtain ⟨j, lo, c, hj, hst, hlo, hhi, hmut⟩ := steps3_get l js bs 0 step hw hbs i o ho'
    rw [Nat.zero_add] at hst hlo hhi hmut
    -- the stage
    have anc : ∀ (k : Nat) (p : Oper), l[k]? = some p → (∀ e ∈ p.after, Region.binds .any e = true → listed.getD e.on true = true) → ∀ b, (G.ancM l k).testBit b = true → listed.getD b true = true := fun k p hp hk b hb =>
      G.ancM_spec (S := fun j => listed.getD j true = true) (fun j q hq hl e he hbd => hcl j q (by simpa using hq) hl e he hbd) k p hp hk b hb
    have h1 : lo ≤ vs.length := by
      cases lo with
      | zero => exact Nat.zero_le _
      | succ q =>
        obtain ⟨m, hm, hb⟩ := hlo q rfl
        have := I.turned q m hm
        rw [anc i o ho' hpre m hb] at this
        have := of_decide_eq_true this.symm
        omega
    have h2 : vs.length < lo + c := by
      rcases hhi with ⟨_, h⟩ | ⟨m, hm, h0, h⟩
      · have := I.len; omega
      · have ht := I.turned _ m hm
        have hf : listed.getD m true = false := by
          rcases h with rfl | h
          · exact hnl
          · cases hl : listed.getD m true with
            | false => rfl
            | true =>
              exfalso
              cases hlm : l[m]? with
              | none =>
                have : G.ancM l m = 0 := by
                  unfold G.ancM
                  rw [hlm]
                  simp only [Option.map_none, Option.getD_none]
                  generalize (List.range m).reverse = r
                  induction r with
                  | nil => rfl
                  | cons x r ih => simpa using ih
                rw [this] at h
                simp at h
              | some p =>
                have := anc m p hlm (hcl m p (by simpa using hlm) hl) i h
                rw [hnl] at this
                cases this
        rw [hf] at ht
        have := of_decide_eq_false ht.symm
        omega
    have hdu := stages_all hst vs h1 h2
    unfold Duty at hdu
    have hpred : ∀ i' ∈ j, listed.getD i' true = true := fun i' hi' => by
      obtain ⟨e, he, hb, rfl⟩ := hj i' hi'
      exact hpre e he hb
    by_cases hm : mu.any (Nat.beq i) = true
    · -- it turns memory
      obtain ⟨rfl, hmi⟩ := hmut hm
      obtain rfl : vs.length = lo := by omega
      rw [hm] at hdu
      have hst := hdu w' I.upd I.j (fun a' w'' => a'.defers = D ∧ Upd S w' w'' ∧ ∃ v, (match o.dst with | none => True | some d => G.slot a' (some d) = v) ∧ J (vs ++ [v]) w'') ⟨fun L' w'' v hv hjv hu a' ha' => ⟨ha'.defers, hu, v, by
        cases hd : o.dst with
        | none => trivial
        | some d =>
          rw [hd] at hv
          have h1 := ha'.vals d v hv
          simp only [G.slot, h1, Option.getD_some], hjv⟩⟩
      obtain ⟨L', ha', hwr⟩ := need_of j L ha (small j) (known I j hpred) hst
      have next : ∀ (x v : Value) (w'' : World), (match o.dst with | none => True | some d => x = v) → Upd S w' w'' → J (vs ++ [v]) w'' → Inv3 n D l Rs mu J S w (listed.setIfInBounds i true) (a.put o.dst x) w'' (vs ++ [v]) := by
        intro x v w'' hx hu hjv
        refine ⟨I.upd.trans hu (fun b _ h => h), hjv, ?_, fun q m hq => ?_, fun k p hp hl t ht => ?_⟩
        · have := (List.getElem?_eq_some_iff.1 hmi).1; simp; omega
        · rw [set_get listed i m hi, List.length_append, List.length_singleton]
          by_cases e : i = m
          · subst e
            have : q = vs.length := by
              have h3 := (List.getElem?_eq_some_iff.1 hq); have h4 := (List.getElem?_eq_some_iff.1 hmi)
              obtain ⟨h3, h3'⟩ := h3; obtain ⟨h4, h4'⟩ := h4
              exact (List.getElem_inj hnd).1 (h3'.trans h4'.symm)
            rw [if_pos rfl]; simp [this]
          · rw [if_neg e, I.turned q m hq]
            have : q ≠ vs.length := fun h => e (by subst h; rw [hmi] at hq; exact Option.some.inj hq)
            by_cases h5 : q < vs.length
            · simp [h5]; omega
            · simp [h5]; omega
        · rw [set_get listed i k hi] at hl
          by_cases e : i = k
          · subst e
            obtain rfl : o = p := by rw [ho'] at hp; exact Option.some.inj hp
            rw [mslot_at (v := v) hnd hmi (by simp), ht, G.slot_put a t x (by rw [ha.size]; exact hdst i o ho' t ht)]
            rw [ht] at hx; exact hx
          · rw [if_neg e] at hl
            have hne : o.dst ≠ some t := fun h => e (hapart i o ho' t h k p hp ht)
            rw [G.slot_put_ne a o.dst t x hne]
            have h6 := I.slot k p hp hl t ht
            by_cases h7 : ∃ q, q < vs.length ∧ mu[q]? = some k
            · obtain ⟨q, hq, hqk⟩ := h7
              have hv : vs[q]? = some vs[q] := List.getElem?_eq_getElem hq
              rw [mslot_at hnd hqk hv] at h6
              rw [mslot_at hnd hqk (by rw [List.getElem?_append_left hq]; exact hv)]
              exact h6
            · rw [mslot_other (fun q hq h => h7 ⟨q, hq, h⟩)] at h6
              rw [mslot_other (fun q hq h => by
                rw [List.length_append, List.length_singleton] at hq
                by_cases h8 : q < vs.length
                · exact h7 ⟨q, h8, h⟩
                · obtain rfl : q = vs.length := by omega
                  rw [hmi] at h; exact e (Option.some.inj h))]
              exact allStab3_get hR k _ _ _ h6 hu
      have hgo := hwr.go a ha'
      unfold wpList at hgo
      split
      · rename_i hwant
        rw [if_pos hwant] at hgo
        rcases hgo with hgo | ⟨_, a', w'', hl⟩
        · have h2 := upon_put (Q := Q) (fun a' w'' h => by rw [h.1, ha.defers]) (show o.upon P a _ (onlyK _) _ from hgo)
          refine Oper.wp_mono (fun a' w'' ⟨x, hav, _, hu, v, hv, hjv⟩ => ⟨x, hav, vs ++ [v], ?_⟩) h2
          subst hav
          refine next x v w'' ?_ hu hjv
          cases hd : o.dst with
          | none => trivial
          | some d =>
            rw [hd] at hv
            dsimp only at hv ⊢
            rwa [G.slot_put a d x (by rw [ha.size]; exact hdst i o ho' d hd)] at hv
        · exact hl.elim
      · rename_i hwant
        rw [if_neg hwant] at hgo
        obtain ⟨_, hu, v, hv, hjv⟩ := hgo
        refine ⟨_, next undef v w' ?_ hu hjv⟩
        cases hd : o.dst with
        | none => trivial
        | some d =>
          rw [hd] at hv
          dsimp only at hv ⊢
          rwa [G.slot_put a d undef (by rw [ha.size]; exact hdst i o ho' d hd)] at hv
    · -- it does not
      have hm' : mu.any (Nat.beq i) = false := by rwa [Bool.not_eq_true] at hm
      rw [hm'] at hdu
      have hst := hdu w' I.upd I.j (fun a' w'' => a'.defers = D ∧ Below w'.heap.size w' w'' ∧ (match o.dst with | none => True | some d => (Rs.getD i (fun _ _ => True)) w'' (G.slot a' (some d)))) ⟨fun L' w'' v hv hr hb' a' ha' => ⟨ha'.defers, hb', by
        cases hd : o.dst with
        | none => trivial
        | some d =>
          rw [hd] at hv hr
          have h1 := ha'.vals d v hv
          simp only [G.slot, h1, Option.getD_some]
          exact hr (by simp)⟩⟩
      obtain ⟨L', ha', hwr⟩ := need_of j L ha (small j) (known I j hpred) hst
      have hni : ∀ q m, mu[q]? = some m → i ≠ m := fun q m hq e => by
        have := List.any_eq_false.1 hm' m (List.mem_of_getElem? hq)
        rw [e, Nat.beq_refl] at this; exact this rfl
      have next : ∀ (x : Value) (w'' : World), (match o.dst with | none => True | some d => (Rs.getD i (fun _ _ => True)) w'' x) → Below w'.heap.size w' w'' → Inv3 n D l Rs mu J S w (listed.setIfInBounds i true) (a.put o.dst x) w'' vs := by
        intro x w'' hx hb
        refine ⟨I.upd.trans (Upd.of_below hb) (fun b _ h => h), hJ _ _ _ I.j hb, I.len, fun q m hq => ?_, fun k p hp hl t ht => ?_⟩
        · rw [set_get listed i m hi, if_neg (hni q m hq)]; exact I.turned q m hq
        · rw [set_get listed i k hi] at hl
          by_cases e : i = k
          · subst e
            obtain rfl : o = p := by rw [ho'] at hp; exact Option.some.inj hp
            rw [mslot_other (fun q hq h => hni q i h rfl), ht, G.slot_put a t x (by rw [ha.size]; exact hdst i o ho' t ht)]
            rw [ht] at hx; exact hx
          · rw [if_neg e] at hl
            have hne : o.dst ≠ some t := fun h => e (hapart i o ho' t h k p hp ht)
            rw [G.slot_put_ne a o.dst t x hne]
            have h6 := I.slot k p hp hl t ht
            by_cases h7 : ∃ q, q < vs.length ∧ mu[q]? = some k
            · obtain ⟨q, hq, hqk⟩ := h7
              have hv : vs[q]? = some vs[q] := List.getElem?_eq_getElem hq
              rw [mslot_at hnd hqk hv] at h6 ⊢
              exact h6
            · rw [mslot_other (fun q hq h => h7 ⟨q, hq, h⟩)] at h6 ⊢
              exact allStab3_get hR k _ _ _ h6 (Upd.of_below hb)
      have hgo := hwr.go a ha'
      unfold wpList at hgo
      split
      · rename_i hwant
        rw [if_pos hwant] at hgo
        rcases hgo with hgo | ⟨_, a', w'', hl⟩
        · have h2 := upon_put (Q := Q) (fun a' w'' h => by rw [h.1, ha.defers]) (show o.upon P a _ (onlyK _) _ from hgo)
          refine Oper.wp_mono (fun a' w'' ⟨x, hav, _, hb, hr⟩ => ⟨x, hav, vs, ?_⟩) h2
          subst hav
          refine next x w'' ?_ hb
          cases hd : o.dst with
          | none => trivial
          | some d =>
            rw [hd] at hr
            dsimp only at hr ⊢
            rwa [G.slot_put a d x (by rw [ha.size]; exact hdst i o ho' d hd)] at hr
        · exact hl.elim
      · rename_i hwant
        rw [if_neg hwant] at hgo
        obtain ⟨_, hb, hr⟩ := hgo
        refine ⟨_, next undef w' ?_ hb⟩
        cases hd : o.dst with
        | none => trivial
        | some d =>
          rw [hd] at hr
          dsimp only at hr ⊢
          rwa [G.slot_put a d undef (by rw [ha.size]; exact hdst i o ho' d hd)] at hr
  · have ha := hfr a hs
    have hl : vs.length = mu.length := by
      rcases Nat.lt_or_ge vs.length mu.length with h | h
      · exfalso
        have hq : mu[vs.length]? = some mu[vs.length] := List.getElem?_eq_getElem h
        have := I.turned _ _ hq
        by_cases hm : mu[vs.length] < l.toArray.size
        · rw [hall _ hm] at this
          simp at this
        · exact hm (by simpa using hmi _ _ hq)
      · have := I.len; omega
    have := vals_all fin vs hl w' I.upd I.j
    obtain ⟨L', ha', he⟩ := need_of (List.range l.length) L ha (small _) (known I _ (fun i hi => hall i (by simpa using List.mem_range.1 hi))) this
    exact he.go a ha'
/-- A region that draws its order and turns memory: mu, the operations that turn it, in their order; J, what holds behind the first of them. -/
theorem W.draws3 {id : Nat} {l : List Oper} (mu : List Nat) (js : List (List Nat)) (bs : List (Nat × Nat)) (Rs : List (World → Value → Prop)) (J : List Value → World → Prop) (hm : P.follows .mixedOrders = true) (hok : G.okB l 0 [] n = true) (hfree : freeB L l = true) (hw : waitsB l js = true) (hbs : boundsB l mu 0 l bs = true) (hmu : (noDup mu && mu.all (Nat.blt · l.length)) = true) (hlen : Rs.length = l.length)
    (hR : AllStab3 (· < w.heap.size) Rs) (hJ : ∀ vs w w', J vs w → Below w.heap.size w w' → J vs w') (hJ0 : J [] w)
    (step : Steps3 P n D l Rs mu J (· < w.heap.size) w L 0 l js bs)
    (fin : Vals mu.length fun vs => ∀ w', Upd (· < w.heap.size) w w' → J vs w' → Need (rsAt mu vs 0 Rs) l w' (fun L' => Ends n D .normal L' w' Q) (List.range l.length) L) : W P n D (.region id l.toArray true) L w Q :=
  ⟨fun a ha => wp_region_any hm (any_core3 js bs Rs mu J hok hfree hw hbs hmu hlen hR hJ hJ0 step fin a ha)⟩
theorem vals_mono : ∀ {s : Nat} {f g : List Value → Prop}, Vals s f → (∀ vs, f vs → g vs) → Vals s g
  | 0, _, _, h, hi => hi _ h
  | s + 1, _, _, h, hi => fun v => vals_mono (h v) (fun vs => hi (v :: vs))
/-- .. and of what comes behind all of that (from operation k on) in the text's order. -/
theorem W.draws3To {id : Nat} {l : List Oper} (k : Nat) (mu : List Nat) (js : List (List Nat)) (bs : List (Nat × Nat)) (Rs : List (World → Value → Prop)) (J : List Value → World → Prop) (hm : P.follows .mixedOrders = true) (hok : G.okB (l.take k) 0 [] n = true) (hfree : freeB L (l.take k) = true) (hw : waitsB (l.take k) js = true) (hbs : boundsB (l.take k) mu 0 (l.take k) bs = true) (hmu : (noDup mu && mu.all (Nat.blt · (l.take k).length)) = true) (hlen : Rs.length = (l.take k).length) (hB : G.splitB l k = true)
    (hR : AllStab3 (· < w.heap.size) Rs) (hJ : ∀ vs w w', J vs w → Below w.heap.size w w' → J vs w') (hJ0 : J [] w)
    (step : Steps3 P n D (l.take k) Rs mu J (· < w.heap.size) w L 0 (l.take k) js bs)
    (fin : Vals mu.length fun vs => ∀ w', Upd (· < w.heap.size) w w' → J vs w' → Need (rsAt mu vs 0 Rs) (l.take k) w' (fun L' => WR P n D l.toArray (l.drop k) L' w' Q) (List.range (l.take k).length) L) : W P n D (.region id l.toArray true) L w Q :=
  ⟨fun a ha => G.region_split k hm hB (any_core3 (Q := G.tailQ P l k Q) js bs Rs mu J hok hfree hw hbs hmu hlen hR hJ hJ0 step (vals_mono fin fun vs h w' hu hj => need_mono (h w' hu hj) fun L' h => ⟨h.go⟩) a ha)⟩
/-- .. where all that is asked to stay is said of no memory, or of none in S. -/
theorem W.draws3ToS (S : Nat → Prop) {id : Nat} {l : List Oper} (k : Nat) (mu : List Nat) (js : List (List Nat)) (bs : List (Nat × Nat)) (Rs : List (World → Value → Prop)) (J : List Value → World → Prop) (hm : P.follows .mixedOrders = true) (hok : G.okB (l.take k) 0 [] n = true) (hfree : freeB L (l.take k) = true) (hw : waitsB (l.take k) js = true) (hbs : boundsB (l.take k) mu 0 (l.take k) bs = true) (hmu : (noDup mu && mu.all (Nat.blt · (l.take k).length)) = true) (hlen : Rs.length = (l.take k).length) (hB : G.splitB l k = true)
    (hR : AllStab3 S Rs) (hJ : ∀ vs w w', J vs w → Below w.heap.size w w' → J vs w') (hJ0 : J [] w)
    (step : Steps3 P n D (l.take k) Rs mu J S w L 0 (l.take k) js bs)
    (fin : Vals mu.length fun vs => ∀ w', Upd S w w' → J vs w' → Need (rsAt mu vs 0 Rs) (l.take k) w' (fun L' => WR P n D l.toArray (l.drop k) L' w' Q) (List.range (l.take k).length) L) : W P n D (.region id l.toArray true) L w Q :=
  ⟨fun a ha => G.region_split k hm hB (any_core3 (Q := G.tailQ P l k Q) js bs Rs mu J hok hfree hw hbs hmu hlen hR hJ hJ0 step (vals_mono fin fun vs h w' hu hj => need_mono (h w' hu hj) fun L' h => ⟨h.go⟩) a ha)⟩
end

end Go.Proofs.Ytjgobljclodpfaa.E
