/- A region that draws its order, by an invariant: whatever order is drawn, each operation finds what it needs and leaves what the others need. No condition. -/
import Derived.Orders
import Derived.WalkKit
import Derived.Test.YtjgobljclodpfaaK
namespace Go.Proofs.Ytjgobljclodpfaa.G
open Go Go.RowKit K
set_option linter.unusedVariables false
set_option linter.unusedSimpArgs false

/-- The slot of a temporary. -/
def slot (a : Act) : Option Tmp → Value
  | some t => (a.tmps[t]?).getD undef
  | none => undef

/-- The frame outside the region's own slots, and its size. -/
structure Same (ops : Array Oper) (a0 a : Act) : Prop where
  size : a.tmps.size = a0.tmps.size
  defers : a.defers = a0.defers
  other : ∀ t, (∀ (i : Nat) (o : Oper), ops[i]? = some o → o.dst ≠ some t) → slot a (some t) = slot a0 (some t)

theorem slot_put (a : Act) (t : Tmp) (v : Value) (h : t < a.tmps.size) : slot (a.put (some t) v) (some t) = v := by
  simp [slot, Act.put, h]
theorem slot_put_ne (a : Act) (s : Option Tmp) (t : Tmp) (v : Value) (h : s ≠ some t) : slot (a.put s v) (some t) = slot a (some t) := by
  cases s with
  | none => rfl
  | some s =>
    have hst : s ≠ t := fun e => h (by rw [e])
    simp only [slot, Act.put]
    rw [Array.getElem?_setIfInBounds_ne hst]

/-- The operations' slots are apart and within the frame; each waits for earlier ones alone. -/
def okL : List Oper → Nat → List Tmp → Nat → Bool
  | [], _, _, _ => true
  | o :: r, i, seen, n => (match o.dst with | none => true | some t => !seen.contains t && decide (t < n)) && o.after.all (fun e => decide (e.on < i)) && okL r (i + 1) (o.dst.toList ++ seen) n

theorem okL_spec : ∀ (l : List Oper) (k : Nat) (seen : List Tmp) (n : Nat), okL l k seen n = true → ∀ (i : Nat) (o : Oper), l[i]? = some o →
    (∀ t, o.dst = some t → t < n ∧ t ∉ seen ∧ ∀ (j : Nat) (p : Oper), l[j]? = some p → p.dst = some t → i = j) ∧ ∀ e ∈ o.after, e.on < k + i
  | [], _, _, _, _, _, _, h => by simp at h
  | o :: r, k, seen, n, hk, i, p, hp => by
    simp only [okL, Bool.and_eq_true, Array.all_eq_true] at hk
    obtain ⟨⟨h1, h2⟩, h3⟩ := hk
    have ih := okL_spec r (k + 1) (o.dst.toList ++ seen) n h3
    cases i with
    | zero =>
      obtain rfl : o = p := by simpa using hp
      refine ⟨fun t ht => ?_, fun e he => ?_⟩
      · rw [ht] at h1
        simp only [Bool.and_eq_true, Bool.not_eq_true', decide_eq_true_eq, List.contains_eq_mem, decide_eq_false_iff_not] at h1
        refine ⟨h1.2, h1.1, fun j q hq hqt => ?_⟩
        cases j with
        | zero => rfl
        | succ j =>
          have := ((ih j q (by simpa using hq)).1 t hqt).2.1
          rw [ht] at this
          simp at this
      · obtain ⟨j, hj, rfl⟩ := Array.getElem_of_mem he
        have := h2 j hj
        simpa using this
    | succ i =>
      have hp' : r[i]? = some p := by simpa using hp
      have hi := ih i p hp'
      refine ⟨fun t ht => ?_, fun e he => by have := hi.2 e he; omega⟩
      obtain ⟨a1, a2, a3⟩ := hi.1 t ht
      simp only [List.mem_append, not_or] at a2
      refine ⟨a1, a2.2, fun j q hq hqt => ?_⟩
      cases j with
      | zero =>
        obtain rfl : o = q := by simpa using hq
        rw [hqt] at a2
        simp at a2
      | succ j => rw [a3 j q (by simpa using hq) hqt]

/-- .. edges that do not bind at any order left aside. -/
def okB : List Oper → Nat → List Tmp → Nat → Bool
  | [], _, _, _ => true
  | o :: r, i, seen, n => (match o.dst with | none => true | some t => !seen.contains t && decide (t < n)) && o.after.all (fun e => !Region.binds .any e || decide (e.on < i)) && okB r (i + 1) (o.dst.toList ++ seen) n

theorem okB_spec : ∀ (l : List Oper) (k : Nat) (seen : List Tmp) (n : Nat), okB l k seen n = true → ∀ (i : Nat) (o : Oper), l[i]? = some o →
    (∀ t, o.dst = some t → t < n ∧ t ∉ seen ∧ ∀ (j : Nat) (p : Oper), l[j]? = some p → p.dst = some t → i = j) ∧ ∀ e ∈ o.after, Region.binds .any e = true → e.on < k + i
  | [], _, _, _, _, _, _, h => by simp at h
  | o :: r, k, seen, n, hk, i, p, hp => by
    simp only [okB, Bool.and_eq_true, Array.all_eq_true] at hk
    obtain ⟨⟨h1, h2⟩, h3⟩ := hk
    have ih := okB_spec r (k + 1) (o.dst.toList ++ seen) n h3
    cases i with
    | zero =>
      obtain rfl : o = p := by simpa using hp
      refine ⟨fun t ht => ?_, fun e he hb => ?_⟩
      · rw [ht] at h1
        simp only [Bool.and_eq_true, Bool.not_eq_true', decide_eq_true_eq, List.contains_eq_mem, decide_eq_false_iff_not] at h1
        refine ⟨h1.2, h1.1, fun j q hq hqt => ?_⟩
        cases j with
        | zero => rfl
        | succ j =>
          have := ((ih j q (by simpa using hq)).1 t hqt).2.1
          rw [ht] at this
          simp at this
      · obtain ⟨j, hj, rfl⟩ := Array.getElem_of_mem he
        have := h2 j hj
        rw [hb] at this
        simpa using this
    | succ i =>
      have hp' : r[i]? = some p := by simpa using hp
      have hi := ih i p hp'
      refine ⟨fun t ht => ?_, fun e he hb => by have := hi.2 e he hb; omega⟩
      obtain ⟨a1, a2, a3⟩ := hi.1 t ht
      simp only [List.mem_append, not_or] at a2
      refine ⟨a1, a2.2, fun j q hq hqt => ?_⟩
      cases j with
      | zero =>
        obtain rfl : o = q := by simpa using hq
        rw [hqt] at a2
        simp at a2
      | succ j => rw [a3 j q (by simpa using hq) hqt]

theorem wp_and {P : Program} {Q : Exit → Act → World → Prop} {o : Oper} {a : Act} {w : World} {K K' : Act → World → Prop} (h : ∀ a w, K a w → K' a w) (hh : o.wp P a w K Q) : o.wp P a w K' Q := Oper.wp_mono h hh

section
variable {P : Program} {ops : Array Oper} {Q : Exit → Act → World → Prop}

/-- THE THEOREM. T: what may become of the world; R i w v: operation i's slot holds v in w. -/
theorem any_inv {a0 : Act} {w0 : World} (hok : okB ops.toList 0 [] a0.tmps.size = true) (T : World → World → Prop) (hTr : ∀ a b c, T a b → T b c → T a c) (hTw : ∀ w, T w0.drew w → T w w) (hT0 : T w0.drew w0.drew)
    (R : Nat → World → Value → Prop) (hR : ∀ i w w' v, R i w v → T w w' → R i w' v)
    (hne : ∀ (i : Nat) (o : Oper), ops[i]? = some o → o.dst = none → ∀ w v, R i w v)
    (step : ∀ (i : Nat) (o : Oper), ops[i]? = some o → ∀ a w, T w0.drew w → Same ops a0 a → (∀ e ∈ o.after, Region.binds .any e = true → ∀ p, ops[e.on]? = some p → R e.on w (slot a p.dst)) →
      if Region.wanted o (yielded ops a.tmps) then o.wp P a w (fun a' w' => ∃ v, a' = a.put o.dst v ∧ T w w' ∧ R i w' v) Q else R i w undef)
    (fin : ∀ a w, T w0.drew w → Same ops a0 a → (∀ (i : Nat) (o : Oper), ops[i]? = some o → R i w (slot a o.dst)) → Q .normal a w)
    : wpAny P .any ops Q ops.size (Array.replicate ops.size false) a0 w0.drew := by
  have hsp : ∀ (i : Nat) (o : Oper), ops[i]? = some o → (∀ t, o.dst = some t → t < a0.tmps.size ∧ ∀ (j : Nat) (p : Oper), ops[j]? = some p → p.dst = some t → i = j) ∧ ∀ e ∈ o.after, Region.binds .any e = true → e.on < i := by
    intro i o hi
    have := okB_spec ops.toList 0 [] a0.tmps.size hok i o (by simpa using hi)
    refine ⟨fun t ht => ?_, fun e he hb => by have := this.2 e he hb; omega⟩
    obtain ⟨h1, _, h3⟩ := this.1 t ht
    exact ⟨h1, fun j p hj => h3 j p (by simpa using hj)⟩
  -- one operation more
  have put : ∀ (i : Nat) (o : Oper) (a : Act) (w w' : World) (v : Value) (listed : Array Bool), ops[i]? = some o → listed.size = ops.size → T w0.drew w → T w w' → R i w' v → Same ops a0 a →
      (∀ (j : Nat) (p : Oper), ops[j]? = some p → listed.getD j true = true → R j w (slot a p.dst)) →
      T w0.drew w' ∧ Same ops a0 (a.put o.dst v) ∧ ∀ (j : Nat) (p : Oper), ops[j]? = some p → (listed.setIfInBounds i true).getD j true = true → R j w' (slot (a.put o.dst v) p.dst) := by
    intro i o a w w' v listed hi hs hw hww hv ha hj
    refine ⟨hTr _ _ _ hw hww, ⟨?_, ?_, fun t ht => ?_⟩, fun j p hp hl => ?_⟩
    · rw [← ha.size]; cases o.dst <;> simp [Act.put]
    · rw [← ha.defers]; cases o.dst <;> simp [Act.put]
    · have := slot_put_ne a o.dst t v (ht i o hi)
      rw [this, ha.other t ht]
    · cases hd : p.dst with
      | none => exact hne j p hp hd w' _
      | some t =>
        by_cases e : i = j
        · subst e
          obtain rfl : o = p := by rw [hi] at hp; exact Option.some.inj hp
          rw [hd, slot_put a t v (by rw [ha.size]; exact ((hsp i o hi).1 t hd).1)]
          exact hv
        · rw [slot_put_ne a o.dst t v (fun h => e (((hsp i o hi).1 t h).2 j p hp hd)), ← hd]
          refine hR j w w' _ (hj j p hp ?_) hww
          have hjs : j < listed.size := by rw [hs]; exact (Array.getElem?_eq_some_iff.1 hp).1
          simp only [Array.getD, Array.size_setIfInBounds, hjs, ↓reduceDIte, Array.getInternal_eq_getElem, Array.getElem_setIfInBounds, e, if_false] at hl ⊢
          exact hl
  have all : ∀ (listed : Array Bool), listed.size = ops.size → Region.ready .any ops listed = [] → ∀ i, i < ops.size → listed.getD i true = true := by
    intro listed hs hr i
    induction i using Nat.strongRecOn with
    | _ i ih =>
      intro hi
      cases hl : listed.getD i true with
      | true => rfl
      | false =>
        exfalso
        have hmem : i ∈ Region.ready .any ops listed := by
          unfold Region.ready
          rw [List.mem_filter]
          refine ⟨List.mem_range.2 hi, ?_⟩
          have ho := Array.getElem?_eq_getElem hi
          rw [ho, hl]
          simp only [Bool.not_false, Option.map_some, Option.getD_some, Bool.true_and, Array.all_eq_true]
          intro k hk
          cases hbn : Region.binds .any ops[i].after[k] with
          | false => rfl
          | true =>
          have h1 := (hsp i _ ho).2 _ (Array.getElem_mem hk) hbn
          have h2 := ih _ h1 (by omega)
          have h3 : ops[i].after[k].on < listed.size := by omega
          simp only [Array.getD, h3, ↓reduceDIte, Array.getInternal_eq_getElem] at h2 ⊢
          simp [h2]
        rw [hr] at hmem
        cases hmem
  have key : ∀ (fuel : Nat) (listed : Array Bool) (a : Act) (w : World), listed.size = ops.size → (((List.range ops.size).filter fun i => !listed.getD i true).length ≤ fuel) → T w0.drew w → Same ops a0 a →
      (∀ (i : Nat) (o : Oper), ops[i]? = some o → listed.getD i true = true → R i w (slot a o.dst)) → wpAny P .any ops Q fuel listed a w := by
    intro fuel
    induction fuel with
    | zero =>
      intro listed a w hs hf hw ha hj
      have hnil := List.eq_nil_of_length_eq_zero (Nat.le_zero.1 hf)
      have hl : ∀ i, i < ops.size → listed.getD i true = true := by
        intro i hi
        cases h : listed.getD i true with
        | true => rfl
        | false =>
          have : i ∈ (List.range ops.size).filter fun i => !listed.getD i true := by rw [List.mem_filter]; exact ⟨List.mem_range.2 hi, by rw [h]; rfl⟩
          rw [hnil] at this
          cases this
      refine ⟨?_, fin a w hw ha fun i o hi => hj i o hi (hl i (Array.getElem?_eq_some_iff.1 hi).1)⟩
      unfold Region.ready
      rw [List.filter_eq_nil_iff]
      intro i hi
      rw [hl i (List.mem_range.1 hi)]
      simp
    | succ fuel ih =>
      intro listed a w hs hf hw ha hj
      refine ⟨fun hr => fin a w hw ha fun i o hi => hj i o hi (all listed hs hr i (Array.getElem?_eq_some_iff.1 hi).1), fun i hi => ?_⟩
      unfold Region.ready at hi
      rw [List.mem_filter] at hi
      obtain ⟨hi1, hi2⟩ := hi
      have hlt := List.mem_range.1 hi1
      have ho := Array.getElem?_eq_getElem hlt
      rw [ho] at hi2
      simp only [Option.map_some, Option.getD_some, Bool.and_eq_true, Bool.not_eq_true', Array.all_eq_true] at hi2
      obtain ⟨hnl, hpre⟩ := hi2
      have hst := step i _ ho a w hw ha (fun e he hb p hp => by
        obtain ⟨k, hk, rfl⟩ := Array.getElem_of_mem he
        have := hpre k hk
        rw [hb] at this
        have hjs : ops[i].after[k].on < listed.size := by rw [hs]; exact (Array.getElem?_eq_some_iff.1 hp).1
        refine hj _ p hp ?_
        simp only [Array.getD, hjs, ↓reduceDIte, Array.getInternal_eq_getElem] at this ⊢
        simpa using this)
      have hless : ((List.range ops.size).filter fun j => !(listed.setIfInBounds i true).getD j true).length ≤ fuel := by
        have hsub : ((List.range ops.size).filter fun j => !(listed.setIfInBounds i true).getD j true) = ((List.range ops.size).filter fun j => !listed.getD j true).erase i := by
          rw [List.Nodup.erase_eq_filter ((List.nodup_range).filter _), List.filter_filter]
          apply List.filter_congr
          intro j hj
          have hjs : j < listed.size := by rw [hs]; exact List.mem_range.1 hj
          by_cases e : i = j
          · subst e; simp [Array.getD, hjs]
          · simp [Array.getD, hjs, e, Ne.symm e]
        rw [hsub, List.length_erase_of_mem (by rw [List.mem_filter]; exact ⟨hi1, by rw [hnl]; rfl⟩)]
        omega
      unfold wpOp
      rw [ho]
      simp only
      by_cases hwd : Region.wanted ops[i] (yielded ops a.tmps) = true
      · rw [if_pos hwd] at hst ⊢
        refine .inl (Oper.wp_mono ?_ hst)
        rintro a' w' ⟨v, rfl, hT, hv⟩
        obtain ⟨q1, q2, q3⟩ := put i _ a w w' v listed ho hs hw hT hv ha hj
        exact ih _ _ _ (by simpa using hs) hless q1 q2 q3
      · rw [if_neg hwd] at hst ⊢
        obtain ⟨q1, q2, q3⟩ := put i _ a w w undef listed ho hs hw (hTw w hw) hst ha hj
        exact ih _ _ _ (by simpa using hs) hless q1 q2 q3
  refine key ops.size _ a0 _ (by simp) ?_ hT0 ⟨rfl, rfl, fun _ _ => rfl⟩ (fun i o hi hl => ?_)
  · exact Nat.le_trans (List.length_filter_le _ _) (by simp)
  · have hlt := (Array.getElem?_eq_some_iff.1 hi).1
    simp [Array.getD, hlt] at hl

theorem region_inv {id : Nat} {a0 : Act} {w0 : World} (hm : P.follows .mixedOrders = true) (hok : okB ops.toList 0 [] a0.tmps.size = true) (T : World → World → Prop) (hTr : ∀ a b c, T a b → T b c → T a c) (hTw : ∀ w, T w0.drew w → T w w) (hT0 : T w0.drew w0.drew)
    (R : Nat → World → Value → Prop) (hR : ∀ i w w' v, R i w v → T w w' → R i w' v)
    (hne : ∀ (i : Nat) (o : Oper), ops[i]? = some o → o.dst = none → ∀ w v, R i w v)
    (step : ∀ (i : Nat) (o : Oper), ops[i]? = some o → ∀ a w, T w0.drew w → Same ops a0 a → (∀ e ∈ o.after, Region.binds .any e = true → ∀ p, ops[e.on]? = some p → R e.on w (slot a p.dst)) →
      if Region.wanted o (yielded ops a.tmps) then o.wp P a w (fun a' w' => ∃ v, a' = a.put o.dst v ∧ T w w' ∧ R i w' v) Q else R i w undef)
    (fin : ∀ a w, T w0.drew w → Same ops a0 a → (∀ (i : Nat) (o : Oper), ops[i]? = some o → R i w (slot a o.dst)) → Q .normal a w)
    : (Code.region id ops true).wp P Q a0 w0 :=
  wp_region_any hm (any_inv hok T hTr hTw hT0 R hR hne step fin)

end

theorem yielded_of {ops : Array Oper} {a : Act} {j : Nat} {p : Oper} {t : Tmp} {b : Bool} (hp : ops[j]? = some p) (hd : p.dst = some t) (h : slot a (some t) = .bool b) : yielded ops a.tmps j = some b := by
  unfold yielded
  rw [hp]
  simp only [Option.bind_some, hd]
  simp only [slot] at h
  cases hv : a.tmps[t]? with
  | none => rw [hv] at h; cases h
  | some v => rw [hv] at h; simp only [Option.getD_some] at h; rw [h]

section
variable {P : Program} {o : Oper} {a : Act} {w w' : World} {K : Act → World → Prop} {Q : Exit → Act → World → Prop}
theorem st_val {v : Value} (h : (execOp a.eval o).run P w = .ok (.value v) w') (hk : K (a.put o.dst v) w') : o.wp P a w K Q := by
  unfold Oper.wp; rw [h]; exact hk
theorem eval_tmp (t : Tmp) : a.eval (.tmp t) = slot a (some t) := by simp [Act.eval, slot]
theorem st_move {t : Tmp} (h : o.op = .move (.tmp t) ∨ o.op = .assign (.tmp t)) (hk : K (a.put o.dst (slot a (some t))) w) : o.wp P a w K Q := by
  refine st_val (v := slot a (some t)) (w' := w) ?_ hk
  rw [← eval_tmp]
  rcases h with h | h <;> (unfold execOp; rw [h]; rfl)
theorem st_call {f : FuncId} {args : Array Value} (h : (execOp a.eval o).run P w = .ok (.enter f args) w) (hk : Calls P f args w fun e w' => ∃ v, e = .returned v ∧ K (a.put o.dst v) w') : o.wp P a w K Q := by
  unfold Oper.wp; rw [h]
  exact hk.mono fun e w' ⟨v, he, hv⟩ => by subst he; exact hv
theorem wanted_yes {ops : Array Oper} {X Y : Prop} (h : Region.wanted o (yielded ops a.tmps) = true) (hx : X) : if Region.wanted o (yielded ops a.tmps) = true then X else Y := by rw [if_pos h]; exact hx
theorem wanted_no {ops : Array Oper} {X Y : Prop} (h : Region.wanted o (yielded ops a.tmps) = false) (hy : Y) : if Region.wanted o (yielded ops a.tmps) = true then X else Y := by rw [if_neg (by rw [h]; decide)]; exact hy
theorem wanted_plain {ops : Array Oper} (h : o.guard = none) : Region.wanted o (yielded ops a.tmps) = true := by unfold Region.wanted; rw [h]
theorem wanted_guard {ops : Array Oper} {j : Nat} {b : Bool} (h : o.guard = some (j, b)) (hy : yielded ops a.tmps j = some b) : Region.wanted o (yielded ops a.tmps) = true := by unfold Region.wanted; rw [h]; simp [hy]
theorem wanted_guard_no {ops : Array Oper} {j : Nat} {b : Bool} (h : o.guard = some (j, b)) (hy : yielded ops a.tmps j = some (!b)) : Region.wanted o (yielded ops a.tmps) = false := by unfold Region.wanted; rw [h]; cases b <;> simp [hy]
end

theorem Same.at_ {ops : Array Oper} {a0 a : Act} (h : Same ops a0 a) (t : Tmp) (hn : (ops.toList.filterMap (·.dst)).contains t = false) : slot a (some t) = slot a0 (some t) := by
  refine h.other t fun i o hi hd => ?_
  have hm : t ∈ ops.toList.filterMap (·.dst) := List.mem_filterMap.2 ⟨o, List.mem_of_getElem? (by simpa using hi), hd⟩
  rw [List.contains_eq_mem, decide_eq_false_iff_not] at hn
  exact hn hm

theorem put_size (a : Act) (s : Option Tmp) (v : Value) : (a.put s v).tmps.size = a.tmps.size := by cases s <;> simp [Act.put]
theorem put_defers (a : Act) (s : Option Tmp) (v : Value) : (a.put s v).defers = a.defers := by cases s <;> simp [Act.put]

theorem fold_slot (a : Act) (t : Tmp) : ∀ (l : List Oper) (b : Act), (l.foldl (fun b o => b.put o.dst (slot a o.dst)) b).tmps.size = b.tmps.size ∧ (l.foldl (fun b o => b.put o.dst (slot a o.dst)) b).defers = b.defers ∧
    (t < b.tmps.size → slot (l.foldl (fun b o => b.put o.dst (slot a o.dst)) b) (some t) = if (l.filterMap (·.dst)).contains t = true then slot a (some t) else slot b (some t))
  | [], b => ⟨rfl, rfl, fun _ => by simp⟩
  | o :: l, b => by
    obtain ⟨h1, h2, h3⟩ := fold_slot a t l (b.put o.dst (slot a o.dst))
    rw [put_size] at h1 h3
    rw [put_defers] at h2
    refine ⟨h1, h2, fun ht => ?_⟩
    rw [List.foldl_cons, h3 ht]
    cases hd : o.dst with
    | none =>
      rw [List.filterMap_cons_none (by simpa using hd)]
      rfl
    | some s =>
      rw [List.filterMap_cons_some (by simpa using hd)]
      by_cases hm : (l.filterMap (·.dst)).contains t = true
      · rw [if_pos hm, if_pos (by rw [List.contains_cons, hm]; simp)]
      · rw [if_neg hm]
        by_cases e : s = t
        · subst e
          rw [slot_put b s _ ht, if_pos (by simp)]
        · rw [slot_put_ne b (some s) t _ (by simpa using e), if_neg]
          rw [List.contains_cons]
          simp only [Bool.or_eq_true, beq_iff_eq, not_or]
          exact ⟨fun h => e h.symm, hm⟩

/-- The frame behind the region, written out. -/
theorem act_of {ops : Array Oper} {a0 a : Act} (h : Same ops a0 a) : a = ops.toList.foldl (fun b o => b.put o.dst (slot a o.dst)) a0 := by
  obtain ⟨h1, h2, _⟩ := fold_slot a 0 ops.toList a0
  have key : a.tmps = (ops.toList.foldl (fun b o => b.put o.dst (slot a o.dst)) a0).tmps := by
    apply Array.ext (by rw [h1, h.size])
    intro t ht ht'
    have ht0 : t < a0.tmps.size := by rw [← h.size]; exact ht
    have h3 := (fold_slot a t ops.toList a0).2.2 ht0
    have hs : slot a (some t) = slot (ops.toList.foldl (fun b o => b.put o.dst (slot a o.dst)) a0) (some t) := by
      rw [h3]
      by_cases hm : (ops.toList.filterMap (·.dst)).contains t = true
      · rw [if_pos hm]
      · rw [if_neg hm]; exact h.at_ t (by simpa using hm)
    change (a.tmps[t]?).getD undef = ((ops.toList.foldl (fun b o => b.put o.dst (slot a o.dst)) a0).tmps[t]?).getD undef at hs
    rw [Array.getElem?_eq_getElem ht, Array.getElem?_eq_getElem ht'] at hs
    exact hs
  have h4 : a.defers = (ops.toList.foldl (fun b o => b.put o.dst (slot a o.dst)) a0).defers := by rw [h2, h.defers]
  cases a
  revert key h4
  generalize List.foldl _ a0 ops.toList = z
  cases z
  simp only
  intro e1 e2
  rw [e1, e2]

theorem no_none {ops : Array Oper} {i : Nat} {o : Oper} (h : ops.toList.all (·.dst.isSome) = true) (hi : ops[i]? = some o) : o.dst ≠ none := by
  have := List.all_eq_true.1 h o (List.mem_of_getElem? (by simpa using hi))
  intro e; rw [e] at this; cases this

/-- Of each operation of a row of them, from place i on. -/
def Each (S : Nat → Oper → Prop) : List Oper → Nat → Prop
  | [], _ => True
  | o :: r, i => S i o ∧ Each S r (i + 1)
theorem each_spec {S : Nat → Oper → Prop} : ∀ (l : List Oper) (k : Nat), Each S l k → ∀ (i : Nat) (o : Oper), l[i]? = some o → S (k + i) o
  | [], _, _, i, o, h => by simp at h
  | p :: r, k, hE, i, o, h => by
    cases i with
    | zero =>
      obtain rfl : p = o := by simpa using h
      exact hE.1
    | succ i =>
      have := each_spec r (k + 1) hE.2 i o (by simpa using h)
      rwa [show k + (i + 1) = k + 1 + i from by omega]
theorem each_ops {S : Nat → Oper → Prop} {ops : Array Oper} (h : Each S ops.toList 0) : ∀ (i : Nat) (o : Oper), ops[i]? = some o → S i o := fun i o hi => by
  have := each_spec ops.toList 0 h i o (by simpa using hi)
  rwa [Nat.zero_add] at this

/-- What each slot holds, as a list of predicates. -/
def of (l : List (World → Value → Prop)) (i : Nat) (w : World) (v : Value) : Prop := match l[i]? with | some p => p w v | none => True
def Stays (T : World → World → Prop) : List (World → Value → Prop) → Prop
  | [] => True
  | p :: r => (∀ w w' v, p w v → T w w' → p w' v) ∧ Stays T r
theorem of_stays {T : World → World → Prop} : ∀ (l : List (World → Value → Prop)), Stays T l → ∀ i w w' v, of l i w v → T w w' → of l i w' v
  | [], _, i, w, w', v, h, ht => by simp [of]
  | p :: r, hl, i, w, w', v, h, ht => by
    cases i with
    | zero => exact hl.1 w w' v h ht
    | succ i => exact of_stays r hl.2 i w w' v h ht

theorem keep_bs {xs : List UInt8} {w w' : World} {v : Value} (h : ∃ F, Bs w F v xs) (k : Below w.heap.size w w') : ∃ F, Bs w' F v xs := by
  obtain ⟨F, h⟩ := h; exact ⟨F, h.below k⟩

end Go.Proofs.Ytjgobljclodpfaa.G
