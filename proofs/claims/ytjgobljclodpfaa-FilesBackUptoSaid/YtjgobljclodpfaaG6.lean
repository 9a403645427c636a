/- A region that draws its order, by whatever invariant of what has been done. No condition. -/
import Derived.Test.YtjgobljclodpfaaG4
namespace Go.Proofs.Ytjgobljclodpfaa.G
open Go Go.RowKit K
set_option linter.unusedVariables false
set_option linter.unusedSimpArgs false

/-- What has been done waits for nothing that has not. -/
def Closed (ops : Array Oper) (listed : Array Bool) : Prop := ∀ (i : Nat) (o : Oper), ops[i]? = some o → listed.getD i true = true → ∀ e ∈ o.after, Region.binds .any e = true → listed.getD e.on true = true

section
variable {P : Program} {ops : Array Oper} {Q : Exit → Act → World → Prop}
theorem any_gen {a0 : Act} {w0 : World} (hok : okB ops.toList 0 [] a0.tmps.size = true) (I : Array Bool → Act → World → Prop)
    (step : ∀ (i : Nat) (o : Oper), ops[i]? = some o → ∀ (listed : Array Bool) a w, listed.size = ops.size → listed.getD i true = false → Closed ops listed → (∀ e ∈ o.after, Region.binds .any e = true → listed.getD e.on true = true) → Same ops a0 a → I listed a w →
      if Region.wanted o (yielded ops a.tmps) then o.wp P a w (fun a' w' => ∃ v, a' = a.put o.dst v ∧ I (listed.setIfInBounds i true) a' w') Q else I (listed.setIfInBounds i true) (a.put o.dst undef) w)
    (fin : ∀ (listed : Array Bool) a w, listed.size = ops.size → (∀ i, i < ops.size → listed.getD i true = true) → Same ops a0 a → I listed a w → Q .normal a w)
    (h0 : I (Array.replicate ops.size false) a0 w0) : wpAny P .any ops Q ops.size (Array.replicate ops.size false) a0 w0 := by
  have hsp : ∀ (i : Nat) (o : Oper), ops[i]? = some o → (∀ t, o.dst = some t → t < a0.tmps.size ∧ ∀ (j : Nat) (p : Oper), ops[j]? = some p → p.dst = some t → i = j) ∧ ∀ e ∈ o.after, Region.binds .any e = true → e.on < i := by
    intro i o hi
    have := okB_spec ops.toList 0 [] a0.tmps.size hok i o (by simpa using hi)
    refine ⟨fun t ht => ?_, fun e he hb => by have := this.2 e he hb; omega⟩
    obtain ⟨h1, _, h3⟩ := this.1 t ht
    exact ⟨h1, fun j p hj => h3 j p (by simpa using hj)⟩
  have set_get : ∀ (listed : Array Bool) (i j : Nat), i < listed.size → (listed.setIfInBounds i true).getD j true = if i = j then true else listed.getD j true := by
    intro listed i j hi
    by_cases hj : j < listed.size
    · simp only [Array.getD, Array.size_setIfInBounds, hj, ↓reduceDIte, Array.getInternal_eq_getElem, Array.getElem_setIfInBounds]
    · have : i ≠ j := by omega
      simp [Array.getD, hj, this]
  have put : ∀ (i : Nat) (o : Oper) (a : Act) (v : Value), ops[i]? = some o → Same ops a0 a → Same ops a0 (a.put o.dst v) := by
    intro i o a v hi ha
    refine ⟨?_, ?_, fun t ht => ?_⟩
    · rw [← ha.size]; cases o.dst <;> simp [Act.put]
    · rw [← ha.defers]; cases o.dst <;> simp [Act.put]
    · rw [slot_put_ne a o.dst t v (ht i o hi), ha.other t ht]
  have all : ∀ (listed : Array Bool), listed.size = ops.size → Region.ready .any ops listed = [] → ∀ i, i < ops.size → listed.getD i true = true := by
    intro listed hs hr i
    induction i using Nat.strongRecOn with
    | _ i ih =>
      intro hi
      cases hl : listed.getD i true with
      | true => rfl
      | false =>
        exfalso
        have ho := Array.getElem?_eq_getElem hi
        have hmem : i ∈ Region.ready .any ops listed := mem_ready.2 ⟨hl, ops[i], ho, fun e he hb => by
          have h1 := (hsp i _ ho).2 e he hb
          have h2 := ih _ h1 (by omega)
          have h3 : e.on < listed.size := by omega
          simp only [Array.getD, h3, ↓reduceDIte, Array.getInternal_eq_getElem] at h2 ⊢
          exact h2⟩
        rw [hr] at hmem
        cases hmem
  have key : ∀ (fuel : Nat) (listed : Array Bool) (a : Act) (w : World), listed.size = ops.size → (((List.range ops.size).filter fun i => !listed.getD i true).length ≤ fuel) → Closed ops listed → Same ops a0 a → I listed a w → wpAny P .any ops Q fuel listed a w := by
    intro fuel
    induction fuel with
    | zero =>
      intro listed a w hs hf hc ha hj
      have hnil := List.eq_nil_of_length_eq_zero (Nat.le_zero.1 hf)
      have hl : ∀ i, i < ops.size → listed.getD i true = true := by
        intro i hi
        cases h : listed.getD i true with
        | true => rfl
        | false =>
          have : i ∈ (List.range ops.size).filter fun i => !listed.getD i true := by rw [List.mem_filter]; exact ⟨List.mem_range.2 hi, by rw [h]; rfl⟩
          rw [hnil] at this
          cases this
      refine ⟨?_, fin listed a w hs hl ha hj⟩
      unfold Region.ready
      rw [List.filter_eq_nil_iff]
      intro i hi
      rw [hl i (List.mem_range.1 hi)]
      simp
    | succ fuel ih =>
      intro listed a w hs hf hc ha hj
      refine ⟨fun hr => fin listed a w hs (all listed hs hr) ha hj, fun i hi => ?_⟩
      obtain ⟨hnl, o, ho, hpre⟩ := mem_ready.1 hi
      have hlt : i < ops.size := (Array.getElem?_eq_some_iff.1 ho).1
      have hpre' : ∀ e ∈ o.after, Region.binds .any e = true → listed.getD e.on true = true := fun e he hb => by
        have h1 := hpre e he hb
        have h3 : e.on < listed.size := by have := (hsp i _ ho).2 e he hb; omega
        simp only [Array.getD, h3, ↓reduceDIte, Array.getInternal_eq_getElem] at h1 ⊢
        exact h1
      have hst := step i o ho listed a w hs hnl hc hpre' ha hj
      have hless : ((List.range ops.size).filter fun j => !(listed.setIfInBounds i true).getD j true).length ≤ fuel := by
        have hsub : ((List.range ops.size).filter fun j => !(listed.setIfInBounds i true).getD j true) = ((List.range ops.size).filter fun j => !listed.getD j true).erase i := by
          rw [List.Nodup.erase_eq_filter ((List.nodup_range).filter _), List.filter_filter]
          apply List.filter_congr
          intro j hj
          rw [set_get listed i j (by omega)]
          by_cases e : i = j
          · subst e; simp
          · simp [e, Ne.symm e]
        rw [hsub, List.length_erase_of_mem (by rw [List.mem_filter]; exact ⟨List.mem_range.2 hlt, by rw [hnl]; rfl⟩)]
        omega
      have hcl : Closed ops (listed.setIfInBounds i true) := fun j p hp hl e he hb => by
        rw [set_get listed i _ (by omega)] at hl ⊢
        by_cases e1 : i = e.on
        · rw [if_pos e1]
        · rw [if_neg e1]
          by_cases e2 : i = j
          · subst e2
            obtain rfl : o = p := by rw [ho] at hp; exact Option.some.inj hp
            exact hpre' e he hb
          · rw [if_neg e2] at hl
            exact hc j p hp hl e he hb
      unfold wpOp
      rw [ho]
      simp only
      by_cases hwd : Region.wanted o (yielded ops a.tmps) = true
      · rw [if_pos hwd] at hst ⊢
        refine .inl (Oper.wp_mono ?_ hst)
        rintro a' w' ⟨v, rfl, hI⟩
        exact ih _ _ _ (by simpa using hs) hless hcl (put i o a v ho ha) hI
      · rw [if_neg hwd] at hst ⊢
        exact ih _ _ _ (by simpa using hs) hless hcl (put i o a undef ho ha) hst
  refine key ops.size _ a0 _ (by simp) ?_ (fun i o hi hl => ?_) ⟨rfl, rfl, fun _ _ => rfl⟩ h0
  · exact Nat.le_trans (List.length_filter_le _ _) (by simp)
  · have hlt := (Array.getElem?_eq_some_iff.1 hi).1
    simp [Array.getD, hlt] at hl
end

end Go.Proofs.Ytjgobljclodpfaa.G
