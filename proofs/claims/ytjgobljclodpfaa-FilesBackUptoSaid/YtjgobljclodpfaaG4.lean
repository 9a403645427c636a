/- A drawn region whose last operations come last in every order: the head by an invariant, the tail in the order of the text. No condition. -/
import Derived.StillTail
import Derived.Test.YtjgobljclodpfaaG2
namespace Go.Proofs.Ytjgobljclodpfaa.G
open Go Go.RowKit K
set_option linter.unusedVariables false
set_option linter.unusedSimpArgs false

/-- The operations that one waits for, as a mask. -/
def edgeM (o : Oper) : Nat := o.after.toList.foldl (fun m e => if Region.binds .any e then m ||| (1 <<< e.on) else m) 0
/-- .. and those that these wait for. -/
def ancM (l : List Oper) (j : Nat) : Nat := (List.range j).reverse.foldl (fun m i => if m.testBit i then m ||| ((l[i]?).map edgeM).getD 0 else m) (((l[j]?).map edgeM).getD 0)

theorem edgeM_spec (o : Oper) (b : Nat) (h : (edgeM o).testBit b = true) : ∃ e ∈ o.after, Region.binds .any e = true ∧ e.on = b := by
  have key : ∀ (r : List Edge) (m : Nat), (r.foldl (fun m e => if Region.binds .any e then m ||| (1 <<< e.on) else m) m).testBit b = true → m.testBit b = true ∨ ∃ e ∈ r, Region.binds .any e = true ∧ e.on = b := by
    intro r
    induction r with
    | nil => intro m h; exact .inl h
    | cons e r ih =>
      intro m h
      rw [List.foldl_cons] at h
      rcases ih _ h with h | ⟨e', he', h'⟩
      · split at h
        · rename_i hb
          rw [Nat.testBit_or, Bool.or_eq_true] at h
          rcases h with h | h
          · exact .inl h
          · refine .inr ⟨e, by simp, hb, ?_⟩
            rw [Nat.shiftLeft_eq, Nat.one_mul, Nat.testBit_two_pow] at h
            simpa using h
        · exact .inl h
      · exact .inr ⟨e', by simp [he'], h'⟩
  rcases key _ _ h with h | ⟨e, he, h'⟩
  · simp at h
  · exact ⟨e, by simpa using he, h'⟩

theorem ancM_spec {l : List Oper} {S : Nat → Prop} (hc : ∀ (i : Nat) (o : Oper), l[i]? = some o → S i → ∀ e ∈ o.after, Region.binds .any e = true → S e.on) (j : Nat) (o : Oper) (ho : l[j]? = some o) (hj : ∀ e ∈ o.after, Region.binds .any e = true → S e.on) :
    ∀ b, (ancM l j).testBit b = true → S b := by
  have h0 : ∀ b, (((l[j]?).map edgeM).getD 0).testBit b = true → S b := by
    intro b h
    rw [ho] at h
    obtain ⟨e, he, hb, rfl⟩ := edgeM_spec o b h
    exact hj e he hb
  unfold ancM
  generalize ((l[j]?).map edgeM).getD 0 = m at h0
  generalize (List.range j).reverse = r
  induction r generalizing m with
  | nil => exact h0
  | cons i r ih =>
    rw [List.foldl_cons]
    refine ih _ fun b h => ?_
    split at h
    · rename_i hi
      rw [Nat.testBit_or, Bool.or_eq_true] at h
      rcases h with h | h
      · exact h0 b h
      · cases hli : l[i]? with
        | none => rw [hli] at h; simp at h
        | some p =>
          rw [hli] at h
          obtain ⟨e, he, hb, rfl⟩ := edgeM_spec p b h
          exact hc i p hli (h0 i hi) e he hb
    · exact h0 b h

/-- The head waits for itself alone, the tail for all of the head, and each of the tail for the one before it. -/
def splitB (l : List Oper) (k : Nat) : Bool :=
  decide (k ≤ l.length) && ((l.take k).zipIdx.all fun (o, i) => o.after.all (fun e => !Region.binds .any e || decide (e.on < i)) && (match o.guard with | some (j, _) => decide (j < k) | none => true)) &&
  ((List.range (l.length - k)).all fun t => (List.range k).all fun i => (ancM l (k + t)).testBit i) &&
  Region.seqB .any l.toArray (l.length - k) k ((Array.replicate k true) ++ (Array.replicate (l.length - k) false))

/-- What the head is asked for. -/
def tailQ (P : Program) (l : List Oper) (k : Nat) (Q : Exit → Act → World → Prop) : Exit → Act → World → Prop
  | .normal, a, w => wpList P l.toArray Q (l.drop k) a w
  | e, a, w => Q e a w

section
variable {P : Program}

theorem wp_swap {o : Oper} {a : Act} {w : World} {K K' : Act → World → Prop} {Q Q' : Exit → Act → World → Prop} (h : ∀ a w, K a w → K' a w) (hQ : ∀ e a w, e ≠ .normal → Q e a w → Q' e a w) (hh : o.wp P a w K Q) : o.wp P a w K' Q' := by
  unfold Oper.wp at *
  generalize (execOp a.eval o).run P w = r at *
  cases r with
  | ok n w' =>
    cases n <;> simp only [Oper.upon] at hh ⊢ <;>
      first
        | exact h _ _ hh
        | exact Calls.mono hh (fun e w'' he => by
            cases e <;> first | exact h _ _ he | exact hQ _ _ _ (by simp) he | (obtain ⟨a, w, hq⟩ := he; exact ⟨a, w, hQ _ _ _ (by simp) hq⟩))
        | exact Rows.mono hh (fun _ _ he => h _ _ he)
        | exact hh
  | halt x w' => cases x <;> simp only [Oper.upon] at hh ⊢ <;> first | exact hQ _ _ _ (by simp) hh | exact hh

theorem split_any {l : List Oper} {k : Nat} {Q : Exit → Act → World → Prop} (hB : splitB l k = true) :
    ∀ (fuel : Nat) (listed : Array Bool) (a : Act) (w : World), listed.size = k → (∀ (i : Nat) (o : Oper), l[i]? = some o → (i < k ∧ listed.getD i false = true) → ∀ e ∈ o.after, Region.binds .any e = true → (e.on < k ∧ listed.getD e.on false = true)) → (((List.range k).filter fun i => !listed.getD i true).length = fuel) → wpAny P .any (l.take k).toArray (tailQ P l k Q) fuel listed a w →
      wpAny P .any l.toArray Q (fuel + (l.length - k)) (listed ++ Array.replicate (l.length - k) false) a w := by
  simp only [splitB, Bool.and_eq_true, decide_eq_true_eq] at hB
  obtain ⟨⟨⟨hk, hhead⟩, htail⟩, hseq⟩ := hB
  have hsz : (l.take k).length = k := by simp; omega
  have hin : ∀ (i : Nat) (o : Oper), i < k → l[i]? = some o → (∀ e ∈ o.after, Region.binds .any e = true → e.on < i) ∧ (∀ j b, o.guard = some (j, b) → j < k) := by
    intro i o hi ho
    rw [List.all_eq_true] at hhead
    have hm : (o, i) ∈ (l.take k).zipIdx := by
      rw [List.mem_zipIdx_iff_getElem?]
      rw [List.getElem?_take_of_lt hi]; exact ho
    have := hhead _ hm
    simp only [Bool.and_eq_true, Array.all_eq_true] at this
    refine ⟨fun e he hb => ?_, fun j b hg => ?_⟩
    · obtain ⟨n, hn, rfl⟩ := Array.getElem_of_mem he
      have := this.1 n hn
      rw [hb] at this
      simpa using this
    · have := this.2
      rw [hg] at this
      simpa using this
  -- what is listed of both
  have gl : ∀ (listed : Array Bool) (i : Nat) (d : Bool), listed.size = k → i < k → (listed ++ Array.replicate (l.length - k) false).getD i d = listed.getD i d := by
    intro listed i d hs hi
    simp [Array.getD, Array.getElem_append, hs, hi, show i < k + (l.length - k) from by omega]
  have gr : ∀ (listed : Array Bool) (i : Nat) (d : Bool), listed.size = k → k ≤ i → i < l.length → (listed ++ Array.replicate (l.length - k) false).getD i d = false := by
    intro listed i d hs hi hl
    simp [Array.getD, Array.getElem_append, hs, show ¬ i < k from by omega, show i < k + (l.length - k) from by omega]
  -- all of the head is listed where nothing of it may come up
  have all : ∀ (listed : Array Bool), listed.size = k → Region.ready .any (l.take k).toArray listed = [] → ∀ i, i < k → listed.getD i true = true := by
    intro listed hs hr i
    induction i using Nat.strongRecOn with
    | _ i ih =>
      intro hi
      cases hl : listed.getD i true with
      | true => rfl
      | false =>
        exfalso
        have ho := List.getElem?_eq_getElem (l := l) (i := i) (by omega)
        have hmem : i ∈ Region.ready .any (l.take k).toArray listed := by
          rw [mem_ready]
          refine ⟨hl, l[i], by simp [List.getElem?_take_of_lt hi], fun e he hb => ?_⟩
          have h1 := (hin i _ hi ho).1 e he hb
          have h2 := ih _ h1 (by omega)
          have h3 : e.on < listed.size := by omega
          simp only [Array.getD, h3, ↓reduceDIte, Array.getInternal_eq_getElem] at h2 ⊢
          exact h2
        rw [hr] at hmem
        cases hmem
  have none_left : ∀ (listed : Array Bool), (∀ i, i < k → listed.getD i true = true) → ((List.range k).filter fun i => !listed.getD i true).length = 0 := by
    intro listed h
    rw [List.length_eq_zero_iff, List.filter_eq_nil_iff]
    intro i hi
    rw [h i (List.mem_range.1 hi)]
    simp
  intro fuel
  induction fuel with
  | zero =>
    intro listed a w hs hcl hf h
    have hall := all listed hs h.1
    have hlt : listed = Array.replicate k true := by
      apply Array.ext (by simp [hs])
      intro i hi hi'
      have := hall i (by omega)
      simp only [Array.getD, hi, ↓reduceDIte, Array.getInternal_eq_getElem] at this
      simpa using this
    subst hlt
    have hdl : (l.drop k).length = l.length - k := by simp
    have := wpAny_of_seq (P := P) (md := .any) (Q' := Q) (ops := l.toArray) (l.drop k) k (Array.replicate k true ++ Array.replicate (l.length - k) false) a w (fun j => by simp [List.getElem?_drop]) (by rw [hdl]; exact hseq) h.2
    rw [hdl] at this
    rw [Nat.zero_add]
    exact this
  | succ fuel ih =>
    intro listed a w hs hcl hf h
    have hne : ¬ (∀ i, i < k → listed.getD i true = true) := fun hh => by rw [none_left listed hh] at hf; cases hf
    have hhd : ∀ i, i < k → i ∈ Region.ready .any l.toArray (listed ++ Array.replicate (l.length - k) false) → i ∈ Region.ready .any (l.take k).toArray listed := by
      intro i hi hm
      rw [mem_ready] at hm ⊢
      obtain ⟨h1, o, h2, h3⟩ := hm
      refine ⟨by rw [gl listed i true hs hi] at h1; exact h1, o, by simpa [List.getElem?_take_of_lt hi] using h2, fun e he hb => ?_⟩
      have h4 := h3 e he hb
      have h5 := (hin i o hi (by simpa using h2)).1 e he hb
      rw [gl listed e.on false hs (by omega)] at h4
      exact h4
    have hdh : ∀ i, i ∈ Region.ready .any (l.take k).toArray listed → i < k ∧ i ∈ Region.ready .any l.toArray (listed ++ Array.replicate (l.length - k) false) := by
      intro i hm
      rw [mem_ready] at hm
      obtain ⟨h1, o, h2, h3⟩ := hm
      have hi : i < k := by have := (Array.getElem?_eq_some_iff.1 h2).1; simpa [hsz] using this
      have h2' : l[i]? = some o := by simpa [List.getElem?_take_of_lt hi] using h2
      refine ⟨hi, ?_⟩
      rw [mem_ready]
      refine ⟨by rw [gl listed i true hs hi]; exact h1, o, by simpa using h2', fun e he hb => ?_⟩
      have h5 := (hin i o hi h2').1 e he hb
      rw [gl listed e.on false hs (by omega)]
      exact h3 e he hb
    have htl : ∀ i, i ∈ Region.ready .any l.toArray (listed ++ Array.replicate (l.length - k) false) → i < k := by
      intro i hm
      by_cases hi : i < k
      · exact hi
      · exfalso
        rw [mem_ready] at hm
        obtain ⟨h1, o, h2, h3⟩ := hm
        have hil : i < l.length := by have := (Array.getElem?_eq_some_iff.1 h2).1; simpa using this
        apply hne
        intro i' hi'
        rw [List.all_eq_true] at htail
        have := htail (i - k) (List.mem_range.2 (by omega))
        rw [List.all_eq_true] at this
        have hbit := this i' (List.mem_range.2 hi')
        rw [show k + (i - k) = i from by omega] at hbit
        have h2' : l[i]? = some o := by simpa using h2
        have hS := ancM_spec (S := fun j => (listed ++ Array.replicate (l.length - k) false).getD j false = true) (fun j p hp hj e he hb => by
          by_cases hjk : j < k
          · rw [gl listed j false hs hjk] at hj
            obtain ⟨q1, q2⟩ := hcl j p hp ⟨hjk, hj⟩ e he hb
            rw [gl listed e.on false hs q1]; exact q2
          · have hjl : j < l.length := (List.getElem?_eq_some_iff.1 hp).1
            rw [gr listed j false hs (by omega) hjl] at hj
            cases hj) i o h2' (fun e he hb => h3 e he hb) i' hbit
        have h4 : listed.getD i' false = true := by rw [gl listed i' false hs hi'] at hS; exact hS
        have h5 : i' < listed.size := by omega
        simp only [Array.getD, h5, ↓reduceDIte, Array.getInternal_eq_getElem] at h4 ⊢
        exact h4
    rw [show fuel + 1 + (l.length - k) = (fuel + (l.length - k)) + 1 from by omega]
    refine ⟨fun hr => ?_, fun i hi => ?_⟩
    · exfalso
      apply hne
      refine all listed hs ?_
      cases hrr : Region.ready .any (l.take k).toArray listed with
      | nil => rfl
      | cons i r =>
        have := (hdh i (by rw [hrr]; simp)).2
        rw [hr] at this
        cases this
    · have hik := htl i hi
      have hst := h.2 i (hhd i hik hi)
      obtain ⟨h1, o, h2, h3⟩ := mem_ready.1 hi
      have h2' : l[i]? = some o := by simpa using h2
      have h2h : (l.take k).toArray[i]? = some o := by simpa [List.getElem?_take_of_lt hik] using h2'
      have hset : (listed ++ Array.replicate (l.length - k) false).setIfInBounds i true = listed.setIfInBounds i true ++ Array.replicate (l.length - k) false := by
        rw [Array.setIfInBounds_append_left]
        omega
      have hless : ((List.range k).filter fun j => !(listed.setIfInBounds i true).getD j true).length = fuel := by
        rw [gl listed i true hs hik] at h1
        have hsub : ((List.range k).filter fun j => !(listed.setIfInBounds i true).getD j true) = ((List.range k).filter fun j => !listed.getD j true).erase i := by
          rw [List.Nodup.erase_eq_filter ((List.nodup_range).filter _), List.filter_filter]
          apply List.filter_congr
          intro j hj
          have hjs : j < listed.size := by rw [hs]; exact List.mem_range.1 hj
          by_cases e : i = j
          · subst e; simp [Array.getD, hjs]
          · simp [Array.getD, hjs, e, Ne.symm e]
        rw [hsub, List.length_erase_of_mem (by rw [List.mem_filter]; exact ⟨List.mem_range.2 hik, by rw [h1]; rfl⟩)]
        omega
      have key : ∀ a' w', wpAny P .any (l.take k).toArray (tailQ P l k Q) fuel (listed.setIfInBounds i true) a' w' → wpAny P .any l.toArray Q (fuel + (l.length - k)) ((listed ++ Array.replicate (l.length - k) false).setIfInBounds i true) a' w' := by
        intro a' w' h'
        rw [hset]
        refine ih _ a' w' (by simpa using hs) (fun j p hp hj e he hb => ?_) hless h'
        by_cases e' : j = i
        · subst e'
          obtain rfl : p = o := by rw [h2'] at hp; exact (Option.some.inj hp).symm
          have q1 := (hin j p hik hp).1 e he hb
          have q2 := h3 e he hb
          rw [gl listed e.on false hs (by omega)] at q2
          refine ⟨by omega, ?_⟩
          simp only [Array.getD, Array.size_setIfInBounds, show e.on < listed.size from by omega, ↓reduceDIte, Array.getInternal_eq_getElem, Array.getElem_setIfInBounds] at q2 ⊢
          split
          · rfl
          · exact q2
        · have q0 : listed.getD j false = true := by
            have := hj.2
            simp only [Array.getD, Array.size_setIfInBounds, show j < listed.size from by omega, ↓reduceDIte, Array.getInternal_eq_getElem, Array.getElem_setIfInBounds, Ne.symm e', if_false] at this ⊢
            exact this
          obtain ⟨q1, q2⟩ := hcl j p hp ⟨hj.1, q0⟩ e he hb
          refine ⟨q1, ?_⟩
          simp only [Array.getD, Array.size_setIfInBounds, show e.on < listed.size from by omega, ↓reduceDIte, Array.getInternal_eq_getElem, Array.getElem_setIfInBounds] at q2 ⊢
          split
          · rfl
          · exact q2
      unfold wpOp at hst ⊢
      rw [h2h] at hst
      rw [h2]
      simp only at hst ⊢
      have hy : Region.wanted o (yielded (l.take k).toArray a.tmps) = Region.wanted o (yielded l.toArray a.tmps) := by
        unfold Region.wanted
        cases hg : o.guard with
        | none => rfl
        | some g =>
          obtain ⟨j, b⟩ := g
          have hj := (hin i o hik h2').2 j b hg
          have : yielded (l.take k).toArray a.tmps j = yielded l.toArray a.tmps j := by
            unfold yielded
            simp [List.getElem?_take_of_lt hj]
          simp only [this]
      rw [hy] at hst
      by_cases hw : Region.wanted o (yielded l.toArray a.tmps) = true
      · rw [if_pos hw] at hst ⊢
        rcases hst with hst | ⟨hst, a1, w1, hq⟩
        · exact .inl (wp_swap key (fun e a w hn hq => by cases e <;> first | exact hq | exact absurd rfl hn) hst)
        · exact .inr ⟨hst, a1, w1, hq⟩
      · rw [if_neg hw] at hst ⊢
        exact key _ _ hst

theorem region_split {l : List Oper} {id : Nat} {a : Act} {w : World} {Q : Exit → Act → World → Prop} (k : Nat) (hm : P.follows .mixedOrders = true) (hB : splitB l k = true)
    (h : wpAny P .any (l.take k).toArray (tailQ P l k Q) (l.take k).toArray.size (Array.replicate (l.take k).toArray.size false) a w.drew) : (Code.region id l.toArray true).wp P Q a w := by
  have hk : k ≤ l.length := by
    simp only [splitB, Bool.and_eq_true, decide_eq_true_eq] at hB
    exact hB.1.1.1
  have hsz : (l.take k).toArray.size = k := by simp; omega
  rw [hsz] at h
  refine wp_region_any hm ?_
  have := split_any hB k _ a w.drew (by simp) (fun i o _ hi => by
    have := hi.2
    rw [getD_replicate_false] at this
    cases this) (by
    rw [List.filter_eq_self.2 (fun i hi => by have := List.mem_range.1 hi; simp [Array.getD, this])]
    simp) h
  rw [show k + (l.length - k) = l.toArray.size from by simp; omega] at this
  have e : (Array.replicate k false ++ Array.replicate (l.length - k) false) = Array.replicate l.toArray.size false := by
    apply Array.ext (by simp; omega)
    intro i h1 h2
    simp [Array.getElem_append]
  rw [e] at this
  exact this
end

/-- An invariant where one operation turns a row of the caller's own: till then nothing that was there is turned, and no other block ever. -/
def OwnG (W : World) (r : Option Nat) (k : Nat) (L : Nat → Bool) (w : World) : Prop := W.grownBy w r ∧ (L k = true ∨ Below W.heap.size W w)
theorem OwnG.fresh {W : World} {r : Option Nat} {k : Nat} {L : Nat → Bool} {w w' : World} (i : Nat) (h : OwnG W r k L w) (hb : Below w.heap.size w w') : OwnG W r k (more L i) w' :=
  ⟨⟨hb.os.trans h.1.os, hb.tape.trans h.1.tape, hb.output.trans h.1.output, Nat.le_trans h.1.size hb.size, fun j hj hn => (hb.block j (Nat.lt_of_lt_of_le hj h.1.size)).trans (h.1.block j hj hn)⟩,
    h.2.elim (fun h => .inl (more_old i h)) fun h => .inr (below_tr h hb)⟩
theorem OwnG.start (W : World) (r : Option Nat) (k : Nat) (L : Nat → Bool) : OwnG W r k L W.drew := ⟨⟨rfl, rfl, rfl, Nat.le_refl _, fun _ _ _ => rfl⟩, .inr ((Below.refl _ _).drew)⟩

end Go.Proofs.Ytjgobljclodpfaa.G
