/- Layer 27: what the reference's loop has found, kind by kind: plain laws. No condition. -/
import Derived.Test.YtfdijgdojejimaaIdR0
namespace Go.Proofs.Ytfdijgdojejimaa
open Go.RowKit Go.Shelf K L
set_option linter.unusedVariables false
set_option linter.unusedSimpArgs false

theorem or_fold (st : Bool → Fact → Bool) (k : Int) (p : Fact → Bool) (l : List Fact) (h : ∀ b x, st b x = (b || (decide (x.kind = k) && p x))) : l.foldl st false = hv l k p := by
  have : ∀ z, l.foldl st z = (z || hv l k p) := by
    induction l with
    | nil => intro z; simp [hv]
    | cons x l ih =>
      intro z
      rw [List.foldl_cons, ih, h]
      simp [hv, Bool.or_assoc]
  rw [this, Bool.false_or]
theorem no_fold (st : Bool → Fact → Bool) (l : List Fact) (h : ∀ b x, st b x = b) : l.foldl st false = false := by
  have : ∀ z, l.foldl st z = z := by
    induction l with
    | nil => intro z; rfl
    | cons x l ih => intro z; rw [List.foldl_cons, ih, h]
  exact this _
theorem max_fold (st : Nat → Fact → Nat) (k : Int) (p : Fact → Bool) (l : List Fact) (h : ∀ n x, st n x = if (decide (x.kind = k) && p x) = true then max n x.number else n) : l.foldl st 0 = great l k p := by
  unfold great
  congr 1
  funext n x
  exact h n x
theorem beq_dec (a b : Int) : (a == b) = decide (a = b) := by rw [Bool.eq_iff_iff]; simp

theorem l_1 (f : Fact) (l : List Fact) (h : f.kind = 1) : lR f l = great l 1 (fun x => x.node == f.node) := by
  refine max_fold _ _ _ _ fun n x => ?_
  unfold stepL c16; simp only [h, beq_dec]; by_cases hk : x.kind = 1 <;> simp [hk]
theorem l_2 (f : Fact) (l : List Fact) (h : f.kind = 2) : lR f l = great l 2 (fun x => x.node == f.node && x.name == f.name) := by
  refine max_fold _ _ _ _ fun n x => ?_
  unfold stepL c16; simp only [h]; by_cases hk : x.kind = 2 <;> simp [hk]
theorem l_4 (f : Fact) (l : List Fact) (h : f.kind = 4) : lR f l = great l 4 f.forth := by
  refine max_fold _ _ _ _ fun n x => ?_
  unfold stepL c16; simp only [h]; by_cases hk : x.kind = 4 <;> simp [hk]
theorem l_9 (f : Fact) (l : List Fact) (h : f.kind = 9) : lR f l = great l 9 f.forth := by
  refine max_fold _ _ _ _ fun n x => ?_
  unfold stepL c16; simp only [h]; by_cases hk : x.kind = 9 <;> simp [hk]
theorem g_6 (f : Fact) (l : List Fact) (h : f.kind = 6) : gR f l = hv l 1 (fun x => f.back x && f.like x && f.fits x) := by
  refine or_fold _ _ _ _ fun b x => ?_
  unfold stepG k23 k25 k29 k33 k35; simp [h, beq_dec, Bool.and_assoc]
theorem t_6 (f : Fact) (l : List Fact) (h : f.kind = 6) : tR f l = hv l 6 (fun x => f.forth x && f.num x) := by
  refine or_fold _ _ _ _ fun b x => ?_
  unfold stepT c16 c21 Fact.num; by_cases hk : x.kind = 6 <;> simp [h, hk]
theorem g_7 (f : Fact) (l : List Fact) (h : f.kind = 7) : gR f l = hv l 1 (fun x => f.forth x && f.fits x) := by
  refine or_fold _ _ _ _ fun b x => ?_
  unfold stepG k23 k25 k29 k33 k35; simp [h, beq_dec, Bool.and_assoc]
theorem t_7 (f : Fact) (l : List Fact) (h : f.kind = 7) : tR f l = hv l 7 (fun x => x.node == f.node && f.num x) := by
  refine or_fold _ _ _ _ fun b x => ?_
  unfold stepT c16 c21 Fact.num; by_cases hk : x.kind = 7 <;> simp [h, hk]
theorem s_7 (f : Fact) (l : List Fact) (h : f.kind = 7) : sR f l = hv l 6 (fun x => f.back x && f.num x) := by
  refine or_fold _ _ _ _ fun b x => ?_
  unfold stepS k27 k31 k37 Fact.num; simp [h, beq_dec, Bool.and_assoc]
theorem g_8 (f : Fact) (l : List Fact) (h : f.kind = 8) : gR f l = hv l 2 (fun x => x.node == f.frm && f.like x && f.fits x) := by
  refine or_fold _ _ _ _ fun b x => ?_
  unfold stepG k23 k25 k29 k33 k35; simp [h, beq_dec, Bool.and_assoc]
theorem s_8 (f : Fact) (l : List Fact) (h : f.kind = 8) : sR f l = hv l 3 f.same := by
  refine or_fold _ _ _ _ fun b x => ?_
  unfold stepS k27 k31 k37 Fact.same; simp [h, beq_dec, Bool.and_assoc]
theorem t_8 (f : Fact) (l : List Fact) (h : f.kind = 8) : tR f l = hv l 8 (fun x => f.same x && decide ((f.number : Int) ≤ x.number)) := by
  refine or_fold _ _ _ _ fun b x => ?_
  unfold stepT c16 c21 Fact.same; by_cases hk : x.kind = 8 <;> simp [h, hk, Bool.and_assoc]
theorem g_9 (f : Fact) (l : List Fact) (h : f.kind = 9) : gR f l = hv l 4 (fun x => f.back x && f.fits x) := by
  refine or_fold _ _ _ _ fun b x => ?_
  unfold stepG k23 k25 k29 k33 k35; simp [h, beq_dec, Bool.and_assoc]
theorem g_10 (f : Fact) (l : List Fact) (h : f.kind = 10) : gR f l = hv l 4 (fun x => f.forth x && f.fits x) := by
  refine or_fold _ _ _ _ fun b x => ?_
  unfold stepG k23 k25 k29 k33 k35; simp [h, beq_dec, Bool.and_assoc]
theorem t_10 (f : Fact) (l : List Fact) (h : f.kind = 10) : tR f l = hv l 10 (fun x => f.forth x && f.num x) := by
  refine or_fold _ _ _ _ fun b x => ?_
  unfold stepT c16 c21 Fact.num; by_cases hk : x.kind = 10 <;> simp [h, hk]
theorem s_10 (f : Fact) (l : List Fact) (h : f.kind = 10) : sR f l = hv l 9 (fun x => f.back x && f.num x && x.code == f.code) := by
  refine or_fold _ _ _ _ fun b x => ?_
  unfold stepS k27 k31 k37 Fact.num; simp [h, beq_dec, Bool.and_assoc]

end Go.Proofs.Ytfdijgdojejimaa
