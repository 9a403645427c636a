/- Layer 11: what Decode says, plainly; the laws of its walk. No condition beyond sizes. -/
import Derived.Test.YtmcldnfemlaeiaaPduK
import Derived.Test.YtmcldnfemlaeiaaG3
namespace Go.Proofs.Ytmcldnfemlaeiaa
open Go.RowKit K L
set_option linter.unusedVariables false
set_option linter.unusedSimpArgs false

/-- 'string(b)' as a step of the walk. -/
theorem conv_str {P : Program} {w : World} {src dst e : TypeId} {ops : Array Oper} {rest : List Oper} {o : Oper} {a : Act} {Q : Exit → Act → World → Prop}
    (hw : Region.wanted o (yielded ops a.tmps) = true) (x : Operand) (ho : o.op = .convert src dst x) {F : Nat → Prop} {v : Value} {xs : List UInt8} (h : Bs w F v xs) (hx : a.eval x = v)
    (hs : P.underlying src = some (.slice e)) (he : P.underlying e = some (.int .u8)) (hd : P.underlying dst = some .string)
    (hk : wpList P ops Q rest (a.put o.dst (.string ⟨xs.toArray⟩)) w) : wpList P ops Q (o :: rest) a w := by
  refine BigFrame.wpList_want hw fun K hK => ?_
  have hr := run_string (P := P) w h hs he hd
  unfold Oper.wp execOp
  simp only [ho, hx, Sem.run_bind, hr, Result.andThen_ok, Sem.run_pure]
  exact hK _ _ hk

/-- What a chain of reads makes of the bytes behind the kind. -/
def chain (k : Int) (r : Rs) : Msg × Rs :=
  let a := r.take 4
  let b := if fldN k then ((a.1.take 1).1.take (num (a.1.take 1).2 : Nat)) else (a.1, [])
  let c := if fldS k then b.1.take 2 else (b.1, [])
  let d := if fldO k then c.1.take 2 else (c.1, [])
  let u := if fldU k then d.1.take 4 else (d.1, [])
  let v := if fldC k then u.1.take 1 else (u.1, [])
  let z := if fldB k then ((v.1.take 2).1.take (num (v.1.take 2).2 : Nat)) else (v.1, [])
  (⟨k, num a.2, b.2, (num c.2 : Nat), (num d.2 : Nat), num u.2, (num v.2 : Nat), z.2⟩, z.1)

def kindOf (xs : List UInt8) : Int := (num (Rs.take ⟨xs, 0, 0⟩ 1).2 : Nat)
def decR (xs : List UInt8) : Msg × Rs := chain (kindOf xs) (Rs.take ⟨xs, 0, 0⟩ 1).1
def noMsg : Msg := ⟨0, 0, [], 0, 0, 0, 0, []⟩
/-- What Decode says. -/
def decE (xs : List UInt8) : Int :=
  if 0 < xs.length ∧ fbits (kindOf xs) = 0 then 210 else if (decR xs).2.err ≠ 0 then 7 else if (decR xs).2.pos < (decR xs).2.xs.length ∨ ¬ (decR xs).1.ok then 210 else 0
def decM (xs : List UInt8) : Msg := if decE xs = 0 then (decR xs).1 else noMsg

theorem Rs.take_pos (r : Rs) (n : Int) (h : r.pos ≤ r.xs.length) : (r.take n).1.pos ≤ (r.take n).1.xs.length := by
  unfold Rs.take
  split
  · exact h
  · split
    · exact h
    · split
      · exact h
      · simp only; omega
theorem Rs.take_num1 (r : Rs) : num (r.take 1).2 < 256 := Rs.num_lt r 1
theorem Rs.take_num2 (r : Rs) : num (r.take 2).2 < 65536 := Rs.num_lt r 2
theorem Rs.take_num4 (r : Rs) : num (r.take 4).2 < 4294967296 := Rs.num_lt r 4

/-- A cell of a block written. -/
theorem put_cell {w : World} {p b : Nat} {r : Rs} {cs : Array Value} {T : TypeId} {B0 : Nat} {w0 : World} (hm : w.heap[p]? = some (.cells cs T (0, 0))) (i : Nat) (u : Value) (hR : IsR w b r) (hpb : b < p) (hB : Below B0 w0 w) (hp : B0 ≤ p) {q : Nat} {x : Obj} (hq : w.heap[q]? = some x) (hqp : q ≠ p) :
    (w.setCell ⟨p, i, none⟩ u).heap[p]? = some (.cells (cs.setIfInBounds i u) T (0, 0)) ∧ IsR (w.setCell ⟨p, i, none⟩ u) b r ∧ Below B0 w0 (w.setCell ⟨p, i, none⟩ u) ∧ (w.setCell ⟨p, i, none⟩ u).heap[q]? = some x ∧ (w.setCell ⟨p, i, none⟩ u).heap.size = w.heap.size := by
  refine ⟨heap_setCell_same w p i _ _ u hm, hR.keep fun k hk => heap_setCell_other w ⟨p, i, none⟩ k u (by simp; omega), below_sc hB hp u, heap_sc hq _ _ hqp, by simp⟩

theorem dec_short {xs : List UInt8} {k : Int} {m : Msg} {r : Rs} (hk : kindOf xs = k) (hf : fbits k ≠ 0) (h : decR xs = (m, r)) (he : r.err ≠ 0) : decE xs = 7 ∧ decM xs = noMsg := by
  have e : decE xs = 7 := by unfold decE; rw [if_neg (by rw [hk]; exact fun h => hf h.2), h, if_pos he]
  exact ⟨e, by unfold decM; rw [e, if_neg (by decide)]⟩
theorem dec_bad {xs : List UInt8} {k : Int} {m : Msg} {r : Rs} (hk : kindOf xs = k) (hf : fbits k ≠ 0) (h : decR xs = (m, r)) (he : r.err = 0) (hb : r.pos < r.xs.length ∨ ¬ m.ok) : decE xs = 210 ∧ decM xs = noMsg := by
  have e : decE xs = 210 := by unfold decE; rw [if_neg (by rw [hk]; exact fun h => hf h.2), h, if_neg (by simpa using he), if_pos hb]
  exact ⟨e, by unfold decM; rw [e, if_neg (by decide)]⟩
theorem dec_good {xs : List UInt8} {k : Int} {m : Msg} {r : Rs} (hk : kindOf xs = k) (hf : fbits k ≠ 0) (h : decR xs = (m, r)) (he : r.err = 0) (hb : ¬ r.pos < r.xs.length) (hok : m.ok) : decE xs = 0 ∧ decM xs = m := by
  have e : decE xs = 0 := by unfold decE; rw [if_neg (by rw [hk]; exact fun h => hf h.2), h, if_neg (by simpa using he), if_neg (fun h => h.elim hb (fun h => h hok))]
  exact ⟨e, by unfold decM; rw [e, if_pos rfl, h]⟩

theorem dec_nil : decE [] = 7 ∧ decM [] = noMsg := by
  have e : decE [] = 7 := by decide
  exact ⟨e, by unfold decM; rw [e, if_neg (by decide)]⟩
theorem dec_none {xs : List UInt8} (hx : 0 < xs.length) (hk : fbits (kindOf xs) = 0) : decE xs = 210 ∧ decM xs = noMsg := by
  have e : decE xs = 210 := by unfold decE; rw [if_pos ⟨hx, hk⟩]
  exact ⟨e, by unfold decM; rw [e, if_neg (by decide)]⟩

theorem ob_other {w : World} {base e : Nat} {v : Value} {xs : List UInt8} (h : Ob w base e v xs) (q i : Nat) (u : Value) (hq : q < base) : Ob (w.setCell ⟨q, i, none⟩ u) base e v xs :=
  World.ownsRow.kept h (row := some q) ⟨rfl, rfl, rfl, by simp, fun k _ hk => heap_setCell_other w ⟨q, i, none⟩ k u (fun e => hk (by simp [e]))⟩ (by
    cases ho : v.ownBlock with
    | none => exact .inl rfl
    | some b => refine .inr fun e => ?_
                have := (World.ownsRow.lt h b ho).1
                cases e
                omega)

/-- Eight cells of one block written. -/
theorem eight {w : World} {q : Nat} {T : TypeId} {z0 z1 z2 z3 z4 z5 z6 z7 : Value} (h : w.heap[q]? = some (.cells #[z0, z1, z2, z3, z4, z5, z6, z7] T (0, 0))) (u0 u1 u2 u3 u4 u5 u6 u7 : Value) :
    ((((((((w.setCell ⟨q, 0, none⟩ u0).setCell ⟨q, 1, none⟩ u1).setCell ⟨q, 2, none⟩ u2).setCell ⟨q, 3, none⟩ u3).setCell ⟨q, 4, none⟩ u4).setCell ⟨q, 5, none⟩ u5).setCell ⟨q, 6, none⟩ u6).setCell ⟨q, 7, none⟩ u7).heap[q]? = some (.cells #[u0, u1, u2, u3, u4, u5, u6, u7] T (0, 0)) ∧
    (∀ {B : Nat} {w0 : World}, Below B w0 w → B ≤ q → Below B w0 ((((((((w.setCell ⟨q, 0, none⟩ u0).setCell ⟨q, 1, none⟩ u1).setCell ⟨q, 2, none⟩ u2).setCell ⟨q, 3, none⟩ u3).setCell ⟨q, 4, none⟩ u4).setCell ⟨q, 5, none⟩ u5).setCell ⟨q, 6, none⟩ u6).setCell ⟨q, 7, none⟩ u7)) ∧
    (∀ {base e : Nat} {v : Value} {xs : List UInt8}, Ob w base e v xs → q < base → Ob ((((((((w.setCell ⟨q, 0, none⟩ u0).setCell ⟨q, 1, none⟩ u1).setCell ⟨q, 2, none⟩ u2).setCell ⟨q, 3, none⟩ u3).setCell ⟨q, 4, none⟩ u4).setCell ⟨q, 5, none⟩ u5).setCell ⟨q, 6, none⟩ u6).setCell ⟨q, 7, none⟩ u7) base e v xs) := by
  refine ⟨?_, fun hb hq => ?_, fun ho hq => ?_⟩
  · have h0 := heap_setCell_same w q 0 _ _ u0 h
    have h1 := heap_setCell_same _ q 1 _ _ u1 h0
    have h2 := heap_setCell_same _ q 2 _ _ u2 h1
    have h3 := heap_setCell_same _ q 3 _ _ u3 h2
    have h4 := heap_setCell_same _ q 4 _ _ u4 h3
    have h5 := heap_setCell_same _ q 5 _ _ u5 h4
    have h6 := heap_setCell_same _ q 6 _ _ u6 h5
    have h7 := heap_setCell_same _ q 7 _ _ u7 h6
    simpa only [List.setIfInBounds_toArray, List.set_cons_succ, List.set_cons_zero] using h7
  · exact below_sc (below_sc (below_sc (below_sc (below_sc (below_sc (below_sc (below_sc hb hq _) hq _) hq _) hq _) hq _) hq _) hq _) hq _
  · exact ob_other (ob_other (ob_other (ob_other (ob_other (ob_other (ob_other (ob_other ho _ _ _ hq) _ _ _ hq) _ _ _ hq) _ _ _ hq) _ _ _ hq) _ _ _ hq) _ _ _ hq) _ _ _ hq

end Go.Proofs.Ytmcldnfemlaeiaa
