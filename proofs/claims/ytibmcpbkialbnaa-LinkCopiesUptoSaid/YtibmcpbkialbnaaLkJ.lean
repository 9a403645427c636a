/- Layer 12: small lemmas. No condition. -/
import Derived.Test.YtibmcpbkialbnaaLkF
namespace Go.Proofs.Ytibmcpbkialbnaa
open Go.RowKit K L E
set_option linter.unusedVariables false
set_option linter.unusedSimpArgs false

theorem by_of_row {w w' : World} {v : Value} {m : Nat} {bs : List UInt8} (hm : m = bs.length) (hb : Below w.heap.size w w') (h : w'.ownsRow w.heap.size 5 1 v m (bvs bs)) : Fresh w w' (aBy v bs) := by
  subst hm
  exact ⟨hb, fun b => v.ownBlock = some b, ⟨fun _ => Iff.rfl, own_zero h⟩, fun b hb => (World.ownsRow.lt h b hb).1⟩
theorem turn_len (bs : List UInt8) (k : Nat) : (turnB bs k).length = bs.length := by simp [turnB]
theorem right_same {f g : PF} (h : rightB f = true) (h1 : g.frm = f.frm) (h2 : g.dst = f.dst) (h3 : g.tick = f.tick) (h4 : g.bytes.length = f.bytes.length) : rightB g = true := by
  unfold rightB at h ⊢
  rw [h1, h2, h3, h4]; exact h
end Go.Proofs.Ytibmcpbkialbnaa
namespace Go.Proofs.Ytibmcpbkialbnaa
open Go.RowKit K L E
set_option linter.unusedVariables false
set_option linter.unusedSimpArgs false

def kindAt (j : Nat) : Nat := match j with
  | 3 => 1
  | 4 => 2
  | 5 => 3
  | 6 => 4
  | _ => 0
def kindOf (k : Int) : Nat := kindAt ((IntKind.u64.wrap k).toNat % 7)
def PO.pr (o : PO) : PK := (o.fl.frm, o.fl.dst)
def PL.act (l : PL) (o : PO) : Int × PL := match kindOf o.kind with
  | 0 => l.send o.fl
  | 1 => ((l.give o.pr o.now o.n).1, (l.give o.pr o.now o.n).2.2)
  | 2 => l.lose o.pr o.n
  | 3 => l.dbl o.pr o.n
  | _ => l.spoil o.pr o.n o.bit
theorem PL.act0 {l : PL} {o : PO} (hk : kindOf o.kind = 0) : l.act o = l.send o.fl := by unfold PL.act; simp only [hk]
theorem PL.act1 {l : PL} {o : PO} (hk : kindOf o.kind = 1) : l.act o = ((l.give o.pr o.now o.n).1, (l.give o.pr o.now o.n).2.2) := by unfold PL.act; simp only [hk]
theorem PL.act2 {l : PL} {o : PO} (hk : kindOf o.kind = 2) : l.act o = l.lose o.pr o.n := by unfold PL.act; simp only [hk]
theorem PL.act3 {l : PL} {o : PO} (hk : kindOf o.kind = 3) : l.act o = l.dbl o.pr o.n := by unfold PL.act; simp only [hk]
theorem PL.act4 {l : PL} {o : PO} (hk : kindOf o.kind = 4) : l.act o = l.spoil o.pr o.n o.bit := by unfold PL.act; simp only [hk]
theorem PL.put_at (l : PL) (p : PK) (fs : List PF) (n : Nat) : (l.put p fs n).m p = fs := if_pos rfl
theorem PL.put_ne (l : PL) {p q : PK} (fs : List PF) (n : Nat) (h : q ≠ p) : (l.put p fs n).m q = l.m q := if_neg h
theorem turn_right {f : PF} (k : Nat) (h : rightB f = true) : rightB { f with bytes := turnB f.bytes k } = true := right_same h rfl rfl rfl (turn_len _ _)
theorem PL.ok_give {l : PL} (h : l.ok) (p : PK) (now n : Int) : (l.give p now n).2.2.ok := by
  unfold PL.give
  split
  · exact h
  · split
    · exact h
    · split
      · exact h
      · exact PL.ok_put h fun f hf => h p f (List.mem_of_mem_eraseIdx hf)
theorem PL.ok_lose {l : PL} (h : l.ok) (p : PK) (n : Int) : (l.lose p n).2.ok := by
  unfold PL.lose
  split
  · exact h
  · exact PL.ok_put h fun f hf => h p f (List.mem_of_mem_eraseIdx hf)
theorem PL.ok_dbl {l : PL} (h : l.ok) (p : PK) (n : Int) : (l.dbl p n).2.ok := by
  unfold PL.dbl
  split
  · exact h
  · split
    · exact h
    · exact PL.ok_send h _
theorem PL.ok_spoil {l : PL} (h : l.ok) (p : PK) (n bit : Int) : (l.spoil p n bit).2.ok := by
  unfold PL.spoil
  split
  · exact h
  · split
    · exact h
    · rename_i f hf
      split
      · exact h
      · refine PL.ok_put h fun x hx => ?_
        rcases List.mem_or_eq_of_mem_set hx with hx | rfl
        · exact h p x hx
        · have := h p f (List.mem_of_getElem? hf)
          exact ⟨this.1, turn_right _ this.2⟩
theorem PL.ok_act {l : PL} (h : l.ok) (o : PO) : (l.act o).2.ok := by
  unfold PL.act
  split
  · exact PL.ok_send h _
  · exact PL.ok_give h _ _ _
  · exact PL.ok_lose h _ _
  · exact PL.ok_dbl h _ _
  · exact PL.ok_spoil h _ _ _
def sends (o : PO) : Bool := kindOf o.kind == 0 || kindOf o.kind == 3
theorem send_other (l : PL) (f : PF) {p : PK} (h : p ≠ (f.frm, f.dst)) : (l.send f).2.m p = l.m p := by
  unfold PL.send
  split
  · rfl
  · split
    · rfl
    · exact PL.put_ne _ _ _ h
theorem act_other {l : PL} (hl : l.ok) (o : PO) {p : PK} (h : p ≠ o.pr) : (l.act o).2.m p = l.m p := by
  unfold PL.act
  split
  · exact send_other l o.fl h
  · show (l.give o.pr o.now o.n).2.2.m p = _
    unfold PL.give
    split
    · rfl
    · split
      · rfl
      · split
        · rfl
        · exact PL.put_ne _ _ _ h
  · unfold PL.lose
    split
    · rfl
    · exact PL.put_ne _ _ _ h
  · unfold PL.dbl
    split
    · rfl
    · split
      · rfl
      · rename_i f hf
        refine send_other l f ?_
        rw [(hl o.pr f (List.mem_of_getElem? hf)).1]
        exact h
  · unfold PL.spoil
    split
    · rfl
    · split
      · rfl
      · split
        · rfl
        · exact PL.put_ne _ _ _ h
/-- m holds p's flights of l, and nothing else. -/
structure Alone (p : PK) (l m : PL) : Prop where
  same : l.m p = m.m p
  rest : ∀ q, q ≠ p → m.m q = []
  cnt : m.n = (m.m p).length
theorem Alone.put {p : PK} {l m : PL} (h : Alone p l m) {fs : List PF} {n n' : Nat} (hn : n' = fs.length) : Alone p (l.put p fs n) (m.put p fs n') :=
  ⟨by rw [PL.put_at, PL.put_at], fun q hq => by rw [PL.put_ne _ _ _ hq]; exact h.rest q hq, by rw [PL.put_at]; exact hn⟩
theorem Alone.send {p : PK} {l m : PL} (h : Alone p l m) (f : PF) (hf : (f.frm, f.dst) = p) (h1 : (l.send f).1 ≠ 6) (h2 : (m.send f).1 ≠ 6) : Alone p (l.send f).2 (m.send f).2 := by
  unfold PL.send at *
  split
  · exact h
  · rename_i hr
    rw [if_neg hr] at h1 h2
    have a1 : ¬ l.n = 512 := fun e => h1 (by rw [if_pos e])
    have a2 : ¬ m.n = 512 := fun e => h2 (by rw [if_pos e])
    rw [if_neg a1, if_neg a2]
    show Alone p (l.add f) (m.add f)
    unfold PL.add
    rw [hf, h.same]
    exact h.put (by rw [h.cnt]; simp)
theorem Alone.act {p : PK} {l m : PL} (h : Alone p l m) (hl : l.ok) (o : PO) (ho : o.pr = p) (h1 : sends o = true → (l.act o).1 ≠ 6) (h2 : sends o = true → (m.act o).1 ≠ 6) : Alone p (l.act o).2 (m.act o).2 := by
  unfold PL.act at *
  have hs := h.same
  have hc := h.cnt
  split
  · rename_i hk
    simp only [hk] at h1 h2
    exact h.send o.fl ho (h1 (by simp [sends, hk])) (h2 (by simp [sends, hk]))
  · rw [ho]
    unfold PL.give
    rw [hs]
    split
    · exact h
    · split
      · exact h
      · split
        · exact h
        · rename_i i hi _ f hf
          have := (List.getElem?_eq_some_iff.1 hf).1
          exact h.put (by rw [List.length_eraseIdx]; simp [this]; omega)
  · rw [ho]
    unfold PL.lose
    rw [hs]
    split
    · exact h
    · rename_i hn
      exact h.put (by rw [List.length_eraseIdx, if_pos (by omega)]; omega)
  · rename_i hk
    simp only [hk] at h1 h2
    replace h1 := h1 (by simp [sends, hk])
    replace h2 := h2 (by simp [sends, hk])
    rw [ho] at h1 h2 ⊢
    unfold PL.dbl at *
    rw [hs] at *
    split
    · exact h
    · rename_i hn
      rw [if_neg hn] at h1 h2
      cases hm : (m.m p)[o.n.toNat]? with
      | none => exact h
      | some f =>
        simp only [hm] at h1 h2
        refine h.send f ?_ h1 h2
        exact (hl p f (by rw [h.same]; exact List.mem_of_getElem? hm)).1
  · rw [ho]
    unfold PL.spoil
    rw [hs]
    split
    · exact h
    · split
      · exact h
      · split
        · exact h
        · exact h.put (by rw [List.length_set]; exact hc)
def stF (l : PL) (o : PO) (fl : Bool) : Bool := (sends o && decide ((l.act o).1 = 6)) || fl
theorem stF_no {l : PL} {o : PO} {fl : Bool} (h : stF l o fl = false) : (sends o = true → (l.act o).1 ≠ 6) ∧ fl = false := by
  unfold stF at h
  simp only [Bool.or_eq_false_iff, Bool.and_eq_false_iff, decide_eq_false_iff_not] at h
  exact ⟨fun hs => h.1.resolve_left (by rw [hs]; decide), h.2⟩
theorem Alone.step {p : PK} {l m : PL} {full : Bool} (h : full = false → Alone p l m) (hl : l.ok) (o : PO) {own : Bool} (hown : own = decide (o.pr = p)) (hf : (if own then stF m o (stF l o full) else stF l o full) = false) : Alone p (l.act o).2 (if own then (m.act o).2 else m) := by
  cases own with
  | true =>
    have ho : o.pr = p := of_decide_eq_true hown.symm
    rw [if_pos rfl] at hf ⊢
    obtain ⟨h2, hf⟩ := stF_no hf
    obtain ⟨h1, hf⟩ := stF_no hf
    exact (h hf).act hl o ho h1 h2
  | false =>
    have ho : o.pr ≠ p := of_decide_eq_false hown.symm
    rw [if_neg (by decide)] at hf ⊢
    obtain ⟨h1, hf⟩ := stF_no hf
    have ha := h hf
    exact ⟨by rw [act_other hl o (fun e => ho e.symm)]; exact ha.same, ha.rest, ha.cnt⟩

end Go.Proofs.Ytibmcpbkialbnaa
