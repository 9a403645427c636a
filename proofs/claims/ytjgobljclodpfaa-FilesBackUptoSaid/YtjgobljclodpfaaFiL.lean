/- Layer 5, plain: files, where a name stands, what operations do. No program in sight. No condition. -/
import GoSem.Op.String
import Derived.Test.YtjgobljclodpfaaL
namespace Go.Proofs.Ytjgobljclodpfaa
set_option linter.unusedVariables false
set_option linter.unusedSimpArgs false

/-- A file: its name, its bytes. -/
structure Fl where
  name : List UInt8
  bytes : List UInt8
  deriving DecidableEq

def slt (a b : List UInt8) : Bool := Op.bytesLess a b
def nmOk (s : List UInt8) : Bool := decide (1 ≤ s.length) && decide (s.length ≤ 24)
def cost1 (x : Fl) : Nat := x.name.length + x.bytes.length
def cost (l : List Fl) : Nat := (l.map cost1).sum
def flOk (x : Fl) : Bool := nmOk x.name && decide (x.bytes.length ≤ 4096)
/-- Names rise. -/
def rise : List Fl → Bool
  | x :: y :: r => slt x.name y.name && rise (y :: r)
  | _ => true
def okFs (l : List Fl) : Bool := decide (l.length ≤ 64) && (l.all flOk && rise l) && decide (cost l ≤ 32768)
def place (l : List Fl) (nm : List UInt8) : Nat := (l.takeWhile fun x => slt x.name nm).length
def there (l : List Fl) (nm : List UInt8) : Bool := match l[place l nm]? with | some x => x.name == nm | none => false

theorem cost_snoc (l : List Fl) (x : Fl) : cost (l ++ [x]) = cost l + cost1 x := by simp [cost]
theorem cost_take (l : List Fl) (k : Nat) : cost (l.take k) ≤ cost l := by
  have h : cost l = cost (l.take k) + cost (l.drop k) := by
    conv => lhs; rw [← List.take_append_drop k l]
    unfold cost
    rw [List.map_append, List.sum_append]
  omega

theorem slt_irrefl : ∀ a, slt a a = false
  | [] => rfl
  | x :: a => by
    have := slt_irrefl a
    unfold slt at this ⊢
    simp [Op.bytesLess, this, UInt8.lt_irrefl]
theorem slt_trans : ∀ {a b c}, slt a b = true → slt b c = true → slt a c = true
  | a, b, [], _, h => by cases b <;> simp [slt, Op.bytesLess] at h
  | [], _, _ :: _, _, _ => rfl
  | x :: a, [], z :: c, h, _ => by simp [slt, Op.bytesLess] at h
  | x :: a, y :: b, z :: c, h, k => by
    have ih := @slt_trans a b c
    unfold slt at *
    simp only [Op.bytesLess, Bool.or_eq_true, Bool.and_eq_true, decide_eq_true_eq, beq_iff_eq] at h k ⊢
    rcases h with h | ⟨rfl, h⟩
    · rcases k with k | ⟨rfl, k⟩
      · exact .inl (UInt8.lt_trans h k)
      · exact .inl h
    · rcases k with k | ⟨rfl, k⟩
      · exact .inl k
      · exact .inr ⟨rfl, ih h k⟩
theorem slt_total : ∀ {a b}, slt a b = false → slt b a = false → a = b
  | [], [], _, _ => rfl
  | [], y :: b, h, _ => by simp [slt, Op.bytesLess] at h
  | x :: a, [], _, k => by simp [slt, Op.bytesLess] at k
  | x :: a, y :: b, h, k => by
    have ih := @slt_total a b
    unfold slt at *
    simp only [Op.bytesLess, Bool.or_eq_false_iff, Bool.and_eq_false_iff, decide_eq_false_iff_not, beq_eq_false_iff_ne] at h k
    have e : x = y := by
      have h1 : ¬ x.toNat < y.toNat := h.1
      have h2 : ¬ y.toNat < x.toNat := k.1
      exact UInt8.toNat_inj.1 (by omega)
    subst e
    rw [ih (h.2.resolve_left (fun h => h rfl)) (k.2.resolve_left (fun h => h rfl))]
theorem slt_asymm {a b : List UInt8} (h : slt a b = true) : slt b a = false := by
  cases k : slt b a
  · rfl
  · have := slt_trans h k
    rw [slt_irrefl] at this
    cases this

theorem rise_at : ∀ (l : List Fl), rise l = true → ∀ (i : Nat) (h : i + 1 < l.length), slt l[i].name l[i + 1].name = true
  | [], _, i, h => by simp at h
  | [x], _, i, h => by simp at h
  | x :: y :: r, hr, i, h => by
    simp only [rise, Bool.and_eq_true] at hr
    cases i with
    | zero => exact hr.1
    | succ i => exact rise_at (y :: r) hr.2 i (by simpa using h)
theorem rise_lt (l : List Fl) (hr : rise l = true) (i : Nat) : ∀ (d : Nat) (h : i + (d + 1) < l.length), slt l[i].name l[i + (d + 1)].name = true
  | 0, h => rise_at l hr i h
  | d + 1, h => slt_trans (rise_lt l hr i d (by omega)) (rise_at l hr (i + (d + 1)) (by omega))
theorem rise_of : ∀ (l : List Fl), (∀ (i : Nat) (h : i + 1 < l.length), slt l[i].name l[i + 1].name = true) → rise l = true
  | [], _ => rfl
  | [x], _ => rfl
  | x :: y :: r, h => by
    simp only [rise, Bool.and_eq_true]
    exact ⟨h 0 (by simp), rise_of (y :: r) fun i hi => h (i + 1) (by simpa using hi)⟩
theorem rise_no (l : List Fl) (i : Nat) (h : i + 1 < l.length) (hs : slt l[i].name l[i + 1].name = false) : rise l = false := by
  cases hr : rise l
  · rfl
  · rw [rise_at l hr i h] at hs; cases hs

theorem place_pos {x : Fl} {l : List Fl} {nm : List UInt8} (h : slt x.name nm = true) : place (x :: l) nm = place l nm + 1 := by simp [place, h]
theorem place_neg {x : Fl} {l : List Fl} {nm : List UInt8} (h : slt x.name nm = false) : place (x :: l) nm = 0 := by simp [place, h]
/-- The place, by what stands before and behind it. -/
theorem place_of (l : List Fl) (nm : List UInt8) (i : Nat) (hi : i ≤ l.length) (h1 : ∀ (j : Nat) (h : j < l.length), j < i → slt l[j].name nm = true) (h2 : ∀ (h : i < l.length), slt l[i].name nm = false) : place l nm = i := by
  induction l generalizing i with
  | nil => simp at hi; simp [place, hi]
  | cons x l ih =>
    cases i with
    | zero =>
      have := h2 (by simp)
      simp only [List.getElem_cons_zero] at this
      exact place_neg this
    | succ i =>
      have h0 := h1 0 (by simp) (by omega)
      simp only [List.getElem_cons_zero] at h0
      rw [place_pos h0, ih i (by simpa using hi) (fun j h hj => h1 (j + 1) (by simpa using h) (by omega)) (fun h => h2 (by simpa using h))]
theorem place_le (l : List Fl) (nm : List UInt8) : place l nm ≤ l.length := by
  unfold place
  exact (List.takeWhile_sublist _).length_le
theorem place_before (l : List Fl) (nm : List UInt8) : ∀ (j : Nat) (h : j < l.length), j < place l nm → slt l[j].name nm = true := by
  induction l with
  | nil => intro j h; simp at h
  | cons x l ih =>
    intro j h hj
    cases h0 : slt x.name nm
    · rw [place_neg h0] at hj; omega
    · rw [place_pos h0] at hj
      cases j with
      | zero => exact h0
      | succ j => exact ih j (by simpa using h) (by omega)
theorem place_at (l : List Fl) (nm : List UInt8) : ∀ (h : place l nm < l.length), slt l[place l nm].name nm = false := by
  induction l with
  | nil => intro h; simp [place] at h
  | cons x l ih =>
    intro h
    cases h0 : slt x.name nm
    · have e := place_neg (l := l) h0
      simp only [e, List.getElem_cons_zero]
      exact h0
    · have e := place_pos (l := l) h0
      have := ih (by rw [e] at h; simpa using h)
      simp only [e, List.getElem_cons_succ]
      exact this
theorem there_eq (l : List Fl) (nm : List UInt8) (h : place l nm < l.length) : there l nm = (l[place l nm].name == nm) := by
  unfold there; rw [List.getElem?_eq_getElem h]
theorem there_no (l : List Fl) (nm : List UInt8) (h : ¬ place l nm < l.length) : there l nm = false := by
  unfold there; rw [List.getElem?_eq_none (by omega)]

/-- Among rising names, before the place all are less. -/
theorem rise_before (l : List Fl) (hr : rise l = true) (nm : List UInt8) (h : Nat) (hh : h < l.length) (hs : slt l[h].name nm = true) : ∀ j (hj : j < l.length), j ≤ h → slt l[j].name nm = true := by
  intro j hj hle
  by_cases e : j = h
  · subst e; exact hs
  · obtain ⟨d, rfl⟩ : ∃ d, h = j + (d + 1) := ⟨h - j - 1, by omega⟩
    exact slt_trans (rise_lt l hr j d hh) hs
theorem rise_behind (l : List Fl) (hr : rise l = true) (nm : List UInt8) (h : Nat) (hh : h < l.length) (hs : slt l[h].name nm = false) : ∀ j (hj : j < l.length), h ≤ j → slt l[j].name nm = false := by
  intro j hj hle
  cases hc : slt l[j].name nm
  · rfl
  · rw [rise_before l hr nm j hj hc h hh hle] at hs; cases hs

def ckErr (l : List Fl) : Int := if okFs l = true then 0 else 150
def okTo (l : List Fl) (k : Nat) : Bool := (l.take k).all flOk && rise (l.take k)
theorem ok_long {l : List Fl} (h : 64 < l.length) : okFs l = false := by simp [okFs]; omega
theorem rise_take {l : List Fl} (h : rise l = true) (k : Nat) : rise (l.take k) = true := by
  refine rise_of _ fun i hi => ?_
  simp only [List.length_take] at hi
  simp only [List.getElem_take]
  exact rise_at l h i (by omega)
theorem ok_bad {l : List Fl} {k : Nat} (hk : k < l.length) (h : flOk l[k] = false) : okFs l = false := by
  have : l.all flOk = false := by
    rw [← Bool.not_eq_true, List.all_eq_true]
    intro ha
    rw [ha _ (List.getElem_mem hk)] at h
    cases h
  simp [okFs, this]
theorem ok_fall {l : List Fl} {k : Nat} (hk : k + 1 < l.length) (h : slt l[k].name l[k + 1].name = false) : okFs l = false := by
  simp [okFs, rise_no l k hk h]
theorem okTo_zero (l : List Fl) : okTo l 0 = true := by simp [okTo, rise]
theorem okTo_succ {l : List Fl} {k : Nat} (hk : k < l.length) (h : okTo l k = true) (h1 : flOk l[k] = true) (h2 : ∀ j (e : k = j + 1), slt (l[j]'(by omega)).name l[k].name = true) : okTo l (k + 1) = true := by
  simp only [okTo, Bool.and_eq_true] at h ⊢
  refine ⟨?_, rise_of _ fun i hi => ?_⟩
  · rw [List.take_succ_eq_append_getElem hk, List.all_append, h.1]
    simp [h1]
  · simp only [List.length_take] at hi
    simp only [List.getElem_take]
    by_cases e : i + 1 = k
    · subst e; exact h2 i rfl
    · have := rise_at _ h.2 i (by rw [List.length_take]; omega)
      simpa only [List.getElem_take] using this
theorem okTo_end {l : List Fl} (h : okTo l l.length = true) : okFs l = (decide (l.length ≤ 64) && decide (cost l ≤ 32768)) := by
  unfold okTo at h
  rw [List.take_length, Bool.and_eq_true] at h
  simp [okFs, h.1, h.2]

def getE (l : List Fl) (nm : List UInt8) : Int := if okFs l = true then (if there l nm = true then 0 else 4) else 150
def getB (l : List Fl) (nm : List UInt8) : List UInt8 := if getE l nm = 0 then ((l[place l nm]?).map (·.bytes)).getD [] else []
def findP (l : List Fl) (nm : List UInt8) : Nat := if okFs l = true then place l nm else 0
def findT (l : List Fl) (nm : List UInt8) : Bool := okFs l && there l nm
theorem there_lt {l : List Fl} {nm : List UInt8} (h : there l nm = true) : place l nm < l.length := by
  by_cases hl : place l nm < l.length
  · exact hl
  · rw [there_no l nm hl] at h; cases h
theorem ok_rise {l : List Fl} (h : okFs l = true) : rise l = true := by simp [okFs] at h; exact h.1.2.2
theorem ok_len {l : List Fl} (h : okFs l = true) : l.length ≤ 64 := by simp [okFs] at h; exact h.1.1
theorem ok_cost {l : List Fl} (h : okFs l = true) : cost l ≤ 32768 := by simp [okFs] at h; exact h.2
theorem ok_at {l : List Fl} (h : okFs l = true) {x : Fl} (hx : x ∈ l) : nmOk x.name = true ∧ x.bytes.length ≤ 4096 := by
  simp only [okFs, Bool.and_eq_true, List.all_eq_true] at h
  have := h.1.2.1 x hx
  simpa [flOk] using this

end Go.Proofs.Ytjgobljclodpfaa
