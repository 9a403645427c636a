/- Layer 5, plain: operations on files; the document's and the program's are the same on rising names. No condition. -/
import Derived.Test.YtjgobljclodpfaaFi7
import Derived.Test.YtjgobljclodpfaaFr4
namespace Go.Proofs.Ytjgobljclodpfaa
set_option linter.unusedVariables false
set_option linter.unusedSimpArgs false

theorem rise_pw {l : List Fl} : rise l = true ↔ l.Pairwise fun x y => slt x.name y.name = true := by
  constructor
  · intro h
    rw [List.pairwise_iff_getElem]
    intro i j hi hj hij
    obtain ⟨d, rfl⟩ : ∃ d, j = i + (d + 1) := ⟨j - i - 1, by omega⟩
    exact rise_lt l h i d hj
  · intro h
    rw [List.pairwise_iff_getElem] at h
    exact rise_of l fun i hi => h i (i + 1) (by omega) hi (by omega)

theorem take_less {l : List Fl} {nm : List UInt8} : ∀ a ∈ l.take (place l nm), slt a.name nm = true := by
  intro a ha
  obtain ⟨j, hj, rfl⟩ := List.getElem_of_mem ha
  simp only [List.length_take] at hj
  simp only [List.getElem_take]
  exact place_before l nm j (by omega) (by omega)
theorem drop_not {l : List Fl} (hr : rise l = true) {nm : List UInt8} : ∀ c ∈ l.drop (place l nm), slt c.name nm = false := by
  intro c hc
  obtain ⟨j, hj, rfl⟩ := List.getElem_of_mem hc
  simp only [List.length_drop] at hj
  simp only [List.getElem_drop]
  exact rise_behind l hr nm (place l nm) (by omega) (place_at l nm (by omega)) _ (by omega) (by omega)
/-- Behind the place all are greater, but for the name itself. -/
theorem drop1_more {l : List Fl} (hr : rise l = true) {nm : List UInt8} : ∀ c ∈ l.drop (place l nm + 1), slt nm c.name = true := by
  intro c hc
  obtain ⟨j, hj, rfl⟩ := List.getElem_of_mem hc
  simp only [List.length_drop] at hj
  simp only [List.getElem_drop]
  have h0 := place_at l nm (by omega)
  obtain ⟨d, hd⟩ : ∃ d, place l nm + 1 + j = place l nm + (d + 1) := ⟨j, by omega⟩
  have h1 := rise_lt l hr (place l nm) d (by omega)
  simp only [hd]
  generalize l[place l nm].name = q at h0 h1
  cases h2 : slt nm q
  · have e := slt_total h2 h0
    subst e
    exact h1
  · exact slt_trans h2 h1
theorem drop_more {l : List Fl} (hr : rise l = true) {nm : List UInt8} (ht : there l nm = false) : ∀ c ∈ l.drop (place l nm), slt nm c.name = true := by
  intro c hc
  have h0 := drop_not hr c hc
  by_cases hl : place l nm < l.length
  · rw [there_eq l nm hl] at ht
    rw [List.drop_eq_getElem_cons hl] at hc
    rcases List.mem_cons.1 hc with rfl | hc
    · cases h2 : slt nm l[place l nm].name
      · have := slt_total h2 h0
        rw [← this] at ht
        simp at ht
      · rfl
    · exact drop1_more hr c hc
  · rw [List.drop_of_length_le (by omega)] at hc
    cases hc

theorem rise_putF {l : List Fl} (hr : rise l = true) (nm b : List UInt8) : rise (putF l nm b) = true := by
  unfold putF
  split
  · rename_i ht
    have hl := there_lt ht
    rw [there_eq l nm hl] at ht
    have hn : l[place l nm].name = nm := by simpa using ht
    refine rise_of _ fun i hi => ?_
    simp only [List.length_set] at hi
    have key : ∀ j (h : j < l.length), ((l.set (place l nm) ⟨nm, b⟩)[j]'(by simpa using h)).name = l[j].name := by
      intro j h
      rw [List.getElem_set]
      split
      · rename_i e; subst e; exact hn.symm
      · rfl
    rw [key i (by omega), key (i + 1) hi]
    exact rise_at l hr i hi
  · rename_i ht
    have ht' : there l nm = false := by simpa using ht
    have hp := rise_pw.1 hr
    rw [rise_pw, List.pairwise_append]
    refine ⟨?_, hp.sublist (List.drop_sublist _ _), ?_⟩
    · rw [List.pairwise_append]
      refine ⟨hp.sublist (List.take_sublist _ _), by simp, fun a ha c hc => ?_⟩
      obtain rfl := List.mem_singleton.1 hc
      exact take_less a ha
    · intro a ha c hc
      have hm := drop_more hr ht' c hc
      rcases List.mem_append.1 ha with ha | ha
      · exact slt_trans (take_less a ha) hm
      · obtain rfl := List.mem_singleton.1 ha
        exact hm
theorem rise_delF {l : List Fl} (hr : rise l = true) (nm : List UInt8) : rise (delF l nm) = true := by
  unfold delF
  split
  · have hp := rise_pw.1 hr
    rw [rise_pw]
    refine hp.sublist ?_
    conv => rhs; rw [← List.take_append_drop (place l nm) l]
    refine List.Sublist.append_left ?_ _
    rw [← List.drop_drop]
    exact List.drop_sublist _ _
  · exact hr

theorem filter_all {l : List Fl} {p : Fl → Bool} (h : ∀ c ∈ l, p c = true) : l.filter p = l := List.filter_eq_self.2 h
theorem name_ne_of_lt {a nm : List UInt8} (h : slt a nm = true) : (a == nm) = false := by
  rw [beq_eq_false_iff_ne]; rintro rfl; rw [slt_irrefl] at h; cases h
theorem name_ne_of_gt {a nm : List UInt8} (h : slt nm a = true) : (a == nm) = false := by
  rw [beq_eq_false_iff_ne]; rintro rfl; rw [slt_irrefl] at h; cases h

theorem dropF_eq {l : List Fl} (hr : rise l = true) (nm : List UInt8) : dropF l nm = delF l nm := by
  unfold dropF delF
  have h1 : (l.take (place l nm)).filter (fun x => !(x.name == nm)) = l.take (place l nm) := filter_all fun c hc => by rw [name_ne_of_lt (take_less c hc)]; rfl
  split
  · rename_i ht
    have hl := there_lt ht
    rw [there_eq l nm hl] at ht
    conv => lhs; rw [← List.take_append_drop (place l nm) l]
    rw [List.filter_append, h1, List.drop_eq_getElem_cons hl, List.filter_cons_of_neg (by rw [ht]; simp), filter_all (l := l.drop (place l nm + 1)) fun c hc => by rw [name_ne_of_gt (drop1_more hr c hc)]; rfl]
  · rename_i ht
    have ht' : there l nm = false := by simpa using ht
    exact filter_all fun c hc => by
      rw [← List.take_append_drop (place l nm) l] at hc
      rcases List.mem_append.1 hc with hc | hc
      · rw [name_ne_of_lt (take_less c hc)]; rfl
      · rw [name_ne_of_gt (drop_more hr ht' c hc)]; rfl

theorem wRun_less (nm b : List UInt8) : ∀ (l acc : List Fl), (∀ a ∈ l, slt a.name nm = true) → l.foldl (wStep nm b) (false, acc) = (false, acc ++ l)
  | [], acc, _ => by simp
  | x :: l, acc, h => by
    have hx := h x (by simp)
    have : wStep nm b (false, acc) x = (false, acc ++ [x]) := by simp [wStep, hx, name_ne_of_lt hx]
    rw [List.foldl_cons, this, wRun_less nm b l _ (fun a ha => h a (by simp [ha]))]
    simp
theorem wRun_more (nm b : List UInt8) : ∀ (l acc : List Fl), (∀ a ∈ l, slt nm a.name = true) → l.foldl (wStep nm b) (true, acc) = (true, acc ++ l)
  | [], acc, _ => by simp
  | x :: l, acc, h => by
    have hx := h x (by simp)
    have : wStep nm b (true, acc) x = (true, acc ++ [x]) := by simp [wStep, name_ne_of_gt hx]
    rw [List.foldl_cons, this, wRun_more nm b l _ (fun a ha => h a (by simp [ha]))]
    simp

theorem withF_eq {l : List Fl} (hr : rise l = true) (nm b : List UInt8) : withF l nm b = putF l nm b := by
  have h1 : wRun l nm b = (l.drop (place l nm)).foldl (wStep nm b) (false, l.take (place l nm)) := by
    unfold wRun
    conv => lhs; rw [← List.take_append_drop (place l nm) l]
    rw [List.foldl_append, wRun_less nm b _ _ take_less]
    simp
  unfold withF putF
  by_cases hl : place l nm < l.length
  · have h0 := place_at l nm hl
    rw [there_eq l nm hl]
    rw [List.drop_eq_getElem_cons hl, List.foldl_cons] at h1
    cases hn : l[place l nm].name == nm
    · have hs : wStep nm b (false, l.take (place l nm)) l[place l nm] = (true, l.take (place l nm) ++ [⟨nm, b⟩] ++ [l[place l nm]]) := by simp [wStep, h0, hn]
      rw [hs, wRun_more nm b _ _ (drop1_more hr)] at h1
      rw [h1, if_pos rfl, if_neg (by simp), List.drop_eq_getElem_cons hl]
      simp
    · have hs : wStep nm b (false, l.take (place l nm)) l[place l nm] = (true, l.take (place l nm) ++ [⟨nm, b⟩]) := by simp [wStep, h0, hn]
      rw [hs, wRun_more nm b _ _ (drop1_more hr)] at h1
      rw [h1, if_pos rfl, if_pos rfl, List.set_eq_take_append_cons_drop, if_pos hl]
      simp
  · rw [there_no l nm hl]
    rw [List.drop_of_length_le (by omega), List.foldl_nil] at h1
    rw [h1, if_neg (by simp), if_neg (by simp), List.drop_of_length_le (by omega)]
    simp

/-- An operation. -/
structure FO where
  kind : Int
  name : List UInt8
  new : List UInt8
  at_ : Int
  bytes : List UInt8
  deriving DecidableEq

def getFB (l : List Fl) (nm : List UInt8) : List UInt8 := ((l[place l nm]?).map (·.bytes)).getD []
def over (b : List UInt8) (n : Nat) (x : List UInt8) : List UInt8 := b.take n ++ x ++ b.drop (n + x.length)
def fin (l : List Fl) : Int × List Fl := if 64 < l.length ∨ 32768 < cost l then (6, l) else (0, l)
def opBad (o : FO) : Bool := decide (o.kind < 1) || decide (4 < o.kind) || !nmOk o.name || (decide (o.kind = 3) && !nmOk o.new)
def doF (l : List Fl) (o : FO) : Int × List Fl :=
  if opBad o = true then (2, l)
  else if o.kind ≠ 1 ∧ there l o.name = false then (4, l)
  else if o.kind = 1 then (if 4096 < o.bytes.length then (3, l) else fin (putF l o.name o.bytes))
  else if o.kind = 2 then (if o.at_ < 0 ∨ ((getFB l o.name).length : Int) < o.at_ then (2, l) else if 4096 - o.at_ < o.bytes.length then (3, l) else fin (putF l o.name (over (getFB l o.name) o.at_.toNat o.bytes)))
  else if o.kind = 3 then fin (putF (delF l o.name) o.new (getFB l o.name))
  else fin (delF l o.name)

theorem rise_doF {l : List Fl} (hr : rise l = true) (o : FO) : rise (doF l o).2 = true := by
  unfold doF fin
  repeat' split
  all_goals first | exact hr | exact rise_putF hr _ _ | exact rise_delF hr _ | exact rise_putF (rise_delF hr _) _ _

/-- All of them, till one fails. -/
def doAll (l : List Fl) : List FO → Int × List Fl
  | [] => (0, l)
  | o :: r => if (doF l o).1 = 0 then doAll (doF l o).2 r else ((doF l o).1, [])
theorem doAll_cons_ok {l : List Fl} {o : FO} {r : List FO} (h : (doF l o).1 = 0) : doAll l (o :: r) = doAll (doF l o).2 r := by rw [doAll, if_pos h]
theorem doAll_cons_no {l : List Fl} {o : FO} {r : List FO} (h : (doF l o).1 ≠ 0) : doAll l (o :: r) = ((doF l o).1, []) := by rw [doAll, if_neg h]
theorem doF_ok_len {l : List Fl} {o : FO} (h : (doF l o).1 = 0) : (doF l o).2.length ≤ 64 ∧ cost (doF l o).2 ≤ 32768 := by
  revert h
  unfold doF fin
  repeat' split
  all_goals first | (rename_i hh; intro _; simp only [not_or, Nat.not_lt] at hh; exact hh) | (intro h; simp at h)

end Go.Proofs.Ytjgobljclodpfaa
