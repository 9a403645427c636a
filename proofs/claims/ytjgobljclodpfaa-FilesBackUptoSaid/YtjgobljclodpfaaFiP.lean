/- Layer 5, plain: what operations leave of the other files; files stay files. No condition. -/
import Derived.Test.YtjgobljclodpfaaFiA
namespace Go.Proofs.Ytjgobljclodpfaa
set_option linter.unusedVariables false
set_option linter.unusedSimpArgs false

theorem fin_snd (l : List Fl) : (fin l).2 = l := by unfold fin; split <;> rfl
theorem split_there {l : List Fl} {nm : List UInt8} (ht : there l nm = true) : ∃ h : place l nm < l.length, l[place l nm].name = nm ∧ l = l.take (place l nm) ++ l[place l nm] :: l.drop (place l nm + 1) := by
  have h := there_lt ht
  refine ⟨h, ?_, ?_⟩
  · rw [there_eq l nm h] at ht; exact beq_iff_eq.1 ht
  · rw [← List.drop_eq_getElem_cons h, List.take_append_drop]

theorem mem_put {l : List Fl} (hr : rise l = true) {nm b : List UInt8} {x : Fl} : x ∈ putF l nm b ↔ x = ⟨nm, b⟩ ∨ (x ∈ l ∧ x.name ≠ nm) := by
  have ne1 : ∀ a ∈ l.take (place l nm), a.name ≠ nm := fun a ha e => by have := take_less a ha; rw [e, slt_irrefl] at this; cases this
  unfold putF
  cases ht : there l nm
  · have ne2 : ∀ a ∈ l.drop (place l nm), a.name ≠ nm := fun a ha e => by have := drop_more hr ht a ha; rw [e, slt_irrefl] at this; cases this
    rw [if_neg (by decide)]
    have hl : x ∈ l ↔ x ∈ l.take (place l nm) ∨ x ∈ l.drop (place l nm) := by rw [← List.mem_append, List.take_append_drop]
    rw [hl]
    simp only [List.mem_append, List.mem_cons, List.not_mem_nil, or_false]
    constructor
    · rintro ((h | h) | h)
      · exact .inr ⟨.inl h, ne1 x h⟩
      · exact .inl h
      · exact .inr ⟨.inr h, ne2 x h⟩
    · rintro (h | ⟨h | h, -⟩)
      · exact .inl (.inr h)
      · exact .inl (.inl h)
      · exact .inr h
  · obtain ⟨hp, hn, hl⟩ := split_there ht
    have ne2 : ∀ a ∈ l.drop (place l nm + 1), a.name ≠ nm := fun a ha e => by have := drop1_more hr a ha; rw [e, slt_irrefl] at this; cases this
    rw [if_pos rfl, List.set_eq_take_append_cons_drop, if_pos hp]
    have hl : x ∈ l ↔ x ∈ l.take (place l nm) ∨ x = l[place l nm] ∨ x ∈ l.drop (place l nm + 1) := by rw [← List.mem_cons, ← List.mem_append, ← hl]
    rw [hl]
    simp only [List.mem_append, List.mem_cons]
    constructor
    · rintro (h | h | h)
      · exact .inr ⟨.inl h, ne1 x h⟩
      · exact .inl h
      · exact .inr ⟨.inr (.inr h), ne2 x h⟩
    · rintro (h | ⟨h | h | h, h'⟩)
      · exact .inr (.inl h)
      · exact .inl h
      · exact absurd (by rw [h]; exact hn) h'
      · exact .inr (.inr h)

theorem mem_del {l : List Fl} (hr : rise l = true) {nm : List UInt8} {x : Fl} : x ∈ delF l nm ↔ x ∈ l ∧ x.name ≠ nm := by
  rw [← dropF_eq hr]
  unfold dropF
  rw [List.mem_filter]
  simp

/-- A file among rising names is found. -/
theorem get_mem {l : List Fl} (hr : rise l = true) {x : Fl} (hx : x ∈ l) : there l x.name = true ∧ getFB l x.name = x.bytes := by
  obtain ⟨i, hi, rfl⟩ := List.getElem_of_mem hx
  have hp : place l l[i].name = i := by
    refine place_of l _ i (by omega) (fun j hj hji => ?_) (fun h => slt_irrefl _)
    obtain ⟨d, rfl⟩ : ∃ d, i = j + (d + 1) := ⟨i - j - 1, by omega⟩
    exact rise_lt l hr j d hi
  constructor
  · rw [there_eq l _ (by rw [hp]; exact hi)]
    simp only [hp]
    exact beq_self_eq_true _
  · unfold getFB
    rw [hp, List.getElem?_eq_getElem hi]; rfl
theorem there_mem {l : List Fl} {nm : List UInt8} (ht : there l nm = true) : ∃ x ∈ l, x.name = nm := by
  obtain ⟨hp, hn, -⟩ := split_there ht
  exact ⟨_, List.getElem_mem hp, hn⟩
theorem there_not {l : List Fl} {nm : List UInt8} (h : ∀ x ∈ l, x.name ≠ nm) : there l nm = false := by
  cases ht : there l nm
  · rfl
  · obtain ⟨x, hx, hn⟩ := there_mem ht
    exact absurd hn (h x hx)

theorem getFB_mem {l : List Fl} {nm : List UInt8} (ht : there l nm = true) : ∃ x ∈ l, x.name = nm ∧ getFB l nm = x.bytes := by
  obtain ⟨hp, hn, -⟩ := split_there ht
  refine ⟨_, List.getElem_mem hp, hn, ?_⟩
  unfold getFB
  rw [List.getElem?_eq_getElem hp]; rfl

theorem ok_parts {l : List Fl} : okFs l = true ↔ l.length ≤ 64 ∧ (∀ x ∈ l, flOk x = true) ∧ rise l = true ∧ cost l ≤ 32768 := by
  unfold okFs
  simp only [Bool.and_eq_true, decide_eq_true_eq, List.all_eq_true]
  constructor
  · rintro ⟨⟨h1, h2, h3⟩, h4⟩; exact ⟨h1, h2, h3, h4⟩
  · rintro ⟨h1, h2, h3, h4⟩; exact ⟨⟨h1, h2, h3⟩, h4⟩
theorem flOk_iff {x : Fl} : flOk x = true ↔ nmOk x.name = true ∧ x.bytes.length ≤ 4096 := by simp [flOk]

/-- What an operation that goes through does. -/
inductive Went (l : List Fl) (o : FO) : List Fl → Prop
  | put (h : o.kind = 1) (hn : nmOk o.name = true) (hb : o.bytes.length ≤ 4096) : Went l o (putF l o.name o.bytes)
  | write (n : Nat) (h : o.kind = 2) (hn : nmOk o.name = true) (ht : there l o.name = true) (ha : o.at_ = n) (hle : n ≤ (getFB l o.name).length) (hb : n + o.bytes.length ≤ 4096) : Went l o (putF l o.name (over (getFB l o.name) n o.bytes))
  | name (h : o.kind = 3) (hn : nmOk o.name = true) (hn2 : nmOk o.new = true) (ht : there l o.name = true) : Went l o (putF (delF l o.name) o.new (getFB l o.name))
  | drop (h : o.kind = 4) (hn : nmOk o.name = true) (ht : there l o.name = true) : Went l o (delF l o.name)

theorem went {l : List Fl} {o : FO} (h : (doF l o).1 = 0) : Went l o (doF l o).2 := by
  unfold doF at h ⊢
  by_cases h1 : opBad o = true
  · rw [if_pos h1] at h; simp at h
  rw [if_neg h1] at h ⊢
  simp only [opBad, Bool.or_eq_true, Bool.and_eq_true, decide_eq_true_eq, Bool.not_eq_true', not_or, not_and, Bool.not_eq_false] at h1
  obtain ⟨⟨⟨k1, k2⟩, k3⟩, k4⟩ := h1
  by_cases h2 : o.kind ≠ 1 ∧ there l o.name = false
  · rw [if_pos h2] at h; simp at h
  rw [if_neg h2] at h ⊢
  have ht : o.kind ≠ 1 → there l o.name = true := fun hk => by
    cases ht : there l o.name
    · exact absurd ⟨hk, ht⟩ h2
    · rfl
  by_cases h3 : o.kind = 1
  · rw [if_pos h3] at h ⊢
    by_cases h4 : 4096 < o.bytes.length
    · rw [if_pos h4] at h; simp at h
    · rw [if_neg h4, fin_snd]
      exact .put h3 k3 (by omega)
  rw [if_neg h3] at h ⊢
  by_cases h4 : o.kind = 2
  · rw [if_pos h4] at h ⊢
    by_cases h5 : o.at_ < 0 ∨ ((getFB l o.name).length : Int) < o.at_
    · rw [if_pos h5] at h; simp at h
    rw [if_neg h5] at h ⊢
    by_cases h6 : 4096 - o.at_ < o.bytes.length
    · rw [if_pos h6] at h; simp at h
    rw [if_neg h6, fin_snd]
    exact .write o.at_.toNat h4 k3 (ht h3) (by omega) (by omega) (by omega)
  rw [if_neg h4] at h ⊢
  by_cases h5 : o.kind = 3
  · rw [if_pos h5, fin_snd]
    exact .name h5 k3 (k4 h5) (ht h3)
  rw [if_neg h5, fin_snd]
  exact .drop (by omega) k3 (ht h3)

theorem over_len (b : List UInt8) (n : Nat) (x : List UInt8) (h : n ≤ b.length) : (over b n x).length = max b.length (n + x.length) := by
  simp only [over, List.length_append, List.length_take, List.length_drop]; omega
theorem over_at (b : List UInt8) (n : Nat) (x : List UInt8) (h : n ≤ b.length) : ((over b n x).drop n).take x.length = x := by
  unfold over
  rw [List.append_assoc, List.drop_append_of_le_length (by rw [List.length_take]; omega), List.drop_of_length_le (by rw [List.length_take]; omega), List.nil_append, List.take_left]

/-- Files stay files. -/
theorem ok_doF {l : List Fl} {o : FO} (hk : okFs l = true) (h : (doF l o).1 = 0) : okFs (doF l o).2 = true := by
  obtain ⟨k1, k2, k3, k4⟩ := ok_parts.1 hk
  obtain ⟨n1, n2⟩ := doF_ok_len h
  have hr := rise_doF k3 o
  refine ok_parts.2 ⟨n1, ?_, hr, n2⟩
  have hB : there l o.name = true → (getFB l o.name).length ≤ 4096 := fun ht => by
    obtain ⟨x, hx, -, e⟩ := getFB_mem ht
    rw [e]; exact (flOk_iff.1 (k2 x hx)).2
  have hw := went h
  generalize (doF l o).2 = g at hw
  intro x hx
  cases hw with
  | put h hn hb =>
    rcases (mem_put k3).1 hx with rfl | ⟨hx, -⟩
    · exact flOk_iff.2 ⟨hn, hb⟩
    · exact k2 x hx
  | write n h hn ht ha hle hb =>
    rcases (mem_put k3).1 hx with rfl | ⟨hx, -⟩
    · refine flOk_iff.2 ⟨hn, ?_⟩
      have := hB ht
      show (over _ _ _).length ≤ 4096
      rw [over_len _ _ _ hle]; omega
    · exact k2 x hx
  | name h hn hn2 ht =>
    rcases (mem_put (rise_delF k3 _)).1 hx with rfl | ⟨hx, -⟩
    · exact flOk_iff.2 ⟨hn2, hB ht⟩
    · exact k2 x ((mem_del k3).1 hx).1
  | drop h hn ht => exact k2 x ((mem_del k3).1 hx).1

theorem getE_there {l : List Fl} (hk : okFs l = true) {nm : List UInt8} (ht : there l nm = true) : getE l nm = 0 ∧ getB l nm = getFB l nm := by
  have h : getE l nm = 0 := by unfold getE; rw [if_pos hk, if_pos ht]
  exact ⟨h, by unfold getB getFB; rw [if_pos h]⟩
theorem getE_not {l : List Fl} (hk : okFs l = true) {nm : List UInt8} (ht : there l nm = false) : getE l nm = 4 ∧ getB l nm = [] := by
  have h : getE l nm = 4 := by unfold getE; rw [if_pos hk, if_neg (by rw [ht]; decide)]
  exact ⟨h, by unfold getB; rw [h, if_neg (by decide)]⟩
theorem get_mem' {l : List Fl} (hk : okFs l = true) {x : Fl} (hx : x ∈ l) : getE l x.name = 0 ∧ getB l x.name = x.bytes := by
  obtain ⟨h1, h2⟩ := get_mem (ok_rise hk) hx
  have := getE_there hk h1
  rwa [h2] at this

/-- All other files stay. -/
theorem others {l : List Fl} {o : FO} (hk : okFs l = true) (h : (doF l o).1 = 0) {x : Fl} (hx : x ∈ l) (h1 : x.name ≠ o.name) (h2 : ¬ (o.kind = 3 ∧ x.name = o.new)) : getE (doF l o).2 x.name = 0 ∧ getB (doF l o).2 x.name = x.bytes := by
  have hr := ok_rise hk
  refine get_mem' (ok_doF hk h) ?_
  have hw := went h
  generalize (doF l o).2 = g at hw
  cases hw with
  | put => exact (mem_put hr).2 (.inr ⟨hx, h1⟩)
  | write => exact (mem_put hr).2 (.inr ⟨hx, h1⟩)
  | name h3 => exact (mem_put (rise_delF hr _)).2 (.inr ⟨(mem_del hr).2 ⟨hx, h1⟩, fun e => h2 ⟨h3, e⟩⟩)
  | drop => exact (mem_del hr).2 ⟨hx, h1⟩

/-- What was put is got. -/
theorem told {l : List Fl} {o : FO} (hk : okFs l = true) (h : (doF l o).1 = 0) :
    (o.kind = 1 ∧ getE (doF l o).2 o.name = 0 ∧ getB (doF l o).2 o.name = o.bytes) ∨
    (o.kind = 2 ∧ getE (doF l o).2 o.name = 0 ∧ ∃ n : Nat, o.at_ = n ∧ n + o.bytes.length ≤ (getB (doF l o).2 o.name).length ∧ (((getB (doF l o).2 o.name).drop n).take o.bytes.length) = o.bytes ∧ (getB (doF l o).2 o.name).length ≤ 4096) ∨
    (o.kind = 3 ∧ getE (doF l o).2 o.new = 0 ∧ getB (doF l o).2 o.new = getB l o.name ∧ (getE (doF l o).2 o.name = 0 ↔ o.name = o.new)) ∨
    (o.kind = 4 ∧ getE (doF l o).2 o.name = 4) := by
  have hr := ok_rise hk
  have hg := ok_doF hk h
  have hB : there l o.name = true → (getFB l o.name).length ≤ 4096 := fun ht => by
    obtain ⟨x, hx, -, e⟩ := getFB_mem ht
    rw [e]; exact (flOk_iff.1 ((ok_parts.1 hk).2.1 x hx)).2
  have hw := went h
  generalize (doF l o).2 = g at hw hg
  cases hw with
  | put h1 =>
    have := get_mem' hg (x := ⟨o.name, o.bytes⟩) ((mem_put hr).2 (.inl rfl))
    exact .inl ⟨h1, this⟩
  | write n h1 hn ht ha hle hb =>
    obtain ⟨g1, g2⟩ := get_mem' hg (x := ⟨o.name, over (getFB l o.name) n o.bytes⟩) ((mem_put hr).2 (.inl rfl))
    refine .inr (.inl ⟨h1, g1, n, ha, ?_⟩)
    have g2' : getB (putF l o.name (over (getFB l o.name) n o.bytes)) o.name = over (getFB l o.name) n o.bytes := g2
    rw [g2']
    have := hB ht
    rw [over_len _ _ _ hle]
    exact ⟨by omega, over_at _ _ _ hle, by omega⟩
  | name h1 hn hn2 ht =>
    obtain ⟨g1, g2⟩ := get_mem' hg (x := ⟨o.new, getFB l o.name⟩) ((mem_put (rise_delF hr _)).2 (.inl rfl))
    refine .inr (.inr (.inl ⟨h1, g1, g2.trans (getE_there hk ht).2.symm, ?_⟩))
    constructor
    · intro h0
      by_cases e : o.name = o.new
      · exact e
      · exfalso
        have hf : there (putF (delF l o.name) o.new (getFB l o.name)) o.name = false := there_not fun x hx => by
          rcases (mem_put (rise_delF hr _)).1 hx with rfl | ⟨hx, -⟩
          · exact fun e' => e e'.symm
          · exact ((mem_del hr).1 hx).2
        rw [(getE_not hg hf).1] at h0
        cases h0
    · intro e
      exact (congrArg (getE (putF (delF l o.name) o.new (getFB l o.name))) e).trans g1
  | drop h1 hn ht =>
    refine .inr (.inr (.inr ⟨h1, (getE_not hg (there_not fun x hx => ((mem_del hr).1 hx).2)).1⟩))

end Go.Proofs.Ytjgobljclodpfaa
