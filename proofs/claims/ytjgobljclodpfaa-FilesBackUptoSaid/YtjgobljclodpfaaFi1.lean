/- Layer 5's walks: names, costs, the search. No condition beyond sizes. -/
import Derived.Test.YtjgobljclodpfaaEl
import Derived.Test.YtjgobljclodpfaaFiL
import Derived.Test.YtjgobljclodpfaaOct4
import Derived.WalkLawsBesides
import Derived.BigQuiet
import Derived.Shelf.RegionOpen
import Derived.Deep.QuietTactic
namespace Go.Proofs.Ytjgobljclodpfaa
open Go.RowKit Go.Shelf K L
set_option linter.unusedVariables false
set_option linter.unusedSimpArgs false

/-- A file with the slice value of its bytes. -/
abbrev FE := Fl × Value
def FE.cells (e : FE) : List Value := [.string ⟨e.1.name.toArray⟩, e.2]
theorem FE.len (e : FE) : e.cells.length = 2 := rfl
def fls (es : List FE) : List Fl := es.map (·.1)

/-- Slice value v: the files es, whose bytes lie in w. -/
def Fs (w : World) (F : Nat → Prop) (v : Value) (es : List FE) : Prop :=
  Sl w F 2 v es.length (es.flatMap FE.cells) ∧ ∀ e ∈ es, Bs w (· < w.heap.size) e.2 e.1.bytes
theorem bs_lift {w w' : World} {v : Value} {xs : List UInt8} (h : Bs w (· < w.heap.size) v xs) (hb : Below w.heap.size w w') : Bs w' (· < w'.heap.size) v xs :=
  (h.below hb).imp fun _ hl _ => hl
theorem Fs.below {w w' : World} {F : Nat → Prop} {v : Value} {es : List FE} (h : Fs w F v es) (hb : Below w.heap.size w w') : Fs w' F v es :=
  ⟨Sl.below h.1 (by decide) hb, fun e he => bs_lift (h.2 e he) hb⟩

/-- The two cells of the i-th. -/
theorem fs_at {w : World} {F : Nat → Prop} {A : Option Addr} {n c : Nat} {es : List FE} (h : Fs w F (.slice A n c) es) (i : Nat) (hi : i < es.length) :
    ∃ b o, A = some ⟨b, o, none⟩ ∧ b < w.heap.size ∧ w.cell? ⟨b, o + i * 2, none⟩ = some (.string ⟨es[i].1.name.toArray⟩) ∧ w.cell? ⟨b, o + i * 2 + 1, none⟩ = some es[i].2 := by
  obtain ⟨b, o, hA, -, hb, hc⟩ := row_cells FE.len (by decide) h.1 i hi
  exact ⟨b, o, hA, hb, hc 0 _ rfl, hc 1 _ rfl⟩

/-- A call of a function value as a step. -/
theorem upon_fn {P : Program} {g : Nat} {args : Array Value} {w : World} {o : Oper} {a : Act} {next : Act → World → Prop} {Q : Exit → Act → World → Prop} {v : Value}
    (eg : ∀ args w, (callFunc g args).run P w = .ok (.enter g args) w) (h : Calls P g args w fun r w' => r = .returned v ∧ Below w.heap.size w w') (k : ∀ w', Below w.heap.size w w' → next (a.put o.dst v) w') :
    o.upon P a next Q ((callFunc g args).run P w) := by
  rw [eg, Oper.upon_enter]
  refine h.mono ?_
  rintro e w' ⟨rfl, hb⟩
  exact k w' hb

theorem str_len (s : List UInt8) : (⟨s.toArray⟩ : ByteArray).size = s.length := by simp [ByteArray.size]

set_option maxHeartbeats 400000 in
theorem name_any (s : List UInt8) (w : World) (hs : s.length ≤ 1000000000000) : Calls Try.prog 38 #[.string ⟨s.toArray⟩] w fun e w' => e = .returned (.bool (nmOk s)) ∧ w = w' := by
  go_enter Try.func38, Try.ntmps38
  by_cases h : 1 ≤ s.length
  · go_wp2
    go_ret
    exact ⟨ret_bool (by unfold nmOk; rw [Bool.eq_iff_iff]; simp; omega), rfl⟩
  · go_wp2
    go_ret
    exact ⟨ret_bool (by unfold nmOk; rw [Bool.eq_iff_iff]; simp; omega), rfl⟩

set_option maxHeartbeats 400000 in
theorem isnan_any (s : List UInt8) (w : World) : Calls Try.prog 72 #[.string ⟨s.toArray⟩] w fun e w' => e = .returned (.bool false) ∧ w = w' := by
  go_enter Try.func72, Try.ntmps72
  go_wp2
  go_ret
  exact ⟨ret_bool (by simp), rfl⟩

def scmp (a b : List UInt8) : Int := if slt a b = true then -1 else if slt b a = true then 1 else 0

set_option maxHeartbeats 400000 in
theorem compare_any (a b : List UInt8) (w : World) : Calls Try.prog 66 #[.string ⟨a.toArray⟩, .string ⟨b.toArray⟩] w fun e w' => e = .returned (.int .i64 (scmp a b)) ∧ w = w' := by
  cases h1 : Op.bytesLess a b
  · have hr : scmp a b = if a == b then 0 else 1 := by
      cases h2 : slt b a
      · obtain rfl : a = b := slt_total h1 h2
        simp [scmp, slt_irrefl]
      · have hne : (a == b) = false := by rw [beq_eq_false_iff_ne]; rintro rfl; rw [slt_irrefl] at h2; cases h2
        have h1' : slt a b = false := h1
        simp [scmp, h1', h2, hne]
    have HR := Lib.hid hr
    clear hr
    cases h3 : a == b
    all_goals
      go_enter Try.func66, Try.ntmps66
      go_wp2_with (first | (refine (isnan_any a _).mono ?_; rintro e w' ⟨rfl, rfl⟩) | (refine (isnan_any b _).mono ?_; rintro e w' ⟨rfl, rfl⟩))
      go_ret
      exact ⟨ret_int (by rw [HR.out, h3]; rfl), rfl⟩
  · go_enter Try.func66, Try.ntmps66
    go_wp2_with (first | (refine (isnan_any a _).mono ?_; rintro e w' ⟨rfl, rfl⟩) | (refine (isnan_any b _).mono ?_; rintro e w' ⟨rfl, rfl⟩))
    go_ret
    exact ⟨ret_int (by simp [scmp, slt, h1]), rfl⟩

theorem scmp_neg (a b : List UInt8) : decide (scmp a b < 0) = slt a b := by
  unfold scmp
  cases slt a b
  · cases slt b a <;> rfl
  · rfl
theorem scmp_zero (a b : List UInt8) (h : slt a b = false) : (scmp a b == 0) = (a == b) := by
  unfold scmp
  rw [h]
  cases h2 : slt b a
  · obtain rfl : a = b := slt_total h h2
    simp
  · have hne : (a == b) = false := by rw [beq_eq_false_iff_ne]; rintro rfl; rw [slt_irrefl] at h2; cases h2
    rw [hne]; rfl
theorem scmp_cases (a b : List UInt8) : scmp a b = -1 ∧ slt a b = true ∨ scmp a b = 0 ∧ slt a b = false ∧ a = b ∨ scmp a b = 1 ∧ slt a b = false ∧ a ≠ b := by
  unfold scmp
  cases h1 : slt a b
  · cases h2 : slt b a
    · exact .inr (.inl ⟨rfl, rfl, slt_total h1 h2⟩)
    · exact .inr (.inr ⟨rfl, rfl, by rintro rfl; rw [slt_irrefl] at h2; cases h2⟩)
  · exact .inl ⟨rfl, rfl⟩

set_option maxHeartbeats 400000 in
/-- The comparison that is handed over. -/
theorem find1_any (x : Fl) (vb : Value) (nm : List UInt8) (w : World) : Calls Try.prog 65 #[.agg #[.string ⟨x.name.toArray⟩, vb], .string ⟨nm.toArray⟩] w fun e w' => e = .returned (.int .i64 (scmp x.name nm)) ∧ Below w.heap.size w w' := by
  go_enter Try.func65, Try.ntmps65
  go_wp2_with (refine (compare_any x.name nm _).mono ?_; rintro e w' ⟨rfl, rfl⟩)
  go_ret
  exact ⟨rfl, (Below.refl _ _).alloc (Nat.le_refl _) _⟩

set_option maxRecDepth 100000 in
set_option maxHeartbeats 2000000 in
theorem search_any (nm : List UInt8) (v : Value) (es : List FE) (w : World) (F : Nat → Prop) (h : Fs w F v es) (hr : rise (fls es) = true) (hl : es.length ≤ 1000000000) :
    Calls Try.prog 64 #[v, .string ⟨nm.toArray⟩, .func (.func 65) #[] #[]] w fun e w' => e = .returned (.tuple #[.int .i64 (place (fls es) nm : Nat), .bool (there (fls es) nm)]) ∧ Below w.heap.size w w' := by
  have hs := h
  obtain ⟨⟨-, A, c, rfl, l1, l2, -, -⟩, -⟩ := h
  replace l2 : c ≤ 9223372036854775807 := by simpa [maxLen] using l2
  have HR := Lib.hid hr
  clear hr
  obtain ⟨P, hP⟩ : ∃ p, place (fls es) nm = p := ⟨_, rfl⟩
  obtain ⟨T, hT⟩ : ∃ t, there (fls es) nm = t := ⟨_, rfl⟩
  rw [hP, hT]
  have HP := Lib.hid hP
  have HT := Lib.hid hT
  clear hP hT
  go_enter Try.func64, Try.ntmps64
  go_wp2
  go_loopw [9, 10] (fun i j wr => ∃ a b : Nat, i = .int .i64 a ∧ j = .int .i64 b ∧ a ≤ b ∧ b ≤ es.length ∧ Hid (∀ (k : Nat) (h : k < (fls es).length), k < a → slt (fls es)[k].name nm = true) ∧ Hid (∀ (k : Nat) (h : k < (fls es).length), b ≤ k → slt (fls es)[k].name nm = false) ∧ Below w.heap.size w wr) (fun i j _ => (intOf j - intOf i).toNat)
  case atStart => exact ⟨0, es.length, rfl, rfl, Nat.zero_le _, Nat.le_refl _, Lib.hid (fun k h hk => by omega), Lib.hid (fun k h hk => by simp [fls] at h; omega), Below.refl _ _⟩
  case round =>
    obtain ⟨a, b, rfl, rfl, hab, hbl, H1, H2, hB⟩ := hrel
    by_cases hlt : a < b
    · obtain ⟨m, hm⟩ : ∃ m, (a + b) / 2 = m := ⟨_, rfl⟩
      have hma : a ≤ m ∧ m < b := by omega
      have hm' : ((a : Int) + (b : Int)) / 2 = (m : Int) := by omega
      have hml : m < (fls es).length := by simp [fls]; omega
      clear hm
      obtain ⟨bb, o, rfl, hbb, c0, c1⟩ := fs_at (hs.below hB) m (by omega)
      have hy : (fls es)[m] = es[m].1 := by simp [fls]
      have hlo : slt (fls es)[m].name nm = true → ∀ (k : Nat) (h : k < (fls es).length), k < m + 1 → slt (fls es)[k].name nm = true := fun h k hk hkm => rise_before _ HR.out nm m hml h k hk (by omega)
      have hhi : slt (fls es)[m].name nm = false → ∀ (k : Nat) (h : k < (fls es).length), m ≤ k → slt (fls es)[k].name nm = false := fun h k hk hkm => rise_behind _ HR.out nm m hml h k hk hkm
      rw [hy] at hlo hhi
      generalize es[m] = y at *
      obtain ⟨y, vb⟩ := y
      dsimp only at c0 c1 hlo hhi
      have HLO := Lib.hid hlo
      have HHI := Lib.hid hhi
      clear hlo hhi hy
      rcases scmp_cases y.name nm with ⟨h1, h2⟩ | ⟨h1, h2, -⟩ | ⟨h1, h2, -⟩
      all_goals
        have HC := Lib.hid (find1_any y vb nm wr)
        have H3 := Lib.hid h2
        have H4 := Lib.hid h1
        clear h1 h2
        go_wp2_with fail
        refine HC.out.mono ?_
        rintro e w' ⟨rfl, hb'⟩
        rw [H4.out]
        go_wp2
      · exact ⟨⟨m + 1, b, by go_num, rfl, by omega, hbl, Lib.hid (HLO.out H3.out), H2, below_tr hB hb'⟩, by simp only [intOf]; omega⟩
      · exact ⟨⟨a, m, rfl, rfl, by omega, by omega, H1, Lib.hid (HHI.out H3.out), below_tr hB hb'⟩, by simp only [intOf]; omega⟩
      · exact ⟨⟨a, m, rfl, rfl, by omega, by omega, H1, Lib.hid (HHI.out H3.out), below_tr hB hb'⟩, by simp only [intOf]; omega⟩
    · obtain rfl : a = b := by omega
      have hpl : place (fls es) nm = a := place_of _ _ _ (by simp [fls]; omega) (fun j h hj => H1.out j h hj) (fun h => H2.out a h (Nat.le_refl _))
      by_cases hend : a < es.length
      · obtain ⟨bb, o, rfl, hbb, c0, c1⟩ := fs_at (hs.below hB) a hend
        have hth : there (fls es) nm = (es[a].1.name == nm) := by
          have := there_eq (fls es) nm (by rw [hpl]; simpa [fls] using hend)
          simp only [hpl] at this
          simpa [fls] using this
        have hno := H2.out a (by simpa [fls] using hend) (Nat.le_refl _)
        have hno' : slt es[a].1.name nm = false := by simpa [fls] using hno
        generalize es[a] = y at *
        obtain ⟨y, vb⟩ := y
        dsimp only at c0 c1 hth hno'
        rw [← scmp_zero _ _ hno'] at hth
        have HTH := Lib.hid hth
        have HPL := Lib.hid hpl
        clear hno hno' hth hpl H1 H2
        have HC := Lib.hid (find1_any y vb nm wr)
        generalize scmp y.name nm = q at *
        go_wp2_with fail
        refine HC.out.mono ?_
        rintro e w' ⟨rfl, hb'⟩
        go_wp2
        go_ret2
        exact ⟨by rw [← HP.out, ← HT.out, HPL.out, HTH.out]; rfl, below_tr hB hb'⟩
      · have HTH := Lib.hid (there_no (fls es) nm (by rw [hpl]; simpa [fls] using hend))
        have HPL := Lib.hid hpl
        clear hpl H1 H2
        go_wp2
        go_ret2
        exact ⟨by rw [← HP.out, ← HT.out, HPL.out, HTH.out]; rfl, hB⟩

set_option maxHeartbeats 400000 in
theorem ffind_any (nm : List UInt8) (v : Value) (es : List FE) (w : World) (F : Nat → Prop) (h : Fs w F v es) (hr : rise (fls es) = true) (hl : es.length ≤ 1000000000) :
    Calls Try.prog 39 #[v, .string ⟨nm.toArray⟩] w fun e w' => e = .returned (.tuple #[.int .i64 (place (fls es) nm : Nat), .bool (there (fls es) nm)]) ∧ Below w.heap.size w w' := by
  go_enter Try.func39, Try.ntmps39
  go_wp2_with fail
  refine (search_any nm v es w F h hr hl).mono ?_
  rintro e w' ⟨rfl, hb⟩
  go_wp2
  go_ret2
  exact ⟨rfl, hb⟩

end Go.Proofs.Ytjgobljclodpfaa
