/- Layer 11's reference: what its Decode says, letter by letter, is what Decode says. Plain laws. No condition. -/
import Derived.Test.YtmcldnfemlaeiaaPduB
import Derived.Test.YtmcldnfemlaeiaaPduP
namespace Go.Proofs.Ytmcldnfemlaeiaa
open L
set_option linter.unusedVariables false
set_option linter.unusedSimpArgs false

/-- How many bytes a letter's number has. -/
def wid (c : UInt8) : Nat := if c = 117 then 4 else if c = 110 then 1 else if c = 99 then 1 else 2
def Msg.set (m : Msg) (c : UInt8) (x : Nat) : Msg :=
  if c = 115 then { m with size := x } else if c = 111 then { m with off := x } else if c = 117 then { m with sum := x } else if c = 99 then { m with code := x } else m
/-- One letter more. -/
def rstep (xs : List UInt8) (c : UInt8) (s : Msg × Nat) : Option (Msg × Nat) :=
  if xs.length - s.2 < wid c then none
  else if c = 110 then
    if xs.length - (s.2 + wid c) < num ((xs.drop s.2).take (wid c)) then none
    else some ({ s.1 with name := (xs.drop (s.2 + wid c)).take (num ((xs.drop s.2).take (wid c))) }, s.2 + wid c + num ((xs.drop s.2).take (wid c)))
  else if c = 98 then
    if xs.length - (s.2 + wid c) < num ((xs.drop s.2).take (wid c)) then none
    else some ({ s.1 with bytes := (xs.drop (s.2 + wid c)).take (num ((xs.drop s.2).take (wid c))) }, s.2 + wid c + num ((xs.drop s.2).take (wid c)))
  else some (s.1.set c (num ((xs.drop s.2).take (wid c))), s.2 + wid c)
def rrun (xs : List UInt8) (fs : List UInt8) (s : Msg × Nat) : Option (Msg × Nat) := fs.foldl (fun s c => s.bind (rstep xs c)) (some s)
theorem rrun_snoc (xs fs : List UInt8) (c : UInt8) (s : Msg × Nat) : rrun xs (fs ++ [c]) s = (rrun xs fs s).bind (rstep xs c) := by simp [rrun]
theorem rrun_nil (xs : List UInt8) (s : Msg × Nat) : rrun xs [] s = some s := rfl
theorem rrun_none (xs : List UInt8) : ∀ (fs : List UInt8), fs.foldl (fun s c => s.bind (rstep xs c)) (none : Option (Msg × Nat)) = none
  | [] => rfl
  | c :: fs => by rw [List.foldl_cons]; exact rrun_none xs fs
/-- Once too short, for ever. -/
theorem rrun_dead {xs fs : List UInt8} {s : Msg × Nat} {k : Nat} (h : rrun xs (fs.take k) s = none) : rrun xs fs s = none := by
  have : fs = fs.take k ++ fs.drop k := (List.take_append_drop k fs).symm
  rw [this]
  unfold rrun at h ⊢
  rw [List.foldl_append, h]
  exact rrun_none xs _

/-- What the reference says. -/
def refM0 (xs : List UInt8) : Msg := ⟨((xs[0]?.getD 0).toNat : Int), num ((xs.drop 1).take 4), [], 0, 0, 0, 0, []⟩
def refR (xs : List UInt8) : Option (Msg × Nat) := rrun xs (fstr ((xs[0]?.getD 0).toNat : Int)) (refM0 xs, 5)
def refOut (xs : List UInt8) : Msg × Int :=
  if xs.length = 0 then (noMsg, 7)
  else if ¬ (1 ≤ ((xs[0]?.getD 0).toNat : Int) ∧ ((xs[0]?.getD 0).toNat : Int) ≤ 8) then (noMsg, 210)
  else if xs.length < 5 then (noMsg, 7)
  else match refR xs with
    | none => (noMsg, 7)
    | some s => if s.2 < xs.length ∨ ¬ s.1.ok then (noMsg, 210) else (s.1, 0)

theorem num_lt' (t : List UInt8) : num t < 256 ^ t.length := num_lt t

/-- A reader at a place of the bytes. -/
theorem take_at (xs : List UInt8) (pos n : Nat) (h : pos ≤ xs.length) :
    Rs.take ⟨xs, pos, 0⟩ n = if xs.length - pos < n then (⟨xs, pos, 7⟩, []) else (⟨xs, pos + n, 0⟩, (xs.drop pos).take n) := by
  unfold Rs.take
  rw [if_neg (by simp), if_neg (by omega)]
  by_cases hc : xs.length - pos < n
  · rw [if_pos hc, if_pos (by show (xs.length : Int) - (pos : Int) < (n : Int); omega)]
  · rw [if_neg hc, if_neg (by show ¬ (xs.length : Int) - (pos : Int) < (n : Int); omega)]
    simp
theorem take_dead (xs : List UInt8) (pos : Nat) (n : Int) : Rs.take ⟨xs, pos, 7⟩ n = (⟨xs, pos, 7⟩, []) := by
  unfold Rs.take
  rw [if_pos (by simp)]

theorem ropt_no (n : Int) (r : Rs) : ropt false n r = (r, []) := rfl
theorem rvar_no (n : Int) (r : Rs) : rvar false n r = (r, []) := rfl
theorem ropt_dead (f : Bool) (n : Int) (xs : List UInt8) (pos : Nat) : ropt f n ⟨xs, pos, 7⟩ = (⟨xs, pos, 7⟩, []) := by
  cases f
  · rfl
  · exact take_dead xs pos n
theorem rvar_dead (f : Bool) (n : Int) (xs : List UInt8) (pos : Nat) : rvar f n ⟨xs, pos, 7⟩ = (⟨xs, pos, 7⟩, []) := by
  cases f
  · rfl
  · unfold rvar
    rw [if_pos rfl, take_dead xs pos n]
    exact take_dead xs pos _
theorem ropt_yes (xs : List UInt8) (n : Nat) (q : Int) (hq : q = n) (pos : Nat) (h : pos ≤ xs.length) :
    ropt true q ⟨xs, pos, 0⟩ = if xs.length - pos < n then (⟨xs, pos, 7⟩, []) else (⟨xs, pos + n, 0⟩, (xs.drop pos).take n) := by
  subst hq
  exact take_at xs pos n h
theorem rvar_yes (xs : List UInt8) (n : Nat) (q : Int) (hq : q = n) (pos : Nat) (h : pos ≤ xs.length) :
    rvar true q ⟨xs, pos, 0⟩ = if xs.length - pos < n then (⟨xs, pos, 7⟩, []) else if xs.length - (pos + n) < num ((xs.drop pos).take n) then (⟨xs, pos + n, 7⟩, [])
      else (⟨xs, pos + n + num ((xs.drop pos).take n), 0⟩, (xs.drop (pos + n)).take (num ((xs.drop pos).take n))) := by
  subst hq
  unfold rvar
  rw [if_pos rfl, take_at xs pos n h]
  by_cases hc : xs.length - pos < n
  · rw [if_pos hc, if_pos hc]
    exact take_dead xs pos _
  · rw [if_neg hc, if_neg hc]
    exact take_at xs (pos + n) _ (by omega)

/-- What one says of the reference's run and the chain. -/
def Agree (xs : List UInt8) (o : Option (Msg × Nat)) (z : Msg × Rs) : Prop := match o with | none => z.2.err = 7 | some s => z = (s.1, ⟨xs, s.2, 0⟩) ∧ s.2 ≤ xs.length

theorem chain_short (k : Int) (xs : List UInt8) (h : xs.length < 5) (hx : 0 < xs.length) : (chain k ⟨xs, 1, 0⟩).2.err = 7 := by
  have h4 : Rs.take ⟨xs, 1, 0⟩ 4 = (⟨xs, 1, 7⟩, []) := by rw [show (4 : Int) = ((4 : Nat) : Int) from rfl, take_at xs 1 4 (by omega), if_pos (by omega)]
  rw [chain_eq, h4]
  simp only [ropt_dead, rvar_dead]

theorem four (xs : List UInt8) (h : 5 ≤ xs.length) : Rs.take ⟨xs, 1, 0⟩ 4 = (⟨xs, 5, 0⟩, (xs.drop 1).take 4) := by
  rw [show (4 : Int) = ((4 : Nat) : Int) from rfl, take_at xs 1 4 (by omega), if_neg (by omega)]

/-! ### By kinds -/
theorem rstep_s (xs : List UInt8) (m : Msg) (p : Nat) : rstep xs 115 (m, p) = if xs.length - p < 2 then none else some (m.set 115 (num ((xs.drop p).take 2)), p + 2) := by
  unfold rstep
  rw [show wid 115 = 2 from rfl, if_neg (show ¬ (115 : UInt8) = 110 by decide), if_neg (show ¬ (115 : UInt8) = 98 by decide)]
theorem rstep_o (xs : List UInt8) (m : Msg) (p : Nat) : rstep xs 111 (m, p) = if xs.length - p < 2 then none else some (m.set 111 (num ((xs.drop p).take 2)), p + 2) := by
  unfold rstep
  rw [show wid 111 = 2 from rfl, if_neg (show ¬ (111 : UInt8) = 110 by decide), if_neg (show ¬ (111 : UInt8) = 98 by decide)]
theorem rstep_u (xs : List UInt8) (m : Msg) (p : Nat) : rstep xs 117 (m, p) = if xs.length - p < 4 then none else some (m.set 117 (num ((xs.drop p).take 4)), p + 4) := by
  unfold rstep
  rw [show wid 117 = 4 from rfl, if_neg (show ¬ (117 : UInt8) = 110 by decide), if_neg (show ¬ (117 : UInt8) = 98 by decide)]
theorem rstep_c (xs : List UInt8) (m : Msg) (p : Nat) : rstep xs 99 (m, p) = if xs.length - p < 1 then none else some (m.set 99 (num ((xs.drop p).take 1)), p + 1) := by
  unfold rstep
  rw [show wid 99 = 1 from rfl, if_neg (show ¬ (99 : UInt8) = 110 by decide), if_neg (show ¬ (99 : UInt8) = 98 by decide)]
theorem rstep_n (xs : List UInt8) (m : Msg) (p : Nat) : rstep xs 110 (m, p) = if xs.length - p < 1 then none else if xs.length - (p + 1) < num ((xs.drop p).take 1) then none else some ({ m with name := (xs.drop (p + 1)).take (num ((xs.drop p).take 1)) }, p + 1 + num ((xs.drop p).take 1)) := by
  unfold rstep
  rw [show wid 110 = 1 from rfl, if_pos rfl]
theorem rstep_b (xs : List UInt8) (m : Msg) (p : Nat) : rstep xs 98 (m, p) = if xs.length - p < 2 then none else if xs.length - (p + 2) < num ((xs.drop p).take 2) then none else some ({ m with bytes := (xs.drop (p + 2)).take (num ((xs.drop p).take 2)) }, p + 2 + num ((xs.drop p).take 2)) := by
  unfold rstep
  rw [show wid 98 = 2 from rfl, if_neg (show ¬ (98 : UInt8) = 110 by decide), if_pos rfl]
theorem agree_1 (xs : List UInt8) (h : 5 ≤ xs.length) : Agree xs (rrun xs [110, 115] (⟨1, num ((xs.drop 1).take 4), [], 0, 0, 0, 0, []⟩, 5)) (chain 1 ⟨xs, 1, 0⟩) := by
  rw [chain_eq, four xs h]
  simp only [show fldN 1 = true from rfl, show fldS 1 = true from rfl, show fldO 1 = false from rfl, show fldU 1 = false from rfl, show fldC 1 = false from rfl, show fldB 1 = false from rfl, ropt_no, rvar_no, rrun, List.foldl_cons, List.foldl_nil, Option.bind_some]
  have hs0 := rvar_yes xs 1 1 rfl (5) (by omega)
  have hr0 := fun m => rstep_n xs m (5)
  by_cases c00 : xs.length - (5) < 1
  · simp only [if_pos c00] at hs0 hr0
    simp only [hs0, hr0, Option.bind_some, Option.bind_none, ropt_dead, rvar_dead, Agree]
  simp only [if_neg c00] at hs0 hr0
  by_cases c01 : xs.length - (5 + 1) < num ((xs.drop (5)).take 1)
  · simp only [if_pos c01] at hs0 hr0
    simp only [hs0, hr0, Option.bind_some, Option.bind_none, ropt_dead, rvar_dead, Agree]
  simp only [if_neg c01] at hs0 hr0
  simp only [hs0, hr0, Option.bind_some]
  obtain ⟨x0, hx0⟩ : ∃ x, num ((xs.drop (5)).take 1) = x := ⟨_, rfl⟩
  simp only [hx0] at *
  have hs1 := ropt_yes xs 2 2 rfl (5 + 1 + x0) (by omega)
  have hr1 := fun m => rstep_s xs m (5 + 1 + x0)
  by_cases c10 : xs.length - (5 + 1 + x0) < 2
  · simp only [if_pos c10] at hs1 hr1
    simp only [hs1, hr1, Option.bind_some, Option.bind_none, ropt_dead, rvar_dead, Agree]
  simp only [if_neg c10] at hs1 hr1
  simp only [hs1, hr1, Option.bind_some]
  exact ⟨rfl, by omega⟩
theorem agree_2 (xs : List UInt8) (h : 5 ≤ xs.length) : Agree xs (rrun xs [111, 98] (⟨2, num ((xs.drop 1).take 4), [], 0, 0, 0, 0, []⟩, 5)) (chain 2 ⟨xs, 1, 0⟩) := by
  rw [chain_eq, four xs h]
  simp only [show fldN 2 = false from rfl, show fldS 2 = false from rfl, show fldO 2 = true from rfl, show fldU 2 = false from rfl, show fldC 2 = false from rfl, show fldB 2 = true from rfl, ropt_no, rvar_no, rrun, List.foldl_cons, List.foldl_nil, Option.bind_some]
  have hs0 := ropt_yes xs 2 2 rfl (5) (by omega)
  have hr0 := fun m => rstep_o xs m (5)
  by_cases c00 : xs.length - (5) < 2
  · simp only [if_pos c00] at hs0 hr0
    simp only [hs0, hr0, Option.bind_some, Option.bind_none, ropt_dead, rvar_dead, Agree]
  simp only [if_neg c00] at hs0 hr0
  simp only [hs0, hr0, Option.bind_some]
  have hs1 := rvar_yes xs 2 2 rfl (5 + 2) (by omega)
  have hr1 := fun m => rstep_b xs m (5 + 2)
  by_cases c10 : xs.length - (5 + 2) < 2
  · simp only [if_pos c10] at hs1 hr1
    simp only [hs1, hr1, Option.bind_some, Option.bind_none, ropt_dead, rvar_dead, Agree]
  simp only [if_neg c10] at hs1 hr1
  by_cases c11 : xs.length - (5 + 2 + 2) < num ((xs.drop (5 + 2)).take 2)
  · simp only [if_pos c11] at hs1 hr1
    simp only [hs1, hr1, Option.bind_some, Option.bind_none, ropt_dead, rvar_dead, Agree]
  simp only [if_neg c11] at hs1 hr1
  simp only [hs1, hr1, Option.bind_some]
  obtain ⟨x1, hx1⟩ : ∃ x, num ((xs.drop (5 + 2)).take 2) = x := ⟨_, rfl⟩
  simp only [hx1] at *
  exact ⟨rfl, by omega⟩
theorem agree_3 (xs : List UInt8) (h : 5 ≤ xs.length) : Agree xs (rrun xs [115, 117] (⟨3, num ((xs.drop 1).take 4), [], 0, 0, 0, 0, []⟩, 5)) (chain 3 ⟨xs, 1, 0⟩) := by
  rw [chain_eq, four xs h]
  simp only [show fldN 3 = false from rfl, show fldS 3 = true from rfl, show fldO 3 = false from rfl, show fldU 3 = true from rfl, show fldC 3 = false from rfl, show fldB 3 = false from rfl, ropt_no, rvar_no, rrun, List.foldl_cons, List.foldl_nil, Option.bind_some]
  have hs0 := ropt_yes xs 2 2 rfl (5) (by omega)
  have hr0 := fun m => rstep_s xs m (5)
  by_cases c00 : xs.length - (5) < 2
  · simp only [if_pos c00] at hs0 hr0
    simp only [hs0, hr0, Option.bind_some, Option.bind_none, ropt_dead, rvar_dead, Agree]
  simp only [if_neg c00] at hs0 hr0
  simp only [hs0, hr0, Option.bind_some]
  have hs1 := ropt_yes xs 4 4 rfl (5 + 2) (by omega)
  have hr1 := fun m => rstep_u xs m (5 + 2)
  by_cases c10 : xs.length - (5 + 2) < 4
  · simp only [if_pos c10] at hs1 hr1
    simp only [hs1, hr1, Option.bind_some, Option.bind_none, ropt_dead, rvar_dead, Agree]
  simp only [if_neg c10] at hs1 hr1
  simp only [hs1, hr1, Option.bind_some]
  exact ⟨rfl, by omega⟩
theorem agree_4 (xs : List UInt8) (h : 5 ≤ xs.length) : Agree xs (rrun xs [99] (⟨4, num ((xs.drop 1).take 4), [], 0, 0, 0, 0, []⟩, 5)) (chain 4 ⟨xs, 1, 0⟩) := by
  rw [chain_eq, four xs h]
  simp only [show fldN 4 = false from rfl, show fldS 4 = false from rfl, show fldO 4 = false from rfl, show fldU 4 = false from rfl, show fldC 4 = true from rfl, show fldB 4 = false from rfl, ropt_no, rvar_no, rrun, List.foldl_cons, List.foldl_nil, Option.bind_some]
  have hs0 := ropt_yes xs 1 1 rfl (5) (by omega)
  have hr0 := fun m => rstep_c xs m (5)
  by_cases c00 : xs.length - (5) < 1
  · simp only [if_pos c00] at hs0 hr0
    simp only [hs0, hr0, Option.bind_some, Option.bind_none, ropt_dead, rvar_dead, Agree]
  simp only [if_neg c00] at hs0 hr0
  simp only [hs0, hr0, Option.bind_some]
  exact ⟨rfl, by omega⟩
theorem agree_5 (xs : List UInt8) (h : 5 ≤ xs.length) : Agree xs (rrun xs [110, 98] (⟨5, num ((xs.drop 1).take 4), [], 0, 0, 0, 0, []⟩, 5)) (chain 5 ⟨xs, 1, 0⟩) := by
  rw [chain_eq, four xs h]
  simp only [show fldN 5 = true from rfl, show fldS 5 = false from rfl, show fldO 5 = false from rfl, show fldU 5 = false from rfl, show fldC 5 = false from rfl, show fldB 5 = true from rfl, ropt_no, rvar_no, rrun, List.foldl_cons, List.foldl_nil, Option.bind_some]
  have hs0 := rvar_yes xs 1 1 rfl (5) (by omega)
  have hr0 := fun m => rstep_n xs m (5)
  by_cases c00 : xs.length - (5) < 1
  · simp only [if_pos c00] at hs0 hr0
    simp only [hs0, hr0, Option.bind_some, Option.bind_none, ropt_dead, rvar_dead, Agree]
  simp only [if_neg c00] at hs0 hr0
  by_cases c01 : xs.length - (5 + 1) < num ((xs.drop (5)).take 1)
  · simp only [if_pos c01] at hs0 hr0
    simp only [hs0, hr0, Option.bind_some, Option.bind_none, ropt_dead, rvar_dead, Agree]
  simp only [if_neg c01] at hs0 hr0
  simp only [hs0, hr0, Option.bind_some]
  obtain ⟨x0, hx0⟩ : ∃ x, num ((xs.drop (5)).take 1) = x := ⟨_, rfl⟩
  simp only [hx0] at *
  have hs1 := rvar_yes xs 2 2 rfl (5 + 1 + x0) (by omega)
  have hr1 := fun m => rstep_b xs m (5 + 1 + x0)
  by_cases c10 : xs.length - (5 + 1 + x0) < 2
  · simp only [if_pos c10] at hs1 hr1
    simp only [hs1, hr1, Option.bind_some, Option.bind_none, ropt_dead, rvar_dead, Agree]
  simp only [if_neg c10] at hs1 hr1
  by_cases c11 : xs.length - (5 + 1 + x0 + 2) < num ((xs.drop (5 + 1 + x0)).take 2)
  · simp only [if_pos c11] at hs1 hr1
    simp only [hs1, hr1, Option.bind_some, Option.bind_none, ropt_dead, rvar_dead, Agree]
  simp only [if_neg c11] at hs1 hr1
  simp only [hs1, hr1, Option.bind_some]
  obtain ⟨x1, hx1⟩ : ∃ x, num ((xs.drop (5 + 1 + x0)).take 2) = x := ⟨_, rfl⟩
  simp only [hx1] at *
  exact ⟨rfl, by omega⟩
theorem agree_6 (xs : List UInt8) (h : 5 ≤ xs.length) : Agree xs (rrun xs [110] (⟨6, num ((xs.drop 1).take 4), [], 0, 0, 0, 0, []⟩, 5)) (chain 6 ⟨xs, 1, 0⟩) := by
  rw [chain_eq, four xs h]
  simp only [show fldN 6 = true from rfl, show fldS 6 = false from rfl, show fldO 6 = false from rfl, show fldU 6 = false from rfl, show fldC 6 = false from rfl, show fldB 6 = false from rfl, ropt_no, rvar_no, rrun, List.foldl_cons, List.foldl_nil, Option.bind_some]
  have hs0 := rvar_yes xs 1 1 rfl (5) (by omega)
  have hr0 := fun m => rstep_n xs m (5)
  by_cases c00 : xs.length - (5) < 1
  · simp only [if_pos c00] at hs0 hr0
    simp only [hs0, hr0, Option.bind_some, Option.bind_none, ropt_dead, rvar_dead, Agree]
  simp only [if_neg c00] at hs0 hr0
  by_cases c01 : xs.length - (5 + 1) < num ((xs.drop (5)).take 1)
  · simp only [if_pos c01] at hs0 hr0
    simp only [hs0, hr0, Option.bind_some, Option.bind_none, ropt_dead, rvar_dead, Agree]
  simp only [if_neg c01] at hs0 hr0
  simp only [hs0, hr0, Option.bind_some]
  obtain ⟨x0, hx0⟩ : ∃ x, num ((xs.drop (5)).take 1) = x := ⟨_, rfl⟩
  simp only [hx0] at *
  exact ⟨rfl, by omega⟩
theorem agree_7 (xs : List UInt8) (h : 5 ≤ xs.length) : Agree xs (rrun xs [98] (⟨7, num ((xs.drop 1).take 4), [], 0, 0, 0, 0, []⟩, 5)) (chain 7 ⟨xs, 1, 0⟩) := by
  rw [chain_eq, four xs h]
  simp only [show fldN 7 = false from rfl, show fldS 7 = false from rfl, show fldO 7 = false from rfl, show fldU 7 = false from rfl, show fldC 7 = false from rfl, show fldB 7 = true from rfl, ropt_no, rvar_no, rrun, List.foldl_cons, List.foldl_nil, Option.bind_some]
  have hs0 := rvar_yes xs 2 2 rfl (5) (by omega)
  have hr0 := fun m => rstep_b xs m (5)
  by_cases c00 : xs.length - (5) < 2
  · simp only [if_pos c00] at hs0 hr0
    simp only [hs0, hr0, Option.bind_some, Option.bind_none, ropt_dead, rvar_dead, Agree]
  simp only [if_neg c00] at hs0 hr0
  by_cases c01 : xs.length - (5 + 2) < num ((xs.drop (5)).take 2)
  · simp only [if_pos c01] at hs0 hr0
    simp only [hs0, hr0, Option.bind_some, Option.bind_none, ropt_dead, rvar_dead, Agree]
  simp only [if_neg c01] at hs0 hr0
  simp only [hs0, hr0, Option.bind_some]
  obtain ⟨x0, hx0⟩ : ∃ x, num ((xs.drop (5)).take 2) = x := ⟨_, rfl⟩
  simp only [hx0] at *
  exact ⟨rfl, by omega⟩
theorem agree_8 (xs : List UInt8) (h : 5 ≤ xs.length) : Agree xs (rrun xs [99, 98] (⟨8, num ((xs.drop 1).take 4), [], 0, 0, 0, 0, []⟩, 5)) (chain 8 ⟨xs, 1, 0⟩) := by
  rw [chain_eq, four xs h]
  simp only [show fldN 8 = false from rfl, show fldS 8 = false from rfl, show fldO 8 = false from rfl, show fldU 8 = false from rfl, show fldC 8 = true from rfl, show fldB 8 = true from rfl, ropt_no, rvar_no, rrun, List.foldl_cons, List.foldl_nil, Option.bind_some]
  have hs0 := ropt_yes xs 1 1 rfl (5) (by omega)
  have hr0 := fun m => rstep_c xs m (5)
  by_cases c00 : xs.length - (5) < 1
  · simp only [if_pos c00] at hs0 hr0
    simp only [hs0, hr0, Option.bind_some, Option.bind_none, ropt_dead, rvar_dead, Agree]
  simp only [if_neg c00] at hs0 hr0
  simp only [hs0, hr0, Option.bind_some]
  have hs1 := rvar_yes xs 2 2 rfl (5 + 1) (by omega)
  have hr1 := fun m => rstep_b xs m (5 + 1)
  by_cases c10 : xs.length - (5 + 1) < 2
  · simp only [if_pos c10] at hs1 hr1
    simp only [hs1, hr1, Option.bind_some, Option.bind_none, ropt_dead, rvar_dead, Agree]
  simp only [if_neg c10] at hs1 hr1
  by_cases c11 : xs.length - (5 + 1 + 2) < num ((xs.drop (5 + 1)).take 2)
  · simp only [if_pos c11] at hs1 hr1
    simp only [hs1, hr1, Option.bind_some, Option.bind_none, ropt_dead, rvar_dead, Agree]
  simp only [if_neg c11] at hs1 hr1
  simp only [hs1, hr1, Option.bind_some]
  obtain ⟨x1, hx1⟩ : ∃ x, num ((xs.drop (5 + 1)).take 2) = x := ⟨_, rfl⟩
  simp only [hx1] at *
  exact ⟨rfl, by omega⟩

theorem agree_any (k : Int) (hk : 1 ≤ k ∧ k ≤ 8) (xs : List UInt8) (h : 5 ≤ xs.length) : Agree xs (rrun xs (fstr k) (⟨k, num ((xs.drop 1).take 4), [], 0, 0, 0, 0, []⟩, 5)) (chain k ⟨xs, 1, 0⟩) := by
  have : k = 1 ∨ k = 2 ∨ k = 3 ∨ k = 4 ∨ k = 5 ∨ k = 6 ∨ k = 7 ∨ k = 8 := by omega
  rcases this with rfl | rfl | rfl | rfl | rfl | rfl | rfl | rfl
  · exact agree_1 xs h
  · exact agree_2 xs h
  · exact agree_3 xs h
  · exact agree_4 xs h
  · exact agree_5 xs h
  · exact agree_6 xs h
  · exact agree_7 xs h
  · exact agree_8 xs h

theorem fbits_no (k : Int) (h : ¬ (1 ≤ k ∧ k ≤ 8)) : fbits k = 0 := by
  unfold fbits
  repeat' split
  all_goals first | rfl | omega
theorem fbits_yes (k : Int) (h : 1 ≤ k ∧ k ≤ 8) : fbits k ≠ 0 := by
  have : k = 1 ∨ k = 2 ∨ k = 3 ∨ k = 4 ∨ k = 5 ∨ k = 6 ∨ k = 7 ∨ k = 8 := by omega
  rcases this with rfl | rfl | rfl | rfl | rfl | rfl | rfl | rfl <;> decide

/-- The reference's Decode says what Decode says. -/
theorem ref_dec (xs : List UInt8) : refOut xs = (decM xs, decE xs) := by
  cases xs with
  | nil =>
    obtain ⟨h1, h2⟩ := dec_nil
    rw [h1, h2]
    rfl
  | cons x l =>
    obtain ⟨hk, hr⟩ := kind_head x l
    have h0 : ((x :: l)[0]?.getD 0 : UInt8) = x := rfl
    have hpos : 0 < (x :: l).length := by simp
    unfold refOut
    rw [if_neg (by simp), h0]
    by_cases hb : 1 ≤ (x.toNat : Int) ∧ (x.toNat : Int) ≤ 8
    · rw [if_neg (by simpa using hb)]
      have hf : fbits (kindOf (x :: l)) ≠ 0 := by rw [hk]; exact fbits_yes _ hb
      by_cases h5 : (x :: l).length < 5
      · rw [if_pos h5]
        have := chain_short x.toNat (x :: l) h5 hpos
        obtain ⟨e1, e2⟩ := dec_short (xs := x :: l) (k := x.toNat) (m := (decR (x :: l)).1) (r := (decR (x :: l)).2) hk (by rw [← hk]; exact hf) rfl (by rw [hr, this]; decide)
        rw [e1, e2]
      · rw [if_neg h5]
        have ha := agree_any x.toNat hb (x :: l) (by omega)
        rw [← hr] at ha
        have hR : refR (x :: l) = rrun (x :: l) (fstr x.toNat) (⟨(x.toNat : Int), num (((x :: l).drop 1).take 4), [], 0, 0, 0, 0, []⟩, 5) := rfl
        rw [hR]
        cases ho : rrun (x :: l) (fstr x.toNat) (⟨(x.toNat : Int), num (((x :: l).drop 1).take 4), [], 0, 0, 0, 0, []⟩, 5) with
        | none =>
          rw [ho] at ha
          have ha' : (decR (x :: l)).2.err = 7 := ha
          obtain ⟨e1, e2⟩ := dec_short (xs := x :: l) (k := x.toNat) (m := (decR (x :: l)).1) (r := (decR (x :: l)).2) hk (by rw [← hk]; exact hf) rfl (by rw [ha']; decide)
          rw [e1, e2]
        | some s =>
          rw [ho] at ha
          obtain ⟨ha1, ha2⟩ : decR (x :: l) = (s.1, ⟨x :: l, s.2, 0⟩) ∧ s.2 ≤ (x :: l).length := ha
          show (if s.2 < (x :: l).length ∨ ¬ s.1.ok then (noMsg, (210 : Int)) else (s.1, 0)) = _
          by_cases hc : s.2 < (x :: l).length ∨ ¬ s.1.ok
          · rw [if_pos hc]
            obtain ⟨e1, e2⟩ := dec_bad (xs := x :: l) (k := x.toNat) (m := s.1) (r := ⟨x :: l, s.2, 0⟩) hk (by rw [← hk]; exact hf) ha1 rfl hc
            rw [e1, e2]
          · rw [if_neg hc]
            obtain ⟨e1, e2⟩ := dec_good (xs := x :: l) (k := x.toNat) (m := s.1) (r := ⟨x :: l, s.2, 0⟩) hk (by rw [← hk]; exact hf) ha1 rfl (fun h => hc (.inl h)) (Classical.byContradiction fun h => hc (.inr h))
            rw [e1, e2]
    · rw [if_pos hb]
      obtain ⟨e1, e2⟩ := dec_none (xs := x :: l) hpos (by rw [hk]; exact fbits_no _ hb)
      rw [e1, e2]

end Go.Proofs.Ytmcldnfemlaeiaa
