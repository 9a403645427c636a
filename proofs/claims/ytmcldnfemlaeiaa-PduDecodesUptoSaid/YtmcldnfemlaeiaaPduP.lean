/- Layer 11's plain laws: there and back. No program in sight. -/
import Derived.Test.YtmcldnfemlaeiaaPduM
namespace Go.Proofs.Ytmcldnfemlaeiaa
open Go.RowKit K L
set_option linter.unusedVariables false
set_option linter.unusedSimpArgs false

theorem Rs.take_err' (r : Rs) (n : Int) (h : r.err ≠ 0) : r.take n = (r, []) := by unfold Rs.take; rw [if_pos h]
theorem Rs.take_xs (r : Rs) (n : Int) : (r.take n).1.xs = r.xs := by
  unfold Rs.take
  split
  · rfl
  · split
    · rfl
    · split <;> rfl
/-- A read that went through. -/
theorem Rs.take_good (r : Rs) (n : Int) (hp : r.pos ≤ r.xs.length) (h : (r.take n).1.err = 0) :
    r.err = 0 ∧ 0 ≤ n ∧ r.xs.drop r.pos = (r.take n).2 ++ r.xs.drop (r.take n).1.pos ∧ (r.take n).2.length = n.toNat ∧ (r.take n).1.pos ≤ r.xs.length ∧ (r.take n).1.xs = r.xs := by
  by_cases he : r.err = 0
  · by_cases h1 : n < 0
    · exfalso; unfold Rs.take at h; rw [if_neg (by simpa using he), if_pos h1] at h; simp at h
    · by_cases h2 : (r.xs.length : Int) - r.pos < n
      · exfalso; unfold Rs.take at h; rw [if_neg (by simpa using he), if_neg h1, if_pos h2] at h; simp at h
      · have e : r.take n = ({ r with pos := r.pos + n.toNat }, (r.xs.drop r.pos).take n.toNat) := by unfold Rs.take; rw [if_neg (by simpa using he), if_neg h1, if_neg h2]
        rw [e]
        refine ⟨he, by omega, ?_, by simp only [List.length_take, List.length_drop]; omega, by simp only; omega, rfl⟩
        simp only [← List.drop_drop]
        exact (List.take_append_drop _ _).symm
  · rw [Rs.take_err' r n he] at h
    exact absurd h he

/-- A read where the bytes are known. -/
theorem Rs.take_app (xs a b : List UInt8) (pos : Nat) (n : Int) (hp : pos ≤ xs.length) (hd : xs.drop pos = a ++ b) (hn : n = a.length) : Rs.take ⟨xs, pos, 0⟩ n = (⟨xs, pos + a.length, 0⟩, a) ∧ xs.drop (pos + a.length) = b ∧ pos + a.length ≤ xs.length := by
  have hl : (xs.drop pos).length = a.length + b.length := by rw [hd, List.length_append]
  rw [List.length_drop] at hl
  refine ⟨?_, ?_, by omega⟩
  · subst hn
    unfold Rs.take
    rw [if_neg (by simp), if_neg (by omega), if_neg (by simp only; omega)]
    simp only [Int.toNat_natCast, hd, List.take_left']
  · rw [← List.drop_drop, hd, List.drop_left]

theorem be_num : ∀ (n : Nat) (t : List UInt8), t.length = n → be (num t) n = t := by
  intro n
  induction n with
  | zero => intro t h; rw [List.eq_nil_of_length_eq_zero h]; rfl
  | succ n ih =>
    intro t h
    cases t with
    | nil => simp at h
    | cons c t =>
      have hl : t.length = n := by simpa using h
      have hlt := num_lt t
      rw [hl] at hlt
      have hc : num (c :: t) = c.toNat * 256 ^ n + num t := by
        have : ∀ (l : List UInt8) (a : Nat), l.foldl (fun a c => a * 256 + c.toNat) a = a * 256 ^ l.length + num l := by
          intro l
          induction l with
          | nil => intro a; simp [num]
          | cons d l ih2 =>
            intro a
            have e1 := ih2 (a * 256 + d.toNat)
            have e2 := ih2 (0 * 256 + d.toNat)
            simp only [List.foldl_cons, List.length_cons, num] at e1 e2 ⊢
            rw [e1, e2, Nat.pow_succ, Nat.add_mul, Nat.mul_assoc, Nat.mul_comm 256]
            simp only [Nat.zero_mul, Nat.zero_add, Nat.add_mul, Nat.mul_assoc]
            omega
        have := this t (0 * 256 + c.toNat)
        simp only [num, List.foldl_cons] at this ⊢
        rw [this, hl]; simp
      rw [be_head, hc]
      have hd : (c.toNat * 256 ^ n + num t) / 256 ^ n = c.toNat := by
        rw [Nat.mul_comm, Nat.mul_add_div (Nat.pow_pos (by decide)), Nat.div_eq_of_lt hlt]; simp
      rw [hd]
      have hb : be (c.toNat * 256 ^ n + num t) n = be (num t) n := by
        rw [← be_mod' n (c.toNat * 256 ^ n + num t), Nat.mul_comm, Nat.mul_add_mod, Nat.mod_eq_of_lt hlt]
      rw [hb, ih t hl]
      simp
where
  be_mod' (n : Nat) : ∀ x, be (x % 256 ^ n) n = be x n := by
    induction n with
    | zero => intro x; rfl
    | succ n ih =>
      intro x
      rw [be_head, be_head]
      have h1 : x % 256 ^ (n + 1) / 256 ^ n % 256 = x / 256 ^ n % 256 := by
        rw [Nat.pow_succ, Nat.mod_mul_right_div_self]; simp
      have h2 : be (x % 256 ^ (n + 1)) n = be x n := by
        rw [← ih (x % 256 ^ (n + 1)), ← ih x, Nat.pow_succ, Nat.mod_mul_right_mod]
      rw [h2]
      congr 1
      have : ∀ a : Nat, UInt8.ofNat (a % 256) = UInt8.ofNat a := by intro a; rw [← UInt8.toNat_inj]; simp
      rw [← this (x % 256 ^ (n + 1) / 256 ^ n), h1, this]

theorem num_one (x : Nat) (h : x < 256) : num [UInt8.ofNat x] = x := by simp [num]; omega
theorem num_be' (n x : Nat) (h : x < 256 ^ n) : num (be x n) = x := by rw [num_be, Nat.mod_eq_of_lt h]

/-- A length of one row of bytes. -/
theorem one_num {t : List UInt8} (h : t.length = 1) : [UInt8.ofNat (num t)] = t := by
  have := be_num 1 t h
  rw [be_head] at this
  simpa [be] using this

/-- More bytes behind. -/
def Rs.ext (r : Rs) (zs : List UInt8) : Rs := ⟨r.xs ++ zs, r.pos, r.err⟩
theorem Rs.take_ext (r : Rs) (n : Int) (zs : List UInt8) (hp : r.pos ≤ r.xs.length) (h : (r.take n).1.err = 0) : (r.ext zs).take n = ((r.take n).1.ext zs, (r.take n).2) := by
  obtain ⟨xs, pos, err⟩ := r
  obtain ⟨h1, h2, h3, h4, h5, h6⟩ := Rs.take_good _ n hp h
  dsimp only at h1 hp
  subst h1
  have hn : ¬ ((xs.length : Int) - pos < n) := by
    intro hlt
    unfold Rs.take at h
    rw [if_neg (by simp), if_neg (by omega), if_pos hlt] at h
    simp at h
  have e1 : Rs.take ⟨xs, pos, 0⟩ n = (⟨xs, pos + n.toNat, 0⟩, (xs.drop pos).take n.toNat) := by
    unfold Rs.take
    rw [if_neg (by simp), if_neg (by omega), if_neg hn]
  have e2 : Rs.take ⟨xs ++ zs, pos, 0⟩ n = (⟨xs ++ zs, pos + n.toNat, 0⟩, ((xs ++ zs).drop pos).take n.toNat) := by
    unfold Rs.take
    rw [if_neg (by simp), if_neg (by omega), if_neg (by simp only [List.length_append]; omega)]
  rw [e1]
  unfold Rs.ext
  dsimp only
  rw [e2, List.drop_append_of_le_length hp, List.take_append_of_le_length (by rw [List.length_drop]; omega)]

/-! ### The chain, step by step -/
def ropt (f : Bool) (n : Int) (r : Rs) : Rs × List UInt8 := if f then r.take n else (r, [])
def rvar (f : Bool) (n : Int) (r : Rs) : Rs × List UInt8 := if f then (r.take n).1.take (num (r.take n).2 : Nat) else (r, [])
theorem chain_eq (k : Int) (r : Rs) : chain k r =
    (⟨k, num (r.take 4).2, (rvar (fldN k) 1 (r.take 4).1).2, (num (ropt (fldS k) 2 (rvar (fldN k) 1 (r.take 4).1).1).2 : Nat), (num (ropt (fldO k) 2 (ropt (fldS k) 2 (rvar (fldN k) 1 (r.take 4).1).1).1).2 : Nat),
      num (ropt (fldU k) 4 (ropt (fldO k) 2 (ropt (fldS k) 2 (rvar (fldN k) 1 (r.take 4).1).1).1).1).2, (num (ropt (fldC k) 1 (ropt (fldU k) 4 (ropt (fldO k) 2 (ropt (fldS k) 2 (rvar (fldN k) 1 (r.take 4).1).1).1).1).1).2 : Nat),
      (rvar (fldB k) 2 (ropt (fldC k) 1 (ropt (fldU k) 4 (ropt (fldO k) 2 (ropt (fldS k) 2 (rvar (fldN k) 1 (r.take 4).1).1).1).1).1).1).2⟩,
     (rvar (fldB k) 2 (ropt (fldC k) 1 (ropt (fldU k) 4 (ropt (fldO k) 2 (ropt (fldS k) 2 (rvar (fldN k) 1 (r.take 4).1).1).1).1).1).1).1) := rfl

/-- A step of a reader that is no worse for more bytes. -/
structure Good (S : Rs → Rs × List UInt8) : Prop where
  pos : ∀ r, r.pos ≤ r.xs.length → (S r).1.pos ≤ (S r).1.xs.length
  err : ∀ r, (S r).1.err = 0 → r.err = 0
  ext : ∀ r zs, r.pos ≤ r.xs.length → (S r).1.err = 0 → S (r.ext zs) = ((S r).1.ext zs, (S r).2)
theorem good_take (n : Int) : Good (fun r => r.take n) where
  pos r h := Rs.take_pos r n h
  err r h := by
    by_cases he : r.err = 0
    · exact he
    · rw [Rs.take_err' r n he] at h; exact h
  ext r zs hp h := Rs.take_ext r n zs hp h
theorem good_ropt (f : Bool) (n : Int) : Good (ropt f n) := by
  cases f with
  | false => exact ⟨fun r h => h, fun r h => h, fun r zs h he => rfl⟩
  | true => exact good_take n
theorem good_rvar (f : Bool) (n : Int) : Good (rvar f n) := by
  cases f with
  | false => exact ⟨fun r h => h, fun r h => h, fun r zs h he => rfl⟩
  | true =>
    refine ⟨fun r h => Rs.take_pos _ _ (Rs.take_pos _ _ h), fun r h => (good_take n).err r ((good_take _).err _ h), fun r zs hp h => ?_⟩
    have h1 := (good_take _).err _ h
    have e1 := (good_take n).ext r zs hp h1
    unfold rvar
    simp only [if_true]
    rw [e1]
    exact (good_take _).ext _ zs (Rs.take_pos _ _ hp) h

theorem chain_ext (k : Int) (r : Rs) (zs : List UInt8) (hp : r.pos ≤ r.xs.length) (h : (chain k r).2.err = 0) : chain k (r.ext zs) = ((chain k r).1, (chain k r).2.ext zs) ∧ r.err = 0 ∧ (chain k r).2.pos ≤ (chain k r).2.xs.length := by
  rw [chain_eq, chain_eq] at *
  dsimp only at h ⊢
  have g6 := (good_rvar (fldB k) 2).err _ h
  have g5 := (good_ropt (fldC k) 1).err _ g6
  have g4 := (good_ropt (fldU k) 4).err _ g5
  have g3 := (good_ropt (fldO k) 2).err _ g4
  have g2 := (good_ropt (fldS k) 2).err _ g3
  have g1 := (good_rvar (fldN k) 1).err _ g2
  have g0 := (good_take 4).err _ g1
  have p0 := (good_take 4).pos _ hp
  have p1 := (good_rvar (fldN k) 1).pos _ p0
  have p2 := (good_ropt (fldS k) 2).pos _ p1
  have p3 := (good_ropt (fldO k) 2).pos _ p2
  have p4 := (good_ropt (fldU k) 4).pos _ p3
  have p5 := (good_ropt (fldC k) 1).pos _ p4
  have p6 := (good_rvar (fldB k) 2).pos _ p5
  have e0 := (good_take 4).ext r zs hp g1
  have e1 := (good_rvar (fldN k) 1).ext _ zs p0 g2
  have e2 := (good_ropt (fldS k) 2).ext _ zs p1 g3
  have e3 := (good_ropt (fldO k) 2).ext _ zs p2 g4
  have e4 := (good_ropt (fldU k) 4).ext _ zs p3 g5
  have e5 := (good_ropt (fldC k) 1).ext _ zs p4 g6
  have e6 := (good_rvar (fldB k) 2).ext _ zs p5 h
  refine ⟨?_, g0, p6⟩
  rw [e0]
  dsimp only
  rw [e1]
  dsimp only
  rw [e2]
  dsimp only
  rw [e3]
  dsimp only
  rw [e4]
  dsimp only
  rw [e5]
  dsimp only
  rw [e6]

/-- What a step took. -/
theorem ropt_inv (f : Bool) (n : Nat) (q : Int) (hq : q = n) (r : Rs) (hp : r.pos ≤ r.xs.length) (h : (ropt f q r).1.err = 0) :
    r.xs.drop r.pos = (if f then be (num (ropt f q r).2) n else []) ++ (ropt f q r).1.xs.drop (ropt f q r).1.pos ∧ num (ropt f q r).2 < 256 ^ n ∧ (f = false → num (ropt f q r).2 = 0) := by
  subst hq
  cases f with
  | false => exact ⟨rfl, by simp [ropt, num, Nat.pow_pos], fun _ => rfl⟩
  | true =>
    obtain ⟨h1, h2, h3, h4, h5, h6⟩ := Rs.take_good r n hp h
    unfold ropt
    simp only [if_true]
    refine ⟨?_, Rs.num_lt r n, fun h => by cases h⟩
    rw [be_num n _ (by omega), h6]
    exact h3
theorem rvar_inv (f : Bool) (n : Nat) (q : Int) (hq : q = n) (r : Rs) (hp : r.pos ≤ r.xs.length) (h : (rvar f q r).1.err = 0) :
    r.xs.drop r.pos = (if f then be (rvar f q r).2.length n ++ (rvar f q r).2 else []) ++ (rvar f q r).1.xs.drop (rvar f q r).1.pos ∧ (f = false → (rvar f q r).2 = []) := by
  subst hq
  cases f with
  | false => exact ⟨rfl, fun _ => rfl⟩
  | true =>
    have hh := (good_take _).err _ h
    obtain ⟨h1, h2, h3, h4, h5, h6⟩ := Rs.take_good r n hp hh
    obtain ⟨i1, i2, i3, i4, i5, i6⟩ := Rs.take_good (r.take n).1 _ (Rs.take_pos r n hp) h
    unfold rvar
    simp only [if_true]
    refine ⟨?_, fun h => by cases h⟩
    rw [Int.toNat_natCast] at i4
    rw [i4, be_num n _ (by omega), i6, List.append_assoc, ← i3, h6]
    exact h3

theorem one_be (x : Nat) : be x 1 = [UInt8.ofNat x] := by rw [be_head]; simp [be]

/-- What was decoded is encoded into the same bytes. -/
theorem chain_enc (k : Int) (r : Rs) (hp : r.pos ≤ r.xs.length) (h : (chain k r).2.err = 0) (hd : ¬ (chain k r).2.pos < (chain k r).2.xs.length) : (chain k r).1.enc = [UInt8.ofNat k.toNat] ++ r.xs.drop r.pos := by
  rw [chain_eq] at *
  dsimp only at h hd ⊢
  have g6 := (good_rvar (fldB k) 2).err _ h
  have g5 := (good_ropt (fldC k) 1).err _ g6
  have g4 := (good_ropt (fldU k) 4).err _ g5
  have g3 := (good_ropt (fldO k) 2).err _ g4
  have g2 := (good_ropt (fldS k) 2).err _ g3
  have g1 := (good_rvar (fldN k) 1).err _ g2
  have p0 := (good_take 4).pos _ hp
  have p1 := (good_rvar (fldN k) 1).pos _ p0
  have p2 := (good_ropt (fldS k) 2).pos _ p1
  have p3 := (good_ropt (fldO k) 2).pos _ p2
  have p4 := (good_ropt (fldU k) 4).pos _ p3
  have p5 := (good_ropt (fldC k) 1).pos _ p4
  have e0 := ropt_inv true 4 4 rfl r hp g1
  have e1 := rvar_inv (fldN k) 1 1 rfl _ p0 g2
  have e2 := ropt_inv (fldS k) 2 2 rfl _ p1 g3
  have e3 := ropt_inv (fldO k) 2 2 rfl _ p2 g4
  have e4 := ropt_inv (fldU k) 4 4 rfl _ p3 g5
  have e5 := ropt_inv (fldC k) 1 1 rfl _ p4 g6
  have e6 := rvar_inv (fldB k) 2 2 rfl _ p5 h
  have hnil : ∀ (l : List UInt8) (n : Nat), ¬ n < l.length → l.drop n = [] := fun l n h => List.drop_eq_nil_of_le (by omega)
  have e7 := hnil _ _ hd
  rw [show ropt true 4 r = r.take 4 from rfl] at e0
  clear g1 g2 g3 g4 g5 g6 p0 p1 p2 p3 p4 p5 h hd hp
  generalize r.take 4 = x0 at *
  generalize rvar (fldN k) 1 x0.1 = x1 at *
  generalize ropt (fldS k) 2 x1.1 = x2 at *
  generalize ropt (fldO k) 2 x2.1 = x3 at *
  generalize ropt (fldU k) 4 x3.1 = x4 at *
  generalize ropt (fldC k) 1 x4.1 = x5 at *
  generalize rvar (fldB k) 2 x5.1 = x6 at *
  rw [e0.1, e1.1, e2.1, e3.1, e4.1, e5.1, e6.1, e7]
  unfold Msg.enc
  simp only [one_be, Int.toNat_natCast, List.append_assoc, List.append_nil, if_true]

theorem ropt_app (f : Bool) (x n : Nat) (q : Int) (hq : q = n) (hx : x < 256 ^ n) (h0 : f = false → x = 0) (xs rest : List UInt8) (pos : Nat) (hp : pos ≤ xs.length) (hd : xs.drop pos = (if f then be x n else []) ++ rest) :
    ∃ pos' t, ropt f q ⟨xs, pos, 0⟩ = (⟨xs, pos', 0⟩, t) ∧ num t = x ∧ pos' ≤ xs.length ∧ xs.drop pos' = rest := by
  cases f with
  | false => exact ⟨pos, [], rfl, (h0 rfl).symm, hp, by simpa using hd⟩
  | true =>
    obtain ⟨h1, h2, h3⟩ := Rs.take_app xs (be x n) rest pos q hp (by simpa using hd) (by rw [be_len]; exact hq)
    exact ⟨_, _, h1, num_be' n x hx, h3, h2⟩
theorem rvar_app (f : Bool) (t : List UInt8) (n : Nat) (q : Int) (hq : q = n) (hx : t.length < 256 ^ n) (h0 : f = false → t = []) (xs rest : List UInt8) (pos : Nat) (hp : pos ≤ xs.length) (hd : xs.drop pos = (if f then be t.length n ++ t else []) ++ rest) :
    ∃ pos', rvar f q ⟨xs, pos, 0⟩ = (⟨xs, pos', 0⟩, t) ∧ pos' ≤ xs.length ∧ xs.drop pos' = rest := by
  cases f with
  | false => exact ⟨pos, by rw [h0 rfl]; rfl, hp, by simpa using hd⟩
  | true =>
    obtain ⟨h1, h2, h3⟩ := Rs.take_app xs (be t.length n) (t ++ rest) pos q hp (by simpa [List.append_assoc] using hd) (by rw [be_len]; exact hq)
    obtain ⟨i1, i2, i3⟩ := Rs.take_app xs t rest _ (t.length : Nat) h3 h2 rfl
    refine ⟨_, ?_, i3, i2⟩
    unfold rvar
    simp only [if_true, h1, num_be' n t.length hx]
    exact i1

theorem chain_dec (m : Msg) (hok : m.ok) (hn : m.number < 4294967296) (hu : m.sum < 4294967296) (xs : List UInt8) (pos : Nat) (hp : pos ≤ xs.length) (hd : [UInt8.ofNat m.kind.toNat] ++ xs.drop pos = m.enc) :
    chain m.kind ⟨xs, pos, 0⟩ = (m, ⟨xs, xs.length, 0⟩) := by
  obtain ⟨o1, o2, o3, o4, o5, o6, o7, o8, o9, o10, o11, o12, o13⟩ := hok
  obtain ⟨k, number, name, size, off, sum, code, bytes⟩ := m
  dsimp only at *
  have hoff : 0 ≤ off ∧ off ≤ 4096 := by
    by_cases hk : k = 2
    · have := o13 hk; omega
    · have : fldO k = false := by simp [fldO, hk]
      have := o7 this; omega
  have hnl : name.length < 256 := by
    cases hf : fldN k with
    | true => have := (o3 hf).2; omega
    | false => have := o4 hf; omega
  unfold Msg.enc at hd
  dsimp only at hd
  simp only [List.append_assoc] at hd
  replace hd := List.append_cancel_left hd
  rw [← one_be name.length, ← one_be code.toNat] at hd
  obtain ⟨p1, t1, e1, n1, q1, d1⟩ := ropt_app true number 4 4 rfl hn (fun h => by cases h) xs _ pos hp hd
  obtain ⟨p2, e2, q2, d2⟩ := rvar_app (fldN k) name 1 1 rfl hnl (fun h => List.eq_nil_of_length_eq_zero (o4 h)) xs _ p1 q1 d1
  obtain ⟨p3, t3, e3, n3, q3, d3⟩ := ropt_app (fldS k) size.toNat 2 2 rfl (by omega) (fun h => by have := o6 h; omega) xs _ p2 q2 d2
  obtain ⟨p4, t4, e4, n4, q4, d4⟩ := ropt_app (fldO k) off.toNat 2 2 rfl (by omega) (fun h => by have := o7 h; omega) xs _ p3 q3 d3
  obtain ⟨p5, t5, e5, n5, q5, d5⟩ := ropt_app (fldU k) sum 4 4 rfl hu o8 xs _ p4 q4 d4
  obtain ⟨p6, t6, e6, n6, q6, d6⟩ := ropt_app (fldC k) code.toNat 1 1 rfl (by omega) (fun h => by have := o10 h; omega) xs _ p5 q5 d5
  obtain ⟨p7, e7, q7, d7⟩ := rvar_app (fldB k) bytes 2 2 rfl (by omega) (fun h => List.eq_nil_of_length_eq_zero (o12 h)) xs [] p6 q6 (by simpa using d6)
  have hp7 : p7 = xs.length := by
    have := congrArg List.length d7
    rw [List.length_drop] at this
    simp at this; omega
  rw [chain_eq]
  rw [show Rs.take ⟨xs, pos, 0⟩ 4 = _ from e1]
  dsimp only
  rw [e2]
  dsimp only
  rw [e3]
  dsimp only
  rw [e4]
  dsimp only
  rw [e5]
  dsimp only
  rw [e6]
  dsimp only
  rw [e7, n1, n3, n4, n5, n6, hp7]
  congr 2 <;> omega

theorem enc_head (m : Msg) : m.enc = UInt8.ofNat m.kind.toNat :: m.enc.drop 1 := by
  unfold Msg.enc
  simp

theorem take_head (x : UInt8) (l : List UInt8) : Rs.take ⟨x :: l, 0, 0⟩ 1 = (⟨x :: l, 1, 0⟩, [x]) := (Rs.take_app (x :: l) [x] l 0 1 (Nat.zero_le _) rfl rfl).1

theorem kind_head (x : UInt8) (l : List UInt8) : kindOf (x :: l) = x.toNat ∧ decR (x :: l) = chain x.toNat ⟨x :: l, 1, 0⟩ := by
  have h : kindOf (x :: l) = x.toNat := by unfold kindOf; rw [take_head]; simp [num]
  exact ⟨h, by unfold decR; rw [h, take_head]⟩

theorem ok_kind {m : Msg} (hok : m.ok) : fbits m.kind ≠ 0 ∧ ((UInt8.ofNat m.kind.toNat).toNat : Int) = m.kind := by
  have := hok.1
  have h : m.kind = 1 ∨ m.kind = 2 ∨ m.kind = 3 ∨ m.kind = 4 ∨ m.kind = 5 ∨ m.kind = 6 ∨ m.kind = 7 ∨ m.kind = 8 := by omega
  rcases h with h | h | h | h | h | h | h | h <;> rw [h] <;> decide

theorem dec_enc_r (m : Msg) (hok : m.ok) (hn : m.number < 4294967296) (hu : m.sum < 4294967296) : decR m.enc = (m, ⟨m.enc, m.enc.length, 0⟩) ∧ kindOf m.enc = m.kind := by
  obtain ⟨k1, k2⟩ := ok_kind hok
  have he := enc_head m
  obtain ⟨h1, h2⟩ := kind_head (UInt8.ofNat m.kind.toNat) (m.enc.drop 1)
  rw [← he, k2] at h1 h2
  refine ⟨?_, h1⟩
  rw [h2]
  exact chain_dec m hok hn hu m.enc 1 (by rw [he]; simp) he.symm

/-- What was encoded is decoded as it was. -/
theorem dec_enc (m : Msg) (hok : m.ok) (hn : m.number < 4294967296) (hu : m.sum < 4294967296) : decE m.enc = 0 ∧ decM m.enc = m := by
  obtain ⟨h1, h2⟩ := dec_enc_r m hok hn hu
  exact dec_good h2 (ok_kind hok).1 h1 rfl (by simp) hok

/-- Of each beginning it is too short. -/
theorem dec_pre (m : Msg) (hok : m.ok) (hn : m.number < 4294967296) (hu : m.sum < 4294967296) (j : Nat) (hj : j < m.enc.length) : decE (m.enc.take j) = 7 := by
  obtain ⟨h1, h2⟩ := dec_enc_r m hok hn hu
  obtain ⟨k1, k2⟩ := ok_kind hok
  cases j with
  | zero => exact dec_nil.1
  | succ j =>
    have he := enc_head m
    have hs := List.take_append_drop (j + 1) m.enc
    have ht : m.enc.take (j + 1) = UInt8.ofNat m.kind.toNat :: (m.enc.drop 1).take j := by
      conv => lhs; rw [he]
      rw [List.take_succ_cons]
    obtain ⟨a1, a2⟩ := kind_head (UInt8.ofNat m.kind.toNat) ((m.enc.drop 1).take j)
    rw [← ht, k2] at a1 a2
    refine (dec_short a1 k1 (m := (decR (m.enc.take (j + 1))).1) (r := (decR (m.enc.take (j + 1))).2) rfl ?_).1
    intro hz
    rw [a2] at hz
    have hpos : 1 ≤ (m.enc.take (j + 1)).length := by rw [ht]; simp
    obtain ⟨b1, b2, b3⟩ := chain_ext m.kind ⟨m.enc.take (j + 1), 1, 0⟩ (m.enc.drop (j + 1)) hpos hz
    obtain ⟨c1, c2⟩ := kind_head (UInt8.ofNat m.kind.toNat) (m.enc.drop 1)
    rw [← he, k2] at c1 c2
    unfold Rs.ext at b1
    dsimp only at b1
    rw [hs, ← c2, h1] at b1
    have e1 := congrArg (fun p => p.2.pos) b1
    dsimp only at e1
    have hx : (chain m.kind ⟨m.enc.take (j + 1), 1, 0⟩).2.xs = m.enc.take (j + 1) := by
      have e2 := congrArg (fun p => p.2.xs) b1
      dsimp only at e2
      have := congrArg List.length e2
      have := List.append_cancel_right (e2.symm.trans hs.symm)
      exact this
    rw [hx, ← e1, List.length_take] at b3
    omega

theorem chain_small (k : Int) (r : Rs) : (chain k r).1.number < 4294967296 ∧ (chain k r).1.sum < 4294967296 := by
  rw [chain_eq]
  refine ⟨Rs.num_lt r 4, ?_⟩
  dsimp only
  cases fldU k with
  | false => simp [ropt, num]
  | true => exact Rs.num_lt _ 4

/-- What was decoded is encoded into the same bytes. -/
theorem enc_dec (xs : List UInt8) (h : decE xs = 0) : (decM xs).ok ∧ (decM xs).enc = xs ∧ (decM xs).number < 4294967296 ∧ (decM xs).sum < 4294967296 := by
  have hM : decM xs = (decR xs).1 := by unfold decM; rw [if_pos h]
  rw [hM]
  cases xs with
  | nil => rw [dec_nil.1] at h; cases h
  | cons x l =>
    obtain ⟨a1, a2⟩ := kind_head x l
    unfold decE at h
    split at h
    · cases h
    · split at h
      · cases h
      · rename_i hz
        split at h
        · cases h
        · rename_i hb
          simp only [ne_eq, Decidable.not_not] at hz
          simp only [not_or, Decidable.not_not] at hb
          have hs := chain_small x.toNat ⟨x :: l, 1, 0⟩
          rw [a2] at hz hb ⊢
          refine ⟨hb.2, ?_, hs⟩
          rw [chain_enc _ _ (by simp) hz hb.1]
          simp

theorem enc_len (m : Msg) (hok : m.ok) : 5 ≤ m.enc.length ∧ m.enc.length ≤ 100000 := by
  obtain ⟨o1, o2, o3, o4, o5, o6, o7, o8, o9, o10, o11, o12, o13⟩ := hok
  have hnl : m.name.length ≤ 24 := by
    cases hf : fldN m.kind with
    | true => exact (o3 hf).2
    | false => have := o4 hf; omega
  unfold Msg.enc
  simp only [List.length_append, be_len, List.length_cons, List.length_nil]
  have h1 : (if fldN m.kind then [UInt8.ofNat m.name.length] ++ m.name else []).length ≤ 25 := by split <;> simp; omega
  have h2 : (if fldS m.kind then be m.size.toNat 2 else []).length ≤ 2 := by split <;> simp [be_len]
  have h3 : (if fldO m.kind then be m.off.toNat 2 else []).length ≤ 2 := by split <;> simp [be_len]
  have h4 : (if fldU m.kind then be m.sum 4 else []).length ≤ 4 := by split <;> simp [be_len]
  have h5 : (if fldC m.kind then [UInt8.ofNat m.code.toNat] else []).length ≤ 1 := by split <;> simp
  have h6 : (if fldB m.kind then be m.bytes.length 2 ++ m.bytes else []).length ≤ 258 := by split <;> simp [be_len]; omega
  omega

theorem same_self (m : Msg) : m.same m = true := by simp [Msg.same]

end Go.Proofs.Ytmcldnfemlaeiaa
