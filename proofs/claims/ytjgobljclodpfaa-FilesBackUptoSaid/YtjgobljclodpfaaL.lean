/- Plain laws on bytes and numbers, no program in sight. No condition. -/
import Derived.Laws.BitsLemmas
import Derived.Laws.Bits64
import Derived.IntWalk
import GoSem.Op.String
namespace Go.Proofs.Ytjgobljclodpfaa.L

theorem or_u8 (a b : UInt8) : bits .or .u8 (a.toNat : Int) (b.toNat : Int) = ((a ||| b).toNat : Int) := by
  have ha := a.toNat_lt
  have hb := b.toNat_lt
  rw [(bits_nat .u8 8 (by decide) wraps_u8 a.toNat b.toNat (by simpa using ha) (by simpa using hb)).2]
  simp

theorem or_zero (a b : UInt8) : (a ||| b == 0) = (a == 0 && b == 0) := by
  rw [Bool.eq_iff_iff]
  simp only [beq_iff_eq, Bool.and_eq_true]
  constructor
  · intro h
    have h' : (a.toNat ||| b.toNat) = 0 := by rw [← UInt8.toNat_or, h]; rfl
    have h1 : a.toNat = 0 := by have := @Nat.left_le_or a.toNat b.toNat; omega
    have h2 : b.toNat = 0 := by have := @Nat.right_le_or a.toNat b.toNat; omega
    exact ⟨UInt8.toNat_inj.1 (by simpa using h1), UInt8.toNat_inj.1 (by simpa using h2)⟩
  · rintro ⟨rfl, rfl⟩; rfl

theorem fold_or (xs : List UInt8) : ∀ a : UInt8, (xs.foldl (· ||| ·) a == 0) = (a == 0 && xs.all (· == 0)) := by
  induction xs with
  | nil => intro a; simp
  | cons x xs ih => intro a; simp only [List.foldl_cons, ih, or_zero, List.all_cons, Bool.and_assoc]

theorem fold_or_zero (xs : List UInt8) : (((xs.foldl (· ||| ·) 0).toNat : Int) == 0) = xs.all (· == 0) := by
  have h := fold_or xs 0
  simp only [beq_self_eq_true, Bool.true_and] at h
  rw [← h, Bool.eq_iff_iff]
  simp only [beq_iff_eq]
  constructor
  · intro e; exact UInt8.toNat_inj.1 (by simpa using e)
  · intro e; rw [e]; rfl

theorem take_snoc {α : Type} (xs : List α) (k : Nat) (h : k < xs.length) : xs.take (k + 1) = xs.take k ++ [xs[k]] := by
  rw [List.take_succ_eq_append_getElem h]

theorem u8_ne {a b : UInt8} (h : ((a.toNat : Int) != (b.toNat : Int)) = true) : a ≠ b := by
  rintro rfl; simp at h
theorem u8_eq {a b : UInt8} (h : ((a.toNat : Int) != (b.toNat : Int)) = false) : a = b := by
  have : (a.toNat : Int) = b.toNat := by simpa [bne] using h
  exact UInt8.toNat_inj.1 (by omega)

/-- Two rows that agree up to k and part at k. -/
theorem beq_part {α : Type} [BEq α] [LawfulBEq α] (xs ys : List α) (k : Nat) (hx : k < xs.length) (hy : k < ys.length) (h : xs[k] ≠ ys[k]) : (xs == ys) = false := by
  rw [beq_eq_false_iff_ne]
  rintro rfl
  exact h rfl
theorem beq_len {α : Type} [BEq α] [LawfulBEq α] (xs ys : List α) (h : xs.length ≠ ys.length) : (xs == ys) = false := by
  rw [beq_eq_false_iff_ne]
  rintro rfl
  exact h rfl
theorem take_eq_snoc {α : Type} (xs ys : List α) (k : Nat) (hx : k < xs.length) (hy : k < ys.length) (h : xs.take k = ys.take k) (e : xs[k] = ys[k]) : xs.take (k + 1) = ys.take (k + 1) := by
  rw [take_snoc xs k hx, take_snoc ys k hy, h, e]
theorem beq_all {α : Type} [BEq α] [LawfulBEq α] (xs ys : List α) (k : Nat) (hl : xs.length = ys.length) (hk : xs.length ≤ k) (h : xs.take k = ys.take k) : (xs == ys) = true := by
  rw [beq_iff_eq]
  rwa [List.take_of_length_le hk, List.take_of_length_le (by omega)] at h

/-- A number's lowest n bytes, the highest first. -/
def be (x : Nat) : Nat → List UInt8
  | 0 => []
  | n + 1 => be (x / 256) n ++ [UInt8.ofNat x]

theorem be_len (n : Nat) : ∀ x, (be x n).length = n := by
  induction n with
  | zero => intro x; rfl
  | succ n ih => intro x; simp [be, ih]

theorem be_step (x m n : Nat) (h : m < n) : be (x / 256 ^ (m + 1)) (n - (m + 1)) ++ [UInt8.ofNat (x / 256 ^ m)] = be (x / 256 ^ m) (n - m) := by
  have e : n - m = (n - (m + 1)) + 1 := by omega
  rw [e, be, Nat.div_div_eq_div_mul, ← Nat.pow_succ]

theorem byte_shr (x m : Nat) : (x : Int) / 2 ^ (8 * m) % 256 = ((UInt8.ofNat (x / 256 ^ m)).toNat : Int) := by
  have e : (2 : Nat) ^ (8 * m) = 256 ^ m := by rw [Nat.pow_mul]
  have h : (x : Int) / 2 ^ (8 * m) % 256 = ((x / 2 ^ (8 * m) % 256 : Nat) : Int) := by simp
  rw [h, e]
  simp

theorem be_head (n : Nat) : ∀ x, be x (n + 1) = UInt8.ofNat (x / 256 ^ n) :: be x n := by
  induction n with
  | zero => intro x; simp [be]
  | succ n ih => intro x; rw [be, ih, be, Nat.div_div_eq_div_mul, Nat.pow_succ']; rfl

theorem byte_rem (x : Nat) : (x : Int) % 256 = ((UInt8.ofNat x).toNat : Int) := by simp

/-- The number of bytes. -/
def num (xs : List UInt8) : Nat := xs.foldl (fun a c => a * 256 + c.toNat) 0

theorem num_snoc (xs : List UInt8) (c : UInt8) : num (xs ++ [c]) = num xs * 256 + c.toNat := by simp [num]

theorem num_lt (xs : List UInt8) : num xs < 256 ^ xs.length := by
  suffices h : ∀ (ys : List UInt8) (a k : Nat), a < 256 ^ k → ys.foldl (fun a c => a * 256 + c.toNat) a < 256 ^ (k + ys.length) from by simpa [num] using h xs 0 0 (by simp)
  intro ys
  induction ys with
  | nil => intro a k h; simpa using h
  | cons y ys ih =>
    intro a k h
    have hy := y.toNat_lt
    have h2 := ih (a * 256 + y.toNat) (k + 1) (by rw [Nat.pow_succ]; simp only [Nat.reducePow] at hy; omega)
    simpa [Nat.add_assoc, Nat.add_comm 1] using h2

theorem num_be (n : Nat) : ∀ x, num (be x n) = x % 256 ^ n := by
  induction n with
  | zero => intro x; simp [be, num, Nat.mod_one]
  | succ n ih =>
    intro x
    rw [be, num_snoc, ih]
    have h : (UInt8.ofNat x).toNat = x % 256 := by simp
    rw [h, Nat.pow_succ', Nat.mod_mul]
    omega

theorem or_u64 (q : Nat) (c : UInt8) (hq : q < 72057594037927936) : bits .or .u64 ((q : Int) * 256) (c.toNat : Int) = ((q * 256 + c.toNat : Nat) : Int) := by
  have hc := c.toNat_lt
  simp only [Nat.reducePow] at hc
  have e : ((q : Int) * 256) = ((q * 256 : Nat) : Int) := by simp
  rw [e, (bits_nat .u64 64 (by decide) (fun n h0 h1 => by rw [IntKind.wrap_u64]; omega) (q * 256) c.toNat (by simp only [Nat.reducePow]; omega) (by simp only [Nat.reducePow]; omega)).2]
  have h := Nat.two_pow_add_eq_or_of_lt (i := 8) (b := c.toNat) (by simpa using hc) q
  rw [show q * 256 = 2 ^ 8 * q from by omega, ← h]

theorem less_be (n : Nat) : ∀ x y, Op.bytesLess (be x n) (be y n) = decide (x % 256 ^ n < y % 256 ^ n) := by
  induction n with
  | zero => intro x y; simp [be, Op.bytesLess, Nat.mod_one]
  | succ n ih =>
    intro x y
    rw [be_head, be_head, Op.bytesLess, ih]
    have hp : 0 < 256 ^ n := Nat.pow_pos (by decide)
    have ex : x % 256 ^ (n + 1) = 256 ^ n * (x / 256 ^ n % 256) + x % 256 ^ n := by rw [Nat.pow_succ, Nat.mod_mul]; omega
    have ey : y % 256 ^ (n + 1) = 256 ^ n * (y / 256 ^ n % 256) + y % 256 ^ n := by rw [Nat.pow_succ, Nat.mod_mul]; omega
    rw [ex, ey]
    have h1 : (UInt8.ofNat (x / 256 ^ n) < UInt8.ofNat (y / 256 ^ n)) = (x / 256 ^ n % 256 < y / 256 ^ n % 256) := by
      rw [UInt8.lt_iff_toNat_lt]; simp
    have h2 : (UInt8.ofNat (x / 256 ^ n) == UInt8.ofNat (y / 256 ^ n)) = decide (x / 256 ^ n % 256 = y / 256 ^ n % 256) := by
      rw [Bool.eq_iff_iff, beq_iff_eq, decide_eq_true_iff, ← UInt8.toNat_inj]; simp
    have ha := Nat.mod_lt x hp
    have hb := Nat.mod_lt y hp
    rw [h2]
    simp only [h1]
    generalize x / 256 ^ n % 256 = a
    generalize y / 256 ^ n % 256 = b
    generalize x % 256 ^ n = c at *
    generalize y % 256 ^ n = d at *
    generalize 256 ^ n = p at *
    rw [Bool.eq_iff_iff]
    simp only [Bool.or_eq_true, Bool.and_eq_true, decide_eq_true_iff]
    constructor
    · rintro (h | ⟨rfl, h⟩)
      · have : p * (a + 1) ≤ p * b := Nat.mul_le_mul_left _ h
        rw [Nat.mul_succ] at this
        omega
      · omega
    · intro h
      by_cases hab : a < b
      · exact .inl hab
      · by_cases e : a = b
        · subst e; exact .inr ⟨rfl, by omega⟩
        · have : p * (b + 1) ≤ p * a := Nat.mul_le_mul_left _ (by omega)
          rw [Nat.mul_succ] at this
          omega

end Go.Proofs.Ytjgobljclodpfaa.L
