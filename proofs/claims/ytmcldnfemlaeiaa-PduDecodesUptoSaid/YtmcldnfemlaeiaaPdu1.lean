/- Layer 11's walks: pdu.fields, has, the closure of Check, Check. No condition beyond sizes. -/
import Derived.Test.YtmcldnfemlaeiaaRef1
import Derived.Test.YtmcldnfemlaeiaaPduL
import Derived.Laws.BitsAllLaws
namespace Go.Proofs.Ytmcldnfemlaeiaa
open Go.RowKit K L
set_option linter.unusedVariables false
set_option linter.unusedSimpArgs false

set_option maxHeartbeats 1000000 in
theorem fields_any (k : Int) (w : World) : Calls Try.prog 20 #[.int .i64 k] w fun e w' => e = .returned (.int .i64 (fbits k)) ∧ w = w' := by
  by_cases h1 : k = 1
  · subst h1; go_enter Try.func20, Try.ntmps20; go_wp2; go_ret; exact ⟨rfl, rfl⟩
  by_cases h2 : k = 2
  · subst h2; go_enter Try.func20, Try.ntmps20; go_wp2; go_ret; exact ⟨rfl, rfl⟩
  by_cases h3 : k = 3
  · subst h3; go_enter Try.func20, Try.ntmps20; go_wp2; go_ret; exact ⟨rfl, rfl⟩
  by_cases h4 : k = 4
  · subst h4; go_enter Try.func20, Try.ntmps20; go_wp2; go_ret; exact ⟨rfl, rfl⟩
  by_cases h5 : k = 5
  · subst h5; go_enter Try.func20, Try.ntmps20; go_wp2; go_ret; exact ⟨rfl, rfl⟩
  by_cases h6 : k = 6
  · subst h6; go_enter Try.func20, Try.ntmps20; go_wp2; go_ret; exact ⟨rfl, rfl⟩
  by_cases h7 : k = 7
  · subst h7; go_enter Try.func20, Try.ntmps20; go_wp2; go_ret; exact ⟨rfl, rfl⟩
  by_cases h8 : k = 8
  · subst h8; go_enter Try.func20, Try.ntmps20; go_wp2; go_ret; exact ⟨rfl, rfl⟩
  have e : fbits k = 0 := by simp [fbits, h1, h2, h3, h4, h5, h6, h7, h8]
  rw [e]
  have b1 : (k == 1) = false := by simpa using h1
  have b2 : (k == 2) = false := by simpa using h2
  have b3 : (k == 3) = false := by simpa using h3
  have b4 : (k == 4) = false := by simpa using h4
  have b5 : (k == 5) = false := by simpa using h5
  have b6 : (k == 6) = false := by simpa using h6
  have b7 : (k == 7) = false := by simpa using h7
  have b8 : (k == 8) = false := by simpa using h8
  clear h1 h2 h3 h4 h5 h6 h7 h8 e
  go_enter Try.func20, Try.ntmps20
  go_wp2
  go_ret
  exact ⟨rfl, rfl⟩

/-- Does a field count? -/
def fhas (f g : Nat) : Bool := (f &&& g) != 0

theorem bne_cast (n : Nat) : (((n : Nat) : Int) != 0) = (n != 0) := by
  rw [Bool.eq_iff_iff]; simp

theorem has_any (f g : Nat) (hf : f < 64) (hg : g < 64) (w : World) : Calls Try.prog 22 #[.int .i64 f, .int .i64 g] w fun e w' => e = .returned (.bool (fhas f g)) ∧ w = w' := by
  have hb := (bits_nat .i64 6 (by decide) (fun n h0 h1 => by rw [IntKind.wrap_i64]; omega) f g hf hg).1
  go_enter Try.func22, Try.ntmps22
  go_wp2
  go_ret
  exact ⟨ret_bool (bne_cast _), rfl⟩

/-- The closure of Check: a field counts, or is nought. -/
theorem plain_any (f g : Nat) (zero b : Bool) (hf : f < 64) (hg : g < 64) (p q : Nat) (hpq : p ≠ q) (w : World) (c1 : w.cell? ⟨p, 0, none⟩ = some (.bool b)) (f1 : w.frozen? ⟨p, 0, none⟩ = false) (c2 : w.cell? ⟨q, 0, none⟩ = some (.int .i64 f)) :
    Calls Try.prog 26 #[.int .i64 g, .bool zero, .pointer (some ⟨p, 0, none⟩), .pointer (some ⟨q, 0, none⟩)] w fun e w' => e = .returned (.tuple #[]) ∧ w' = w.setCell ⟨p, 0, none⟩ (.bool (b && (fhas f g || zero))) := by
  have hh := has_any f g hf hg
  generalize fhas f g = h at hh ⊢
  have HH := Lib.hid hh
  clear hh
  cases b with
  | false =>
    go_enter Try.func26, Try.ntmps26
    go_wp2
    go_end0
    exact ⟨rfl, rfl⟩
  | true =>
    cases h with
    | true =>
      go_enter Try.func26, Try.ntmps26
      go_wp2_with (go_at_call 22; refine (HH.out _).mono ?_; rintro e w1 ⟨rfl, rfl⟩)
      go_end0
      exact ⟨rfl, rfl⟩
    | false =>
      go_enter Try.func26, Try.ntmps26
      go_wp2_with (go_at_call 22; refine (HH.out _).mono ?_; rintro e w1 ⟨rfl, rfl⟩)
      go_end0
      exact ⟨rfl, rfl⟩

/-- .. by blocks. -/
theorem plain_heap (f g : Nat) (zero b : Bool) (hf : f < 64) (hg : g < 64) (p q : Nat) (hpq : p ≠ q) (tp tq : TypeId) (w : World) (c1 : w.heap[p]? = some (.cells #[.bool b] tp (0, 0))) (c2 : w.heap[q]? = some (.cells #[.int .i64 f] tq (0, 0))) :
    Calls Try.prog 26 #[.int .i64 g, .bool zero, .pointer (some ⟨p, 0, none⟩), .pointer (some ⟨q, 0, none⟩)] w fun e w' => e = .returned (.tuple #[]) ∧ w'.heap[p]? = some (.cells #[.bool (b && (fhas f g || zero))] tp (0, 0)) ∧ w.grownBy w' (some p) := by
  refine (plain_any f g zero b hf hg p q hpq w ?_ (frozen_of c1 0) ?_).mono ?_
  · have := cell_of c1 0; simpa using this
  · have := cell_of c2 0; simpa using this
  · rintro e w' ⟨rfl, rfl⟩
    refine ⟨rfl, ?_, ⟨rfl, rfl, rfl, by simp, fun k _ hk => heap_setCell_other w ⟨p, 0, none⟩ k _ (fun e => hk (by simp [e]))⟩⟩
    have := heap_setCell_same w p 0 _ _ (.bool (b && (fhas f g || zero))) c1
    simpa using this

theorem sc1 {w : World} {a : Addr} {v : Value} (h : w.cell? a = some v) (u : Value) : (w.setCell a u).cell? a = some u := World.cell?_setCell_same' _ _ _ (by rw [h]; rfl)

theorem fields_is (k f : Int) (h : fbits k = f) (w : World) : Calls Try.prog 20 #[.int .i64 k] w fun e w' => e = .returned (.int .i64 f) ∧ w = w' := by
  subst h; exact fields_any k w

theorem three (w : World) (o1 o2 o3 : Obj) : (((w.alloc o1).alloc o2).alloc o3).heap[w.heap.size]? = some o1 ∧ (((w.alloc o1).alloc o2).alloc o3).heap[w.heap.size + 1]? = some o2 ∧
    (((w.alloc o1).alloc o2).alloc o3).heap[w.heap.size + 1 + 1]? = some o3 ∧ Below w.heap.size w (((w.alloc o1).alloc o2).alloc o3) := by
  refine ⟨heap_al (heap_al (heap_alloc_new _ _) _) _, heap_al ?_ _, ?_, below_al (below_al (below_al (Below.refl _ _) _) _) _⟩
  · have := heap_alloc_new (w.alloc o1) o2; rwa [World.size_alloc] at this
  · have := heap_alloc_new ((w.alloc o1).alloc o2) o3; rwa [World.size_alloc, World.size_alloc] at this

theorem isEmpty_len (l : List UInt8) : (l.isEmpty = true) = (l.length = 0) := by cases l <;> simp

/-- A message's cells. -/
def Msg.cells (m : Msg) (vb : Value) : List Value :=
  [.int .i64 m.kind, .int .u32 (m.number : Nat), .string ⟨m.name.toArray⟩, .int .i64 m.size, .int .i64 m.off, .int .u32 (m.sum : Nat), .int .i64 m.code, vb]

end Go.Proofs.Ytmcldnfemlaeiaa
