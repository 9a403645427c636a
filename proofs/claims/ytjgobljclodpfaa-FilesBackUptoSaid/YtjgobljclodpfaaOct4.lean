/- The reader's numbers, what is left, its error; octet.Read; octet.Put16, 32, 64; octet.Equal. No condition beyond sizes. -/
import Derived.Test.YtjgobljclodpfaaOct3
namespace Go.Proofs.Ytjgobljclodpfaa
open Go.RowKit K L
set_option linter.unusedVariables false

set_option maxHeartbeats 400000 in
theorem u8_any (b : Nat) (r : Rs) (w : World) (h : IsR w b r) :
    Calls Try.prog 59 #[.pointer (some ⟨b, 0, none⟩)] w fun e w' => e = .returned (.int .u8 (num (r.take 1).2 : Nat)) ∧ IsR w' b (r.take 1).1 ∧ w.grownBy w' (some b) := by
  have hnum : num (r.take 1).2 < 256 := Rs.num_lt r 1
  go_enter Try.func59, Try.ntmps59
  go_wp2_with fail
  refine (number_any b r 1 w h (by decide)).mono ?_
  rintro e w1 ⟨rfl, hR, hg⟩
  go_wp2
  go_ret
  exact ⟨ret_int (by first | rfl | omega), hR, hg⟩

theorem u8_nil (w : World) : Calls Try.prog 59 #[.pointer none] w fun e w' => e = .returned (.int .u8 0) ∧ w = w' := by
  go_enter Try.func59, Try.ntmps59
  go_wp2_with (go_at_call 68; refine (number_nil _ _).mono ?_; rintro e w1 ⟨rfl, rfl⟩)
  go_ret
  exact ⟨rfl, rfl⟩

set_option maxHeartbeats 400000 in
theorem u16_any (b : Nat) (r : Rs) (w : World) (h : IsR w b r) :
    Calls Try.prog 52 #[.pointer (some ⟨b, 0, none⟩)] w fun e w' => e = .returned (.int .u16 (num (r.take 2).2 : Nat)) ∧ IsR w' b (r.take 2).1 ∧ w.grownBy w' (some b) := by
  have hnum : num (r.take 2).2 < 65536 := Rs.num_lt r 2
  go_enter Try.func52, Try.ntmps52
  go_wp2_with fail
  refine (number_any b r 2 w h (by decide)).mono ?_
  rintro e w1 ⟨rfl, hR, hg⟩
  go_wp2
  go_ret
  exact ⟨ret_int (by first | rfl | omega), hR, hg⟩

theorem u16_nil (w : World) : Calls Try.prog 52 #[.pointer none] w fun e w' => e = .returned (.int .u16 0) ∧ w = w' := by
  go_enter Try.func52, Try.ntmps52
  go_wp2_with (go_at_call 68; refine (number_nil _ _).mono ?_; rintro e w1 ⟨rfl, rfl⟩)
  go_ret
  exact ⟨rfl, rfl⟩

theorem left_any (b : Nat) (r : Rs) (w : World) (h : IsR w b r) :
    Calls Try.prog 56 #[.pointer (some ⟨b, 0, none⟩)] w fun e w' => e = .returned (.int .i64 (r.xs.length - r.pos)) ∧ ∃ n, w' = w.drewN n := by
  obtain ⟨h1, h2, h3, v, h4, h5⟩ := h
  have c0 := cell_of h4 0
  have c1 := cell_of h4 1
  simp at c0 c1
  obtain ⟨A, c, rfl, l1, l2, -, -⟩ := h5.open_
  clear h4 h5
  go_enter Try.func56, Try.ntmps56
  go_wp2
  go_quiet (fail)
  go_wp2
  go_ret
  exact ⟨rfl, _, rfl⟩

theorem left_nil (w : World) : Calls Try.prog 56 #[.pointer none] w fun e w' => e = .returned (.int .i64 0) ∧ w = w' := by
  go_enter Try.func56, Try.ntmps56
  go_wp2
  go_ret
  exact ⟨rfl, rfl⟩

theorem err_any (b : Nat) (r : Rs) (w : World) (h : IsR w b r) :
    Calls Try.prog 53 #[.pointer (some ⟨b, 0, none⟩)] w fun e w' => e = .returned (.int .i64 r.err) ∧ w = w' := by
  obtain ⟨h1, h2, h3, v, h4, h5⟩ := h
  have c2 := cell_of h4 2
  simp at c2
  clear h4 h5
  go_enter Try.func53, Try.ntmps53
  go_wp2
  go_ret
  exact ⟨rfl, rfl⟩

theorem err_nil (w : World) : Calls Try.prog 53 #[.pointer none] w fun e w' => e = .returned (.int .i64 1) ∧ w = w' := by
  go_enter Try.func53, Try.ntmps53
  go_wp2
  go_ret
  exact ⟨rfl, rfl⟩

set_option maxHeartbeats 400000 in
theorem read_any (v : Value) (xs : List UInt8) (w : World) (F : Nat → Prop) (h : Bs w F v xs) (hb : xs.length ≤ 1000000000) :
    Calls Try.prog 51 #[v] w fun e w' => ∃ b, e = .returned (.pointer (some ⟨b, 0, none⟩)) ∧ w.heap.size ≤ b ∧ IsR w' b ⟨xs, 0, 0⟩ ∧ Below w.heap.size w w' := by
  go_enter Try.func51, Try.ntmps51
  go_wp2_with fail
  refine (clone_any v xs w F h (by omega)).mono ?_
  rintro e w1 ⟨v1, rfl, ho, hB⟩
  have hbs := ho.bs
  obtain ⟨A, c, rfl, l1, l2, -, -⟩ := hbs.open_
  go_wp2
  go_ret
  refine ⟨w1.heap.size, rfl, hB.size, ⟨Nat.zero_le _, hb, by simp, .slice A xs.length c, ?_, ?_⟩, hB.alloc hB.size _⟩
  · exact heap_alloc_new _ _
  · exact hbs.lt.below ((Below.refl _ _).alloc (Nat.le_refl _) _)

/-- A reader of whose bytes one knows where they lie: from block lo on, below b. -/
def IsRL (w : World) (lo b : Nat) (r : Rs) : Prop :=
  r.pos ≤ r.xs.length ∧ r.xs.length ≤ 1000000000 ∧ (0 ≤ r.err ∧ r.err ≤ 1000) ∧ ∃ v, w.heap[b]? = some (.cells #[v, .int .i64 (r.pos : Nat), .int .i64 r.err] 99 (0, 0)) ∧ Bs w (fun q => lo ≤ q ∧ q < b) v r.xs
theorem IsRL.isR {w : World} {lo b : Nat} {r : Rs} (h : IsRL w lo b r) : IsR w b r := by
  obtain ⟨h1, h2, h3, v, h4, h5⟩ := h
  exact ⟨h1, h2, h3, v, h4, h5.imp fun _ _ h => h.2⟩
theorem IsRL.keep {w w' : World} {lo b : Nat} {r : Rs} (h : IsRL w lo b r) (hlo : lo ≤ b) (hb : ∀ k, lo ≤ k → k ≤ b → w'.heap[k]? = w.heap[k]?) : IsRL w' lo b r := by
  obtain ⟨h1, h2, h3, v, h4, h5⟩ := h
  exact ⟨h1, h2, h3, v, (hb b hlo (Nat.le_refl _)).trans h4, Sl.keep h5 (by omega) fun k _ hk => hb k hk.1 (Nat.le_of_lt hk.2)⟩
set_option maxHeartbeats 400000 in
theorem read_lo (v : Value) (xs : List UInt8) (w : World) (F : Nat → Prop) (h : Bs w F v xs) (hb : xs.length ≤ 1000000000) :
    Calls Try.prog 51 #[v] w fun e w' => ∃ b, e = .returned (.pointer (some ⟨b, 0, none⟩)) ∧ w.heap.size ≤ b ∧ IsRL w' w.heap.size b ⟨xs, 0, 0⟩ ∧ Below w.heap.size w w' := by
  go_enter Try.func51, Try.ntmps51
  go_wp2_with fail
  refine (clone_any v xs w F h (by omega)).mono ?_
  rintro e w1 ⟨v1, rfl, ho, hB⟩
  have hbs := ho.bs
  obtain ⟨A, c, rfl, l1, l2, -, -⟩ := hbs.open_
  go_wp2
  go_ret
  refine ⟨w1.heap.size, rfl, hB.size, ⟨Nat.zero_le _, hb, by simp, .slice A xs.length c, ?_, ?_⟩, hB.alloc hB.size _⟩
  · exact heap_alloc_new _ _
  · exact (hbs.imp fun b hlt hbb => And.intro hbb hlt).below ((Below.refl _ _).alloc (Nat.le_refl _) _)

theorem eq_any (v1 v2 : Value) (xs ys : List UInt8) (w : World) (F G : Nat → Prop) (h : Bs w F v1 xs) (g : Bs w G v2 ys) :
    Calls Try.prog 19 #[v1, v2] w fun e w' => e = .returned (.bool (xs == ys)) ∧ ∃ n, w' = w.drewN n := by
  go_enter Try.func19, Try.ntmps19
  go_wp2_with fail
  refine (equal_any v1 v2 xs ys w F G h g).mono ?_
  rintro e w1 ⟨rfl, n, rfl⟩
  go_wp2
  go_ret
  exact ⟨rfl, n, rfl⟩

theorem put16_any (v : Value) (xs : List UInt8) (x : Nat) (w : World) (F : Nat → Prop) (h : Bs w F v xs) (hb : xs.length ≤ 1000000000) (hx : x < 65536) :
    Calls Try.prog 44 #[v, .int .u16 x] w fun e w' => ∃ v', e = .returned v' ∧ Ob w' w.heap.size 5 v' (xs ++ be x 2) ∧ Below w.heap.size w w' := by
  go_enter Try.func44, Try.ntmps44
  go_wp2_with fail
  refine (put_any v xs x 2 w F h hb (by decide) (by omega)).mono ?_
  rintro e w1 ⟨v1, rfl, ho, hB⟩
  go_wp2
  go_ret
  exact ⟨_, rfl, ho, hB⟩

end Go.Proofs.Ytjgobljclodpfaa
