/- Layer 2's walks: a disk in memory; power, ready, length, arm, fail. No condition beyond sizes. -/
import Derived.Test.YthjlmkmijehnjaaEl
import Derived.Test.YthjlmkmijehnjaaDkL
import Derived.Test.YthjlmkmijehnjaaProg
import Derived.WalkLawsBesides
import Derived.BigQuiet
import Derived.Shelf.RegionOpen
import Derived.Deep.QuietTactic
import Derived.Deep.MidRow
import Derived.Deep.WholeRow
namespace Go.Proofs.Ythjlmkmijehnjaa
open Go.RowKit Go.Shelf K L
set_option linter.unusedVariables false
set_option linter.unusedSimpArgs false

/-- A disk's head. -/
def Hd (w : World) (b : Nat) (vs vp : Value) (d : PD) : Prop :=
  w.heap[b]? = some (.cells #[vs, vp, .bool d.dead, .bool d.armed, .int .i64 d.left, .int .i64 d.fails, .int .i64 (d.ops : Nat)] 69 (0, 0))
theorem Hd.dead {w : World} {b : Nat} {vs vp : Value} {d : PD} (h : Hd w b vs vp d) (x : Bool) : Hd (w.setCell ⟨b, 2, none⟩ (.bool x)) b vs vp { d with dead := x } := heap_setCell_same w b 2 _ _ _ h
theorem Hd.armed {w : World} {b : Nat} {vs vp : Value} {d : PD} (h : Hd w b vs vp d) (x : Bool) : Hd (w.setCell ⟨b, 3, none⟩ (.bool x)) b vs vp { d with armed := x } := heap_setCell_same w b 3 _ _ _ h
theorem Hd.left {w : World} {b : Nat} {vs vp : Value} {d : PD} (h : Hd w b vs vp d) (x : Int) : Hd (w.setCell ⟨b, 4, none⟩ (.int .i64 x)) b vs vp { d with left := x } := heap_setCell_same w b 4 _ _ _ h
theorem Hd.fails {w : World} {b : Nat} {vs vp : Value} {d : PD} (h : Hd w b vs vp d) (x : Int) : Hd (w.setCell ⟨b, 5, none⟩ (.int .i64 x)) b vs vp { d with fails := x } := heap_setCell_same w b 5 _ _ _ h
theorem Hd.ops {w : World} {b : Nat} {vs vp : Value} {d : PD} (h : Hd w b vs vp d) (x : Nat) : Hd (w.setCell ⟨b, 6, none⟩ (.int .i64 (x : Nat))) b vs vp { d with ops := x } := heap_setCell_same w b 6 _ _ _ h
theorem Hd.pend {w : World} {b : Nat} {vs vp : Value} {d : PD} (h : Hd w b vs vp d) (v : Value) : Hd (w.setCell ⟨b, 1, none⟩ v) b vs v d := heap_setCell_same w b 1 _ _ _ h
theorem Hd.any {w : World} {b : Nat} {vs vp : Value} {d d' : PD} (h : Hd w b vs vp d) (h1 : d'.dead = d.dead) (h2 : d'.armed = d.armed) (h3 : d'.left = d.left) (h4 : d'.fails = d.fails) (h5 : d'.ops = d.ops) : Hd w b vs vp d' := by
  unfold Hd at *; rw [h1, h2, h3, h4, h5]; exact h
theorem Hd.lt {w : World} {b : Nat} {vs vp : Value} {d : PD} (h : Hd w b vs vp d) : b < w.heap.size := (Array.getElem?_eq_some_iff.1 h).1
/-- All cells of a head. -/
theorem Hd.cells {w : World} {b : Nat} {vs vp : Value} {d : PD} (h : Hd w b vs vp d) :
    w.cell? ⟨b, 0, none⟩ = some vs ∧ w.cell? ⟨b, 1, none⟩ = some vp ∧ w.cell? ⟨b, 2, none⟩ = some (.bool d.dead) ∧ w.cell? ⟨b, 3, none⟩ = some (.bool d.armed) ∧ w.cell? ⟨b, 4, none⟩ = some (.int .i64 d.left) ∧ w.cell? ⟨b, 5, none⟩ = some (.int .i64 d.fails) ∧ w.cell? ⟨b, 6, none⟩ = some (.int .i64 (d.ops : Nat)) := by
  refine ⟨?_, ?_, ?_, ?_, ?_, ?_, ?_⟩ <;> exact cell_of_row w b _ _ _ _ h
theorem Hd.frozen {w : World} {b : Nat} {vs vp : Value} {d : PD} (h : Hd w b vs vp d) (j : Nat) : w.frozen? ⟨b, j, none⟩ = false := frozen_of_row w b j _ _ h

/-- A pending write's cells. -/
def wcells (p : Nat × Blk) : List Value := .int .i64 (p.1 : Nat) :: bvs p.2

/-- Slices vs, vp of a disk whose head is block b; its memory lies in S. -/
structure Dk (w : World) (S : Nat → Prop) (b : Nat) (vs vp : Value) (d : PD) : Prop where
  hd : Hd w b vs vp d
  safe : w.ownsRow 0 27 64 vs d.safe.length (d.safe.flatMap bvs)
  pend : w.ownsRow 0 80 65 vp d.pend.length (d.pend.flatMap wcells)
  lt : ∀ x, S x → x < w.heap.size
  sb : S b
  ss : ∀ g, vs.ownBlock = some g → S g ∧ g ≠ b
  sp : ∀ g, vp.ownBlock = some g → S g ∧ g ≠ b ∧ vs.ownBlock ≠ some g
  ok : d.ok
def IsD (w : World) (S : Nat → Prop) (b : Nat) (d : PD) : Prop := ∃ vs vp, Dk w S b vs vp d

theorem Dk.keep {w w' : World} {S T : Nat → Prop} {b : Nat} {vs vp : Value} {d : PD} (h : Dk w S b vs vp d) (hu : Upd T w w') (hT : ∀ x, S x → ¬ T x) : Dk w' S b vs vp d :=
  ⟨hu.heap h.hd (hT _ h.sb), hu.own h.safe fun g hg => hT _ (h.ss g hg).1, hu.own h.pend fun g hg => hT _ (h.sp g hg).1, fun x hx => Nat.lt_of_lt_of_le (h.lt x hx) hu.size, h.sb, h.ss, h.sp, h.ok⟩
theorem IsD.keep {w w' : World} {S T : Nat → Prop} {b : Nat} {d : PD} (h : IsD w S b d) (hu : Upd T w w') (hT : ∀ x, S x → ¬ T x) : IsD w' S b d := by
  obtain ⟨vs, vp, h⟩ := h; exact ⟨vs, vp, h.keep hu hT⟩
theorem Dk.below {w w' : World} {S : Nat → Prop} {b : Nat} {vs vp : Value} {d : PD} (h : Dk w S b vs vp d) (hb : Below w.heap.size w w') : Dk w' S b vs vp d :=
  h.keep (T := fun _ => False) (Upd.of_below hb) fun _ _ h => h
theorem IsD.below {w w' : World} {S : Nat → Prop} {b : Nat} {d : PD} (h : IsD w S b d) (hb : Below w.heap.size w w') : IsD w' S b d :=
  h.keep (T := fun _ => False) (Upd.of_below hb) fun _ _ h => h
theorem Dk.more {w : World} {S T : Nat → Prop} {b : Nat} {vs vp : Value} {d : PD} (h : Dk w S b vs vp d) (hT : ∀ x, S x → T x) (hl : ∀ x, T x → x < w.heap.size) : Dk w T b vs vp d :=
  ⟨h.hd, h.safe, h.pend, hl, hT _ h.sb, fun g hg => ⟨hT _ (h.ss g hg).1, (h.ss g hg).2⟩, fun g hg => ⟨hT _ (h.sp g hg).1, (h.sp g hg).2⟩, h.ok⟩
/-- A cell of the head is written. -/
theorem Dk.head {w : World} {S : Nat → Prop} {b : Nat} {vs vp : Value} {d d' : PD} (h : Dk w S b vs vp d) (i : Nat) (v : Value) (hh : Hd (w.setCell ⟨b, i, none⟩ v) b vs vp d') (h1 : d'.safe = d.safe) (h2 : d'.pend = d.pend) (hok : d'.ok) :
    Dk (w.setCell ⟨b, i, none⟩ v) S b vs vp d' := by
  have hu : Upd (· = b) w (w.setCell ⟨b, i, none⟩ v) := (Upd.refl _ _).setCell _ _ (fun _ => rfl)
  refine ⟨hh, ?_, ?_, fun x hx => by rw [World.size_setCell]; exact h.lt x hx, h.sb, h.ss, h.sp, hok⟩
  · rw [h1]; exact hu.own h.safe fun g hg => (h.ss g hg).2
  · rw [h2]; exact hu.own h.pend fun g hg => (h.sp g hg).2.1
theorem upd_head {w : World} {S : Nat → Prop} {b : Nat} (hb : S b) (i : Nat) (v : Value) : Upd S w (w.setCell ⟨b, i, none⟩ v) := (Upd.refl _ _).setCell _ _ (fun _ => hb)

theorem power_nil (w : World) : Calls Try.prog 44 #[.pointer none] w fun e w' => e = .returned (.int .i64 1) ∧ w = w' := by
  go_enter Try.func44, Try.ntmps44
  go_wp2
  go_ret
  exact ⟨rfl, rfl⟩
theorem power_dead {w : World} {b : Nat} {vs vp : Value} {d : PD} (h : Hd w b vs vp d) (hd : d.dead = true) : Calls Try.prog 44 #[.pointer (some ⟨b, 0, none⟩)] w fun e w' => e = .returned (.int .i64 9) ∧ w = w' := by
  obtain ⟨-, -, c2, -, -, -, -⟩ := h.cells
  rw [hd] at c2
  clear h
  go_enter Try.func44, Try.ntmps44
  go_wp2
  go_ret
  exact ⟨rfl, rfl⟩
theorem power_ok {w : World} {b : Nat} {vs vp : Value} {d : PD} (h : Hd w b vs vp d) (hd : d.dead = false) : Calls Try.prog 44 #[.pointer (some ⟨b, 0, none⟩)] w fun e w' => e = .returned (.int .i64 0) ∧ w = w' := by
  obtain ⟨-, -, c2, -, -, -, -⟩ := h.cells
  rw [hd] at c2
  clear h
  go_enter Try.func44, Try.ntmps44
  go_wp2
  go_ret
  exact ⟨rfl, rfl⟩

theorem len_nil (w : World) : Calls Try.prog 21 #[.pointer none] w fun e w' => e = .returned (.int .i64 0) ∧ w = w' := by
  go_enter Try.func21, Try.ntmps21
  go_wp2
  go_ret
  exact ⟨rfl, rfl⟩
theorem own_at_slice {w : World} {base e k n : Nat} {v : Value} {xs : List Value} (h : w.ownsRow base e k v n xs) : ∃ A c, v = .slice A n c := by
  obtain ⟨A, c, e, -⟩ := own_slice h; exact ⟨A, c, e⟩
theorem len_any {w : World} {S : Nat → Prop} {b : Nat} {vs vp : Value} {d : PD} (h : Dk w S b vs vp d) : Calls Try.prog 21 #[.pointer (some ⟨b, 0, none⟩)] w fun e w' => e = .returned (.int .i64 (d.safe.length : Nat)) ∧ w = w' := by
  obtain ⟨c0, -, -, -, -, -, -⟩ := h.hd.cells
  obtain ⟨A, c, rfl⟩ := own_at_slice h.safe
  clear h
  go_enter Try.func21, Try.ntmps21
  go_wp2
  go_ret
  exact ⟨rfl, rfl⟩
theorem dead_nil (w : World) : Calls Try.prog 25 #[.pointer none] w fun e w' => e = .returned (.bool false) ∧ w = w' := by
  go_enter Try.func25, Try.ntmps25
  go_wp2
  go_ret
  exact ⟨rfl, rfl⟩
theorem dead_any {w : World} {b : Nat} {vs vp : Value} {d : PD} (h : Hd w b vs vp d) : Calls Try.prog 25 #[.pointer (some ⟨b, 0, none⟩)] w fun e w' => e = .returned (.bool d.dead) ∧ w = w' := by
  obtain ⟨-, -, c2, -, -, -, -⟩ := h.cells
  clear h
  go_enter Try.func25, Try.ntmps25
  go_wp2
  go_ret
  exact ⟨rfl, rfl⟩
theorem ops_nil (w : World) : Calls Try.prog 31 #[.pointer none] w fun e w' => e = .returned (.int .i64 0) ∧ w = w' := by
  go_enter Try.func31, Try.ntmps31
  go_wp2
  go_ret
  exact ⟨rfl, rfl⟩
theorem ops_any {w : World} {b : Nat} {vs vp : Value} {d : PD} (h : Hd w b vs vp d) : Calls Try.prog 31 #[.pointer (some ⟨b, 0, none⟩)] w fun e w' => e = .returned (.int .i64 (d.ops : Nat)) ∧ w = w' := by
  obtain ⟨-, -, -, -, -, -, c6⟩ := h.cells
  clear h
  go_enter Try.func31, Try.ntmps31
  go_wp2
  go_ret
  exact ⟨rfl, rfl⟩

/-- What an operation on a disk leaves, of its head alone. -/
def Left (w : World) (S : Nat → Prop) (b : Nat) (vs vp : Value) (r : Int × PD) (e : Ending) (w' : World) : Prop :=
  e = .returned (.int .i64 r.1) ∧ Dk w' S b vs vp r.2 ∧ Upd S w w' ∧ w'.heap.size = w.heap.size

theorem PD.ready_1 {d : PD} {i : Int} (hd : d.dead = false) (hi : i < 0 ∨ (d.safe.length : Int) ≤ i) : d.ready i = (2, d) := by unfold PD.ready; rw [if_neg (by rw [hd]; decide), if_pos hi]
theorem PD.ready_2 {d : PD} {i : Int} (hd : d.dead = false) (hi : ¬ (i < 0 ∨ (d.safe.length : Int) ≤ i)) (h : d.fails = 1) : d.ready i = (8, { d with fails := 0 }) := by unfold PD.ready; rw [if_neg (by rw [hd]; decide), if_neg hi, if_pos h]
theorem PD.ready_3 {d : PD} {i : Int} (hd : d.dead = false) (hi : ¬ (i < 0 ∨ (d.safe.length : Int) ≤ i)) (h : ¬ d.fails = 1) (h2 : 1 < d.fails) : d.ready i = (0, { d with fails := d.fails - 1 }) := by unfold PD.ready; rw [if_neg (by rw [hd]; decide), if_neg hi, if_neg h, if_pos h2]
theorem PD.ready_4 {d : PD} {i : Int} (hd : d.dead = false) (hi : ¬ (i < 0 ∨ (d.safe.length : Int) ≤ i)) (h : ¬ d.fails = 1) (h2 : ¬ 1 < d.fails) : d.ready i = (0, d) := by unfold PD.ready; rw [if_neg (by rw [hd]; decide), if_neg hi, if_neg h, if_neg h2]

set_option maxHeartbeats 1000000 in
theorem ready_nil (i : Int) (w : World) : Calls Try.prog 40 #[.pointer none, .int .i64 i] w fun e w' => e = .returned (.int .i64 1) ∧ w = w' := by
  go_enter Try.func40, Try.ntmps40
  go_wp2_with fail
  refine (power_nil w).mono ?_
  rintro e w' ⟨rfl, rfl⟩
  go_wp2
  go_ret
  exact ⟨rfl, rfl⟩
set_option maxHeartbeats 4000000 in
theorem ready_any {w : World} {S : Nat → Prop} {b : Nat} {vs vp : Value} {d : PD} (h : Dk w S b vs vp d) (i : Int) (h1 : -9223372036854775808 ≤ i) (h2 : i ≤ 9223372036854775807) :
    Calls Try.prog 40 #[.pointer (some ⟨b, 0, none⟩), .int .i64 i] w (Left w S b vs vp (d.ready i)) := by
  obtain ⟨c0, -, -, -, -, c5, -⟩ := h.hd.cells
  have f5 := h.hd.frozen 5
  have H := Lib.hid h
  have hfew := h.ok.few
  have g0 := h.ok.f0
  have g1 := h.ok.f1
  obtain ⟨A, c, rfl⟩ := own_at_slice h.safe
  cases hd : d.dead
  case true =>
    have HR := Lib.hid (show d.ready i = (9, d) by unfold PD.ready; rw [if_pos hd])
    clear h
    go_enter Try.func40, Try.ntmps40
    go_wp2_with fail
    refine (power_dead H.out.hd hd).mono ?_
    rintro e w' ⟨rfl, rfl⟩
    clear hd
    go_wp2
    go_ret
    rw [HR.out]
    exact ⟨rfl, H.out, Upd.refl _ _, rfl⟩
  case false =>
  have HP := Lib.hid (power_ok h.hd hd)
  by_cases hi : i < 0 ∨ (d.safe.length : Int) ≤ i
  · have HR := Lib.hid (PD.ready_1 hd hi)
    clear h hd
    rcases hi with hi | hi
    · go_enter Try.func40, Try.ntmps40
      go_wp2_with fail
      refine HP.out.mono ?_
      rintro e w' ⟨rfl, rfl⟩
      go_wp2
      go_ret
      rw [HR.out]
      exact ⟨rfl, H.out, Upd.refl _ _, rfl⟩
    · have h0 : ¬ i < 0 := by omega
      go_enter Try.func40, Try.ntmps40
      go_wp2_with fail
      refine HP.out.mono ?_
      rintro e w' ⟨rfl, rfl⟩
      go_wp2
      go_ret
      rw [HR.out]
      exact ⟨rfl, H.out, Upd.refl _ _, rfl⟩
  · have HI := Lib.hid hi
    have i0 : ¬ i < 0 := by omega
    have i1 : i < d.safe.length := by omega
    clear hi
    by_cases h5 : d.fails = 1
    · have HR := Lib.hid (PD.ready_2 hd HI.out h5)
      have HN := Lib.hid (Dk.head h 5 (.int .i64 0) (Hd.fails h.hd 0) rfl rfl (by have := PD.ok_ready h.ok i; rw [HR.out] at this; exact this))
      have HU := Lib.hid (upd_head (w := w) h.sb 5 (.int .i64 0))
      rw [h5] at c5
      clear h hd h5
      go_enter Try.func40, Try.ntmps40
      go_wp2_with fail
      refine HP.out.mono ?_
      rintro e w' ⟨rfl, rfl⟩
      go_wp2
      go_ret
      rw [HR.out]
      exact ⟨rfl, HN.out, HU.out, World.size_setCell _ _ _⟩
    · by_cases h6 : 1 < d.fails
      · have HR := Lib.hid (PD.ready_3 hd HI.out h5 h6)
        have HN := Lib.hid (Dk.head h 5 (.int .i64 (d.fails - 1)) (Hd.fails h.hd _) rfl rfl (by have := PD.ok_ready h.ok i; rw [HR.out] at this; exact this))
        have HU := Lib.hid (upd_head (w := w) h.sb 5 (.int .i64 (d.fails - 1)))
        have hd5 : (d.fails == 1) = false := by simpa using h5
        clear h hd h5
        go_enter Try.func40, Try.ntmps40
        go_wp2_with fail
        refine HP.out.mono ?_
        rintro e w' ⟨rfl, rfl⟩
        go_wp2
        go_ret
        rw [HR.out]
        exact ⟨rfl, HN.out, HU.out, World.size_setCell _ _ _⟩
      · have HR := Lib.hid (PD.ready_4 hd HI.out h5 h6)
        have hd5 : (d.fails == 1) = false := by simpa using h5
        clear h hd h5
        go_enter Try.func40, Try.ntmps40
        go_wp2_with fail
        refine HP.out.mono ?_
        rintro e w' ⟨rfl, rfl⟩
        go_wp2
        go_ret
        rw [HR.out]
        exact ⟨rfl, H.out, Upd.refl _ _, rfl⟩

end Go.Proofs.Ythjlmkmijehnjaa
