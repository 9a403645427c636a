/- Layer 2's laws: DiskFails' walk. No condition beyond sizes. -/
import Derived.Test.YthjlmkmijehnjaaDl6
import Derived.Test.YthjlmkmijehnjaaDp2
namespace Go.Proofs.Ythjlmkmijehnjaa
open Go.RowKit Go.Shelf K L
set_option linter.unusedVariables false
set_option linter.unusedSimpArgs false

theorem Ds.nil (w : World) : Ds w (fun _ => False) (.slice none 0 0) [] := ⟨⟨rfl, none, 0, rfl, Nat.le_refl _, by decide, fun _ => rfl, fun h => by cases h⟩, fun e he => by cases he⟩
theorem worn_nil : worn (((([] : List DE).take 120)).map (·.1)) = PD.new 6 := rfl
theorem fail_isd {w : World} {S : Nat → Prop} {b : Nat} {d : PD} (h : IsD w S b d) (n : Int) (h1 : -9223372036854775808 ≤ n) (h2 : n ≤ 9223372036854775807) :
    Calls Try.prog 27 #[.pointer (some ⟨b, 0, none⟩), .int .i64 n] w fun e w' => e = .returned (.int .i64 (d.fail n).1) ∧ IsD w' S b (d.fail n).2 ∧ Upd S w w' := by
  obtain ⟨vs, vp, h⟩ := h
  exact (fail_any h n h1 h2).mono fun e w' ⟨he, hd, hu, _⟩ => ⟨he, ⟨vs, vp, hd⟩, hu⟩
theorem arm_isd {w : World} {S : Nat → Prop} {b : Nat} {d : PD} (h : IsD w S b d) (n : Int) (h1 : -9223372036854775808 ≤ n) (h2 : n ≤ 9223372036854775807) :
    Calls Try.prog 24 #[.pointer (some ⟨b, 0, none⟩), .int .i64 n] w fun e w' => e = .returned (.int .i64 (d.arm n).1) ∧ IsD w' S b (d.arm n).2 ∧ Upd S w w' := by
  obtain ⟨vs, vp, h⟩ := h
  exact (arm_any h n h1 h2).mono fun e w' ⟨he, hd, hu, _⟩ => ⟨he, ⟨vs, vp, hd⟩, hu⟩
theorem ops_isd {w : World} {S : Nat → Prop} {b : Nat} {d : PD} (h : IsD w S b d) : Calls Try.prog 31 #[.pointer (some ⟨b, 0, none⟩)] w fun e w' => e = .returned (.int .i64 (d.ops : Nat)) ∧ w = w' := by
  obtain ⟨vs, vp, h⟩ := h
  exact ops_any h.hd
theorem dead_isd {w : World} {S : Nat → Prop} {b : Nat} {d : PD} (h : IsD w S b d) : Calls Try.prog 25 #[.pointer (some ⟨b, 0, none⟩)] w fun e w' => e = .returned (.bool d.dead) ∧ w = w' := by
  obtain ⟨vs, vp, h⟩ := h
  exact dead_any h.hd
theorem pend_isd {w : World} {S : Nat → Prop} {b : Nat} {d : PD} (h : IsD w S b d) (hn : d.ops < 1073741824) : Calls Try.prog 28 #[.pointer (some ⟨b, 0, none⟩)] w fun e w' =>
    ∃ A c, e = .returned (.slice A d.pend.length c) ∧ w'.ownsRow w.heap.size 3 1 (.slice A d.pend.length c) d.pend.length (d.pend.map fun p => .int .i64 (p.1 : Nat)) ∧ Below w.heap.size w w' := by
  obtain ⟨vs, vp, h⟩ := h
  refine (pend_any h hn).mono fun e w' ⟨v, he, ho, hb⟩ => ?_
  obtain ⟨A, c, rfl⟩ := own_at_slice ho
  exact ⟨A, c, he, ho, hb⟩

/-- Two disks, the first of which will fail, in memory apart. -/
structure Two (w : World) (B : Nat) (p q : Nat) (d1 d2 : PD) : Prop where
  ex : ∃ S T, IsD w S p d1 ∧ IsD w T q d2 ∧ (∀ x, S x → ¬ T x) ∧ (∀ x, S x → B ≤ x) ∧ (∀ x, T x → B ≤ x)
theorem Two.below {w w' : World} {B p q : Nat} {d1 d2 : PD} (h : Two w B p q d1 d2) (hb : Below w.heap.size w w') : Two w' B p q d1 d2 := by
  obtain ⟨S, T, h1, h2, h3, h4, h5⟩ := h.ex
  exact ⟨S, T, h1.below hb, h2.below hb, h3, h4, h5⟩
/-- What a call leaves that turns the first alone. -/
theorem Two.first {w w' : World} {B p q : Nat} {d1 d2 d3 : PD} {S T : Nat → Prop} (h1 : IsD w S p d1) (h2 : IsD w T q d2) (h3 : ∀ x, S x → ¬ T x) (h4 : ∀ x, S x → B ≤ x) (h5 : ∀ x, T x → B ≤ x) (hB : B ≤ w.heap.size) (hg : Goes w S p d3 w') : Two w' B p q d3 d2 ∧ Upd (B ≤ ·) w w' := by
  obtain ⟨S', g1, g2, g3⟩ := hg
  refine ⟨⟨S', T, g2, h2.keep g3 fun x hT hS => h3 x hS hT, fun x hS hT => ?_, fun x hS => ?_, h5⟩, g3.mono fun x _ hx => h4 x hx⟩
  · rcases g1 x hS with h | h
    · exact h3 x h hT
    · have := h2.lt x hT; omega
  · rcases g1 x hS with h | h
    · exact h4 x h
    · omega
theorem Two.swap {w : World} {B p q : Nat} {d1 d2 : PD} (h : Two w B p q d1 d2) : Two w B q p d2 d1 := by
  obtain ⟨S, T, h1, h2, h3, h4, h5⟩ := h.ex
  exact ⟨T, S, h2, h1, fun x hT hS => h3 x hS hT, h5, h4⟩
/-- An op on the first. -/
theorem Two.does {w : World} {B p q : Nat} {d1 d2 : PD} (h : Two w B p q d1 d2) (hB : B ≤ w.heap.size) (hn : d1.ops < 1073741823) (e : DE) (F : Nat → Prop) (hko : e.1.okk) (hv : Sl w F 1 e.2 e.1.keep.length (e.1.keep.map Value.bool)) :
    Calls Try.prog 18 #[.pointer (some ⟨p, 0, none⟩), e.agg] w fun r w' => r = .returned (.tuple #[.agg (bvs (d1.does e.1).2.1).toArray, .int .i64 (d1.does e.1).1]) ∧ Two w' B p q (d1.does e.1).2.2 d2 ∧ Upd (B ≤ ·) w w' := by
  obtain ⟨S, T, h1, h2, h3, h4, h5⟩ := h.ex
  exact (does_any h1 hn e F hko hv).mono fun r w' ⟨hr, hg⟩ => ⟨hr, Two.first h1 h2 h3 h4 h5 hB hg⟩
theorem Two.fail {w : World} {B p q : Nat} {d1 d2 : PD} (h : Two w B p q d1 d2) (hB : B ≤ w.heap.size) (n : Int) (n1 : -9223372036854775808 ≤ n) (n2 : n ≤ 9223372036854775807) :
    Calls Try.prog 27 #[.pointer (some ⟨p, 0, none⟩), .int .i64 n] w fun r w' => r = .returned (.int .i64 (d1.fail n).1) ∧ Two w' B p q (d1.fail n).2 d2 ∧ Upd (B ≤ ·) w w' := by
  obtain ⟨S, T, h1, h2, h3, h4, h5⟩ := h.ex
  exact (fail_isd h1 n n1 n2).mono fun r w' ⟨hr, hd, hu⟩ => ⟨hr, Two.first h1 h2 h3 h4 h5 hB ⟨S, fun x hx => .inl hx, hd, hu⟩⟩
theorem Two.arm {w : World} {B p q : Nat} {d1 d2 : PD} (h : Two w B p q d1 d2) (hB : B ≤ w.heap.size) (n : Int) (n1 : -9223372036854775808 ≤ n) (n2 : n ≤ 9223372036854775807) :
    Calls Try.prog 24 #[.pointer (some ⟨p, 0, none⟩), .int .i64 n] w fun r w' => r = .returned (.int .i64 (d1.arm n).1) ∧ Two w' B p q (d1.arm n).2 d2 ∧ Upd (B ≤ ·) w w' := by
  obtain ⟨S, T, h1, h2, h3, h4, h5⟩ := h.ex
  exact (arm_isd h1 n n1 n2).mono fun r w' ⟨hr, hd, hu⟩ => ⟨hr, Two.first h1 h2 h3 h4 h5 hB ⟨S, fun x hx => .inl hx, hd, hu⟩⟩
theorem Two.held {w : World} {B p q : Nat} {d1 d2 : PD} (h : Two w B p q d1 d2) (hB : B ≤ w.heap.size) (hn : d1.ops + d1.safe.length < 1073741823) (hd : d1.dead = false) (hf : d1.fails = 0) :
    Calls Try.prog 15 #[.pointer (some ⟨p, 0, none⟩)] w fun e w' => ∃ v, e = .returned v ∧ w'.ownsRow w.heap.size 27 64 v d1.safe.length ((d1.helds d1.safe.length).flatMap bvs) ∧ Two w' B p q (d1.done d1.safe.length) d2 ∧ Upd (B ≤ ·) w w' := by
  obtain ⟨S, T, h1, h2, h3, h4, h5⟩ := h.ex
  exact (held_any h1 hn hd hf).mono fun e w' ⟨v, he, ho, hI, hu⟩ => ⟨v, he, ho, Two.first h1 h2 h3 h4 h5 hB ⟨S, fun x hx => .inl hx, hI, hu⟩⟩
theorem Two.ops {w : World} {B p q : Nat} {d1 d2 : PD} (h : Two w B p q d1 d2) : Calls Try.prog 31 #[.pointer (some ⟨p, 0, none⟩)] w fun e w' => e = .returned (.int .i64 (d1.ops : Nat)) ∧ w = w' := by
  obtain ⟨S, T, h1, h2, h3, h4, h5⟩ := h.ex; exact ops_isd h1
theorem Two.isdead {w : World} {B p q : Nat} {d1 d2 : PD} (h : Two w B p q d1 d2) : Calls Try.prog 25 #[.pointer (some ⟨p, 0, none⟩)] w fun e w' => e = .returned (.bool d1.dead) ∧ w = w' := by
  obtain ⟨S, T, h1, h2, h3, h4, h5⟩ := h.ex; exact dead_isd h1
theorem Two.pend {w : World} {B p q : Nat} {d1 d2 : PD} (h : Two w B p q d1 d2) (hn : d1.ops < 1073741824) : Calls Try.prog 28 #[.pointer (some ⟨p, 0, none⟩)] w fun e w' =>
    ∃ A c, e = .returned (.slice A d1.pend.length c) ∧ w'.ownsRow w.heap.size 3 1 (.slice A d1.pend.length c) d1.pend.length (d1.pend.map fun p => .int .i64 (p.1 : Nat)) ∧ Below w.heap.size w w' := by
  obtain ⟨S, T, h1, h2, h3, h4, h5⟩ := h.ex; exact pend_isd h1 hn

end Go.Proofs.Ythjlmkmijehnjaa
