/- Layer 1's statements: the walk of OctetRises. No condition. -/
import Derived.Test.YtifgieejmpfcdaaOct7
import Derived.Test.YtifgieejmpfcdaaG
namespace Go.Proofs.Ytifgieejmpfcdaa
open Go.RowKit K L
set_option linter.unusedVariables false
set_option linter.unusedSimpArgs false

set_option maxHeartbeats 1000000 in
theorem rises_walk (x y : Nat) (w : World) (hx : x < 18446744073709551616) (hy : y < 18446744073709551616) :
    Calls Try.prog 6 #[.int .u64 x, .int .u64 y] w fun e w' => e = .returned (.bool true) ∧ Below w.heap.size w w' := by
  go_enter Try.func6, Try.ntmps6
  go_wp2_with fail
  refine (wakes_any w).mono ?_
  rintro e w1 ⟨rfl, hB1⟩
  have k8 : Op.bytesLess (be x 8) (be y 8) = decide (x < y) := by rw [less_be, Nat.mod_eq_of_lt (by simpa using hx), Nat.mod_eq_of_lt (by simpa using hy)]
  have k4 : Op.bytesLess (be x 4) (be y 4) = decide (x % 4294967296 < y % 4294967296) := less_be 4 x y
  have K8 := Lib.hid k8
  have K4 := Lib.hid k4
  clear k8 k4
  go_wp2
  refine G.region_inv (by kernel_rfl) (by kernel_rfl) (fun w w' => Below w.heap.size w w') (fun _ _ _ h k => below_tr h k) (fun w _ => Below.refl _ _) (Below.refl _ _)
    (G.of [(fun (_ : World) (v : Value) => v = .int .u64 x), (fun w v => ∃ F, Bs w F v (be x 8)), (fun (_ : World) (v : Value) => v = .string ⟨(be x 8).toArray⟩), (fun (_ : World) (v : Value) => v = .int .u64 y), (fun w v => ∃ F, Bs w F v (be y 8)), (fun (_ : World) (v : Value) => v = .string ⟨(be y 8).toArray⟩), (fun (_ : World) (v : Value) => v = .bool (decide (x < y))), (fun (_ : World) (v : Value) => v = .int .u64 x), (fun (_ : World) (v : Value) => v = .int .u64 y), (fun (_ : World) (v : Value) => v = .bool (decide (x < y))), (fun (_ : World) (v : Value) => v = .bool true), (fun (_ : World) (v : Value) => v = .bool true), (fun (_ : World) (v : Value) => v = .int .u64 x), (fun (_ : World) (v : Value) => v = .int .u32 (x % 4294967296 : Nat)), (fun w v => ∃ F, Bs w F v (be x 4)), (fun (_ : World) (v : Value) => v = .string ⟨(be x 4).toArray⟩), (fun (_ : World) (v : Value) => v = .int .u64 y), (fun (_ : World) (v : Value) => v = .int .u32 (y % 4294967296 : Nat)), (fun w v => ∃ F, Bs w F v (be y 4)), (fun (_ : World) (v : Value) => v = .string ⟨(be y 4).toArray⟩), (fun (_ : World) (v : Value) => v = .bool (decide (x % 4294967296 < y % 4294967296))), (fun (_ : World) (v : Value) => v = .int .u64 x), (fun (_ : World) (v : Value) => v = .int .u32 (x % 4294967296 : Nat)), (fun (_ : World) (v : Value) => v = .int .u64 y), (fun (_ : World) (v : Value) => v = .int .u32 (y % 4294967296 : Nat)), (fun (_ : World) (v : Value) => v = .bool (decide (x % 4294967296 < y % 4294967296))), (fun (_ : World) (v : Value) => v = .bool true), (fun (_ : World) (v : Value) => v = .bool true), (fun (_ : World) (v : Value) => v = .bool true)])
    (G.of_stays _ ?_) ?_ (G.each_ops ?_) ?_
  · exact ⟨(fun w w' v h k => h), (fun w w' v h k => by first | exact h | exact G.keep_bs h k), (fun w w' v h k => h), (fun w w' v h k => h), (fun w w' v h k => by first | exact h | exact G.keep_bs h k), (fun w w' v h k => h), (fun w w' v h k => h), (fun w w' v h k => h), (fun w w' v h k => h), (fun w w' v h k => h), (fun w w' v h k => h), (fun w w' v h k => h), (fun w w' v h k => h), (fun w w' v h k => h), (fun w w' v h k => by first | exact h | exact G.keep_bs h k), (fun w w' v h k => h), (fun w w' v h k => h), (fun w w' v h k => h), (fun w w' v h k => by first | exact h | exact G.keep_bs h k), (fun w w' v h k => h), (fun w w' v h k => h), (fun w w' v h k => h), (fun w w' v h k => h), (fun w w' v h k => h), (fun w w' v h k => h), (fun w w' v h k => h), (fun w w' v h k => h), (fun w w' v h k => h), (fun w w' v h k => h), trivial⟩
  · intro i o hi hd; exact absurd hd (G.no_none (by kernel_rfl) hi)
  · refine ⟨?_, ?_, ?_, ?_, ?_, ?_, ?_, ?_, ?_, ?_, ?_, ?_, ?_, ?_, ?_, ?_, ?_, ?_, ?_, ?_, ?_, ?_, ?_, ?_, ?_, ?_, ?_, ?_, ?_, trivial⟩
    all_goals intro a wq hT hS hp
    · refine G.wanted_yes (G.wanted_plain rfl) ?_
      have e0 : a.tmps[0]?.getD undef = .int .u64 x := hS.at_ 0 rfl
      exact G.st_val (v := .int .u64 x) (w' := wq) (by simp [execOp, go_sem, e0, K8.out, K4.out, IntKind.wrap_u32'] <;> omega) ⟨_, rfl, Below.refl _ _, rfl⟩
    · refine G.wanted_yes (G.wanted_plain rfl) ?_
      have e7 : a.tmps[7]?.getD undef = .int .u64 x := hp ⟨0, .data⟩ (by simp) rfl _ rfl
      exact G.st_call (f := 23) (args := #[.slice none 0 0, .int .u64 x]) (by simp [execOp, go_sem, e7]) ((put64_any _ [] x wq (fun _ => True) (Sl.nil _ _ _) (by decide) (by omega)).mono fun e w' ⟨v, he, ho, hB⟩ => ⟨v, he, v, rfl, hB, _, ho.bs⟩)
    · refine G.wanted_yes (G.wanted_plain rfl) ?_
      have q8 : (fun w v => ∃ F, Bs w F v (be x 8)) wq (G.slot a (some 8)) := hp ⟨1, .data⟩ (by simp) rfl _ rfl
      obtain ⟨Fq, hq⟩ := q8
      have hc := run_string wq hq Try.underlying22 Try.underlying5 Try.underlying9
      exact G.st_val (v := .string ⟨(be x 8).toArray⟩) (w' := wq) (by simp only [G.slot] at hc; simp [execOp, go_sem, hc, Result.andThen]) ⟨_, rfl, Below.refl _ _, rfl⟩
    · refine G.wanted_yes (G.wanted_plain rfl) ?_
      have e1 : a.tmps[1]?.getD undef = .int .u64 y := hS.at_ 1 rfl
      exact G.st_val (v := .int .u64 y) (w' := wq) (by simp [execOp, go_sem, e1, K8.out, K4.out, IntKind.wrap_u32'] <;> omega) ⟨_, rfl, Below.refl _ _, rfl⟩
    · refine G.wanted_yes (G.wanted_plain rfl) ?_
      have e10 : a.tmps[10]?.getD undef = .int .u64 y := hp ⟨3, .data⟩ (by simp) rfl _ rfl
      exact G.st_call (f := 23) (args := #[.slice none 0 0, .int .u64 y]) (by simp [execOp, go_sem, e10]) ((put64_any _ [] y wq (fun _ => True) (Sl.nil _ _ _) (by decide) (by omega)).mono fun e w' ⟨v, he, ho, hB⟩ => ⟨v, he, v, rfl, hB, _, ho.bs⟩)
    · refine G.wanted_yes (G.wanted_plain rfl) ?_
      have q11 : (fun w v => ∃ F, Bs w F v (be y 8)) wq (G.slot a (some 11)) := hp ⟨4, .data⟩ (by simp) rfl _ rfl
      obtain ⟨Fq, hq⟩ := q11
      have hc := run_string wq hq Try.underlying22 Try.underlying5 Try.underlying9
      exact G.st_val (v := .string ⟨(be y 8).toArray⟩) (w' := wq) (by simp only [G.slot] at hc; simp [execOp, go_sem, hc, Result.andThen]) ⟨_, rfl, Below.refl _ _, rfl⟩
    · refine G.wanted_yes (G.wanted_plain rfl) ?_
      have e9 : a.tmps[9]?.getD undef = .string ⟨(be x 8).toArray⟩ := hp ⟨2, .data⟩ (by simp) rfl _ rfl
      have e12 : a.tmps[12]?.getD undef = .string ⟨(be y 8).toArray⟩ := hp ⟨5, .data⟩ (by simp) rfl _ rfl
      exact G.st_val (v := .bool (decide (x < y))) (w' := wq) (by simp [execOp, go_sem, e9, e12, K8.out, K4.out, IntKind.wrap_u32'] <;> omega) ⟨_, rfl, Below.refl _ _, rfl⟩
    · refine G.wanted_yes (G.wanted_plain rfl) ?_
      have e0 : a.tmps[0]?.getD undef = .int .u64 x := hS.at_ 0 rfl
      exact G.st_val (v := .int .u64 x) (w' := wq) (by simp [execOp, go_sem, e0, K8.out, K4.out, IntKind.wrap_u32'] <;> omega) ⟨_, rfl, Below.refl _ _, rfl⟩
    · refine G.wanted_yes (G.wanted_plain rfl) ?_
      have e1 : a.tmps[1]?.getD undef = .int .u64 y := hS.at_ 1 rfl
      exact G.st_val (v := .int .u64 y) (w' := wq) (by simp [execOp, go_sem, e1, K8.out, K4.out, IntKind.wrap_u32'] <;> omega) ⟨_, rfl, Below.refl _ _, rfl⟩
    · refine G.wanted_yes (G.wanted_plain rfl) ?_
      have e14 : a.tmps[14]?.getD undef = .int .u64 x := hp ⟨7, .data⟩ (by simp) rfl _ rfl
      have e15 : a.tmps[15]?.getD undef = .int .u64 y := hp ⟨8, .data⟩ (by simp) rfl _ rfl
      exact G.st_val (v := .bool (decide (x < y))) (w' := wq) (by simp [execOp, go_sem, e14, e15, K8.out, K4.out, IntKind.wrap_u32'] <;> omega) ⟨_, rfl, Below.refl _ _, rfl⟩
    · refine G.wanted_yes (G.wanted_plain rfl) ?_
      have e13 : a.tmps[13]?.getD undef = .bool (decide (x < y)) := hp ⟨6, .data⟩ (by simp) rfl _ rfl
      have e16 : a.tmps[16]?.getD undef = .bool (decide (x < y)) := hp ⟨9, .data⟩ (by simp) rfl _ rfl
      exact G.st_val (v := .bool true) (w' := wq) (by simp [execOp, go_sem, e13, e16, K8.out, K4.out, IntKind.wrap_u32'] <;> omega) ⟨_, rfl, Below.refl _ _, rfl⟩
    · refine G.wanted_yes (G.wanted_plain rfl) ?_
      have e17 : a.tmps[17]?.getD undef = .bool true := hp ⟨10, .data⟩ (by simp) rfl _ rfl
      exact G.st_val (v := .bool true) (w' := wq) (by simp [execOp, go_sem, e17, K8.out, K4.out, IntKind.wrap_u32'] <;> omega) ⟨_, rfl, Below.refl _ _, rfl⟩
    · refine G.wanted_yes (G.wanted_guard rfl (G.yielded_of rfl rfl (hp ⟨11, .guard⟩ (by simp) rfl _ rfl))) ?_
      have e0 : a.tmps[0]?.getD undef = .int .u64 x := hS.at_ 0 rfl
      exact G.st_val (v := .int .u64 x) (w' := wq) (by simp [execOp, go_sem, e0, K8.out, K4.out, IntKind.wrap_u32'] <;> omega) ⟨_, rfl, Below.refl _ _, rfl⟩
    · refine G.wanted_yes (G.wanted_guard rfl (G.yielded_of rfl rfl (hp ⟨11, .guard⟩ (by simp) rfl _ rfl))) ?_
      have e19 : a.tmps[19]?.getD undef = .int .u64 x := hp ⟨12, .data⟩ (by simp) rfl _ rfl
      exact G.st_val (v := .int .u32 (x % 4294967296 : Nat)) (w' := wq) (by simp [execOp, go_sem, e19, K8.out, K4.out, IntKind.wrap_u32'] <;> omega) ⟨_, rfl, Below.refl _ _, rfl⟩
    · refine G.wanted_yes (G.wanted_guard rfl (G.yielded_of rfl rfl (hp ⟨11, .chain⟩ (by simp) rfl _ rfl))) ?_
      have e20 : a.tmps[20]?.getD undef = .int .u32 (x % 4294967296 : Nat) := hp ⟨13, .data⟩ (by simp) rfl _ rfl
      exact G.st_call (f := 24) (args := #[.slice none 0 0, .int .u32 (x % 4294967296 : Nat)]) (by simp [execOp, go_sem, e20]) ((put32_any _ [] (x % 4294967296) wq (fun _ => True) (Sl.nil _ _ _) (by decide) (by omega)).mono fun e w' ⟨v, he, ho, hB⟩ => ⟨v, he, v, rfl, hB, _, (be_mod 4 x) ▸ ho.bs⟩)
    · refine G.wanted_yes (G.wanted_guard rfl (G.yielded_of rfl rfl (hp ⟨11, .guard⟩ (by simp) rfl _ rfl))) ?_
      have q21 : (fun w v => ∃ F, Bs w F v (be x 4)) wq (G.slot a (some 21)) := hp ⟨14, .data⟩ (by simp) rfl _ rfl
      obtain ⟨Fq, hq⟩ := q21
      have hc := run_string wq hq Try.underlying22 Try.underlying5 Try.underlying9
      exact G.st_val (v := .string ⟨(be x 4).toArray⟩) (w' := wq) (by simp only [G.slot] at hc; simp [execOp, go_sem, hc, Result.andThen]) ⟨_, rfl, Below.refl _ _, rfl⟩
    · refine G.wanted_yes (G.wanted_guard rfl (G.yielded_of rfl rfl (hp ⟨11, .guard⟩ (by simp) rfl _ rfl))) ?_
      have e1 : a.tmps[1]?.getD undef = .int .u64 y := hS.at_ 1 rfl
      exact G.st_val (v := .int .u64 y) (w' := wq) (by simp [execOp, go_sem, e1, K8.out, K4.out, IntKind.wrap_u32'] <;> omega) ⟨_, rfl, Below.refl _ _, rfl⟩
    · refine G.wanted_yes (G.wanted_guard rfl (G.yielded_of rfl rfl (hp ⟨11, .guard⟩ (by simp) rfl _ rfl))) ?_
      have e23 : a.tmps[23]?.getD undef = .int .u64 y := hp ⟨16, .data⟩ (by simp) rfl _ rfl
      exact G.st_val (v := .int .u32 (y % 4294967296 : Nat)) (w' := wq) (by simp [execOp, go_sem, e23, K8.out, K4.out, IntKind.wrap_u32'] <;> omega) ⟨_, rfl, Below.refl _ _, rfl⟩
    · refine G.wanted_yes (G.wanted_guard rfl (G.yielded_of rfl rfl (hp ⟨11, .guard⟩ (by simp) rfl _ rfl))) ?_
      have e24 : a.tmps[24]?.getD undef = .int .u32 (y % 4294967296 : Nat) := hp ⟨17, .data⟩ (by simp) rfl _ rfl
      exact G.st_call (f := 24) (args := #[.slice none 0 0, .int .u32 (y % 4294967296 : Nat)]) (by simp [execOp, go_sem, e24]) ((put32_any _ [] (y % 4294967296) wq (fun _ => True) (Sl.nil _ _ _) (by decide) (by omega)).mono fun e w' ⟨v, he, ho, hB⟩ => ⟨v, he, v, rfl, hB, _, (be_mod 4 y) ▸ ho.bs⟩)
    · refine G.wanted_yes (G.wanted_guard rfl (G.yielded_of rfl rfl (hp ⟨11, .guard⟩ (by simp) rfl _ rfl))) ?_
      have q25 : (fun w v => ∃ F, Bs w F v (be y 4)) wq (G.slot a (some 25)) := hp ⟨18, .data⟩ (by simp) rfl _ rfl
      obtain ⟨Fq, hq⟩ := q25
      have hc := run_string wq hq Try.underlying22 Try.underlying5 Try.underlying9
      exact G.st_val (v := .string ⟨(be y 4).toArray⟩) (w' := wq) (by simp only [G.slot] at hc; simp [execOp, go_sem, hc, Result.andThen]) ⟨_, rfl, Below.refl _ _, rfl⟩
    · refine G.wanted_yes (G.wanted_guard rfl (G.yielded_of rfl rfl (hp ⟨11, .guard⟩ (by simp) rfl _ rfl))) ?_
      have e22 : a.tmps[22]?.getD undef = .string ⟨(be x 4).toArray⟩ := hp ⟨15, .data⟩ (by simp) rfl _ rfl
      have e26 : a.tmps[26]?.getD undef = .string ⟨(be y 4).toArray⟩ := hp ⟨19, .data⟩ (by simp) rfl _ rfl
      exact G.st_val (v := .bool (decide (x % 4294967296 < y % 4294967296))) (w' := wq) (by simp [execOp, go_sem, e22, e26, K8.out, K4.out, IntKind.wrap_u32'] <;> omega) ⟨_, rfl, Below.refl _ _, rfl⟩
    · refine G.wanted_yes (G.wanted_guard rfl (G.yielded_of rfl rfl (hp ⟨11, .guard⟩ (by simp) rfl _ rfl))) ?_
      have e0 : a.tmps[0]?.getD undef = .int .u64 x := hS.at_ 0 rfl
      exact G.st_val (v := .int .u64 x) (w' := wq) (by simp [execOp, go_sem, e0, K8.out, K4.out, IntKind.wrap_u32'] <;> omega) ⟨_, rfl, Below.refl _ _, rfl⟩
    · refine G.wanted_yes (G.wanted_guard rfl (G.yielded_of rfl rfl (hp ⟨11, .guard⟩ (by simp) rfl _ rfl))) ?_
      have e28 : a.tmps[28]?.getD undef = .int .u64 x := hp ⟨21, .data⟩ (by simp) rfl _ rfl
      exact G.st_val (v := .int .u32 (x % 4294967296 : Nat)) (w' := wq) (by simp [execOp, go_sem, e28, K8.out, K4.out, IntKind.wrap_u32'] <;> omega) ⟨_, rfl, Below.refl _ _, rfl⟩
    · refine G.wanted_yes (G.wanted_guard rfl (G.yielded_of rfl rfl (hp ⟨11, .guard⟩ (by simp) rfl _ rfl))) ?_
      have e1 : a.tmps[1]?.getD undef = .int .u64 y := hS.at_ 1 rfl
      exact G.st_val (v := .int .u64 y) (w' := wq) (by simp [execOp, go_sem, e1, K8.out, K4.out, IntKind.wrap_u32'] <;> omega) ⟨_, rfl, Below.refl _ _, rfl⟩
    · refine G.wanted_yes (G.wanted_guard rfl (G.yielded_of rfl rfl (hp ⟨11, .guard⟩ (by simp) rfl _ rfl))) ?_
      have e30 : a.tmps[30]?.getD undef = .int .u64 y := hp ⟨23, .data⟩ (by simp) rfl _ rfl
      exact G.st_val (v := .int .u32 (y % 4294967296 : Nat)) (w' := wq) (by simp [execOp, go_sem, e30, K8.out, K4.out, IntKind.wrap_u32'] <;> omega) ⟨_, rfl, Below.refl _ _, rfl⟩
    · refine G.wanted_yes (G.wanted_guard rfl (G.yielded_of rfl rfl (hp ⟨11, .guard⟩ (by simp) rfl _ rfl))) ?_
      have e29 : a.tmps[29]?.getD undef = .int .u32 (x % 4294967296 : Nat) := hp ⟨22, .data⟩ (by simp) rfl _ rfl
      have e31 : a.tmps[31]?.getD undef = .int .u32 (y % 4294967296 : Nat) := hp ⟨24, .data⟩ (by simp) rfl _ rfl
      exact G.st_val (v := .bool (decide (x % 4294967296 < y % 4294967296))) (w' := wq) (by simp [execOp, go_sem, e29, e31, K8.out, K4.out, IntKind.wrap_u32'] <;> omega) ⟨_, rfl, Below.refl _ _, rfl⟩
    · refine G.wanted_yes (G.wanted_guard rfl (G.yielded_of rfl rfl (hp ⟨11, .guard⟩ (by simp) rfl _ rfl))) ?_
      have e27 : a.tmps[27]?.getD undef = .bool (decide (x % 4294967296 < y % 4294967296)) := hp ⟨20, .data⟩ (by simp) rfl _ rfl
      have e32 : a.tmps[32]?.getD undef = .bool (decide (x % 4294967296 < y % 4294967296)) := hp ⟨25, .data⟩ (by simp) rfl _ rfl
      exact G.st_val (v := .bool true) (w' := wq) (by simp [execOp, go_sem, e27, e32, K8.out, K4.out, IntKind.wrap_u32'] <;> omega) ⟨_, rfl, Below.refl _ _, rfl⟩
    · refine G.wanted_yes (G.wanted_plain rfl) ?_
      have e18 : a.tmps[18]?.getD undef = .bool true := hp ⟨11, .data⟩ (by simp) rfl _ rfl
      have e33 : a.tmps[33]?.getD undef = .bool true := hp ⟨26, .data⟩ (by simp) rfl _ rfl
      exact G.st_val (v := .bool true) (w' := wq) (by simp [execOp, go_sem, e18, e33, K8.out, K4.out, IntKind.wrap_u32'] <;> omega) ⟨_, rfl, Below.refl _ _, rfl⟩
    · refine G.wanted_yes (G.wanted_plain rfl) ?_
      have e34 : a.tmps[34]?.getD undef = .bool true := hp ⟨27, .data⟩ (by simp) rfl _ rfl
      exact G.st_val (v := .bool true) (w' := wq) (by simp [execOp, go_sem, e34, K8.out, K4.out, IntKind.wrap_u32'] <;> omega) ⟨_, rfl, Below.refl _ _, rfl⟩
  · intro a wq hT hS hp
    have e7 : G.slot a (some 7) = .int .u64 x := hp 0 _ rfl
    have q8 : (fun w v => ∃ F, Bs w F v (be x 8)) wq (G.slot a (some 8)) := hp 1 _ rfl
    have e9 : G.slot a (some 9) = .string ⟨(be x 8).toArray⟩ := hp 2 _ rfl
    have e10 : G.slot a (some 10) = .int .u64 y := hp 3 _ rfl
    have q11 : (fun w v => ∃ F, Bs w F v (be y 8)) wq (G.slot a (some 11)) := hp 4 _ rfl
    have e12 : G.slot a (some 12) = .string ⟨(be y 8).toArray⟩ := hp 5 _ rfl
    have e13 : G.slot a (some 13) = .bool (decide (x < y)) := hp 6 _ rfl
    have e14 : G.slot a (some 14) = .int .u64 x := hp 7 _ rfl
    have e15 : G.slot a (some 15) = .int .u64 y := hp 8 _ rfl
    have e16 : G.slot a (some 16) = .bool (decide (x < y)) := hp 9 _ rfl
    have e17 : G.slot a (some 17) = .bool true := hp 10 _ rfl
    have e18 : G.slot a (some 18) = .bool true := hp 11 _ rfl
    have e19 : G.slot a (some 19) = .int .u64 x := hp 12 _ rfl
    have e20 : G.slot a (some 20) = .int .u32 (x % 4294967296 : Nat) := hp 13 _ rfl
    have q21 : (fun w v => ∃ F, Bs w F v (be x 4)) wq (G.slot a (some 21)) := hp 14 _ rfl
    have e22 : G.slot a (some 22) = .string ⟨(be x 4).toArray⟩ := hp 15 _ rfl
    have e23 : G.slot a (some 23) = .int .u64 y := hp 16 _ rfl
    have e24 : G.slot a (some 24) = .int .u32 (y % 4294967296 : Nat) := hp 17 _ rfl
    have q25 : (fun w v => ∃ F, Bs w F v (be y 4)) wq (G.slot a (some 25)) := hp 18 _ rfl
    have e26 : G.slot a (some 26) = .string ⟨(be y 4).toArray⟩ := hp 19 _ rfl
    have e27 : G.slot a (some 27) = .bool (decide (x % 4294967296 < y % 4294967296)) := hp 20 _ rfl
    have e28 : G.slot a (some 28) = .int .u64 x := hp 21 _ rfl
    have e29 : G.slot a (some 29) = .int .u32 (x % 4294967296 : Nat) := hp 22 _ rfl
    have e30 : G.slot a (some 30) = .int .u64 y := hp 23 _ rfl
    have e31 : G.slot a (some 31) = .int .u32 (y % 4294967296 : Nat) := hp 24 _ rfl
    have e32 : G.slot a (some 32) = .bool (decide (x % 4294967296 < y % 4294967296)) := hp 25 _ rfl
    have e33 : G.slot a (some 33) = .bool true := hp 26 _ rfl
    have e34 : G.slot a (some 34) = .bool true := hp 27 _ rfl
    have e4 : G.slot a (some 4) = .bool true := hp 28 _ rfl
    have ha := G.act_of hS
    simp only [List.foldl_cons, List.foldl_nil, Act.put, List.setIfInBounds_toArray, List.set_cons_succ, List.set_cons_zero, e7, e9, e10, e12, e13, e14, e15, e16, e17, e18, e19, e20, e22, e23, e24, e26, e27, e28, e29, e30, e31, e32, e33, e34, e4] at ha
    generalize G.slot a (some 8) = s8 at q8 ha
    generalize G.slot a (some 11) = s11 at q11 ha
    generalize G.slot a (some 21) = s21 at q21 ha
    generalize G.slot a (some 25) = s25 at q25 ha
    clear hp hS e7 e9 e10 e12 e13 e14 e15 e16 e17 e18 e19 e20 e22 e23 e24 e26 e27 e28 e29 e30 e31 e32 e33 e34 e4
    subst ha
    go_wp2
    go_ret
    exact ⟨rfl, below_tr hB1.drew hT⟩

end Go.Proofs.Ytifgieejmpfcdaa
