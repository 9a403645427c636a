/- Layer 2's reference: asked, done, arm, fail, new. No condition beyond sizes. -/
import Derived.Test.YthjlmkmijehnjaaDk7
import Derived.Test.YthjlmkmijehnjaaDrL
namespace Go.Proofs.Ythjlmkmijehnjaa
open Go.RowKit Go.Shelf K L
set_option linter.unusedVariables false
set_option linter.unusedSimpArgs false

/-- A reference's disk as a value. -/
def rv (vs vp : Value) (r : RD) : Value := .agg #[vs, vp, .bool r.dead, .int .i64 r.left, .int .i64 r.fails, .int .i64 (r.ops : Nat)]

theorem RD.asked_0 {r : RD} {i : Int} (hd : r.dead = true) : r.asked i = (r, 9) := by unfold RD.asked; rw [if_pos hd]
theorem RD.asked_1 {r : RD} {i : Int} (hd : r.dead = false) (hi : i < 0 ∨ (r.safe.length : Int) ≤ i) : r.asked i = (r, 2) := by unfold RD.asked; rw [if_neg (by rw [hd]; decide), if_pos hi]
theorem RD.asked_2 {r : RD} {i : Int} (hd : r.dead = false) (hi : ¬ (i < 0 ∨ (r.safe.length : Int) ≤ i)) (h : r.fails = 0) : r.asked i = ({ r with fails := -1 }, 8) := by unfold RD.asked; rw [if_neg (by rw [hd]; decide), if_neg hi, if_pos h]
theorem RD.asked_3 {r : RD} {i : Int} (hd : r.dead = false) (hi : ¬ (i < 0 ∨ (r.safe.length : Int) ≤ i)) (h : ¬ r.fails = 0) (h2 : 0 < r.fails) : r.asked i = ({ r with fails := r.fails - 1 }, 0) := by unfold RD.asked; rw [if_neg (by rw [hd]; decide), if_neg hi, if_neg h, if_pos h2]
theorem RD.asked_4 {r : RD} {i : Int} (hd : r.dead = false) (hi : ¬ (i < 0 ∨ (r.safe.length : Int) ≤ i)) (h : ¬ r.fails = 0) (h2 : ¬ 0 < r.fails) : r.asked i = (r, 0) := by unfold RD.asked; rw [if_neg (by rw [hd]; decide), if_neg hi, if_neg h, if_neg h2]

/-- What 'asked' leaves. -/
def Asked (w : World) (vs vp : Value) (r : RD × Int) (e : Ending) (w' : World) : Prop := e = .returned (.tuple #[rv vs vp r.1, .int .i64 r.2]) ∧ Below w.heap.size w w'

set_option maxHeartbeats 4000000 in
theorem asked_any (As Ap : Option Addr) (cs np cp : Nat) (r : RD) (i : Int) (w : World) (i1 : -9223372036854775808 ≤ i) (i2 : i ≤ 9223372036854775807) (hok : r.ok) :
    Calls Try.prog 42 #[rv (.slice As r.safe.length cs) (.slice Ap np cp) r, .int .i64 i] w (Asked w (.slice As r.safe.length cs) (.slice Ap np cp) (r.asked i)) := by
  have hfew := hok.few
  have g0 := hok.f0
  have g1 := hok.f1
  clear hok
  unfold rv
  cases hd : r.dead
  case true =>
    have HR := Lib.hid (RD.asked_0 (i := i) hd)
    have HD := Lib.hid hd
    clear hd
    go_enter Try.func42, Try.ntmps42
    go_wp2
    refine bodyPost_ret (v := .tuple #[.agg #[.slice As r.safe.length cs, .slice Ap np cp, .bool true, .int .i64 r.left, .int .i64 r.fails, .int .i64 (r.ops : Nat)], .int .i64 9]) (by simp [results, Try.results42, go_sem]) rfl ?_
    unfold Asked; rw [HR.out]
    exact ⟨by unfold rv; first | rfl | rw [HD.out] | (rw [HD.out]; push_cast; rfl) | (push_cast; rfl), (by repeat' (first | exact Below.refl _ _ | assumption | with_reducible refine below_dn ?_ _ | with_reducible refine below_al ?_ _ | with_reducible refine Below.drew ?_ | (with_reducible refine below_sc ?_ ?_ _) | (simp; done) | (simp; omega)))⟩
  case false =>
    have HD := Lib.hid hd
    by_cases hi : i < 0 ∨ (r.safe.length : Int) ≤ i
    · have HR := Lib.hid (RD.asked_1 hd hi)
      clear hd
      rcases hi with hi | hi
      · skip
        go_enter Try.func42, Try.ntmps42
        go_wp2
        refine bodyPost_ret (v := .tuple #[.agg #[.slice As r.safe.length cs, .slice Ap np cp, .bool false, .int .i64 r.left, .int .i64 r.fails, .int .i64 (r.ops : Nat)], .int .i64 2]) (by simp [results, Try.results42, go_sem]) rfl ?_
        unfold Asked; rw [HR.out]
        exact ⟨by unfold rv; first | rfl | rw [HD.out] | (rw [HD.out]; push_cast; rfl) | (push_cast; rfl), (by repeat' (first | exact Below.refl _ _ | assumption | with_reducible refine below_dn ?_ _ | with_reducible refine below_al ?_ _ | with_reducible refine Below.drew ?_ | (with_reducible refine below_sc ?_ ?_ _) | (simp; done) | (simp; omega)))⟩
      · have h0 : ¬ i < 0 := by omega
        go_enter Try.func42, Try.ntmps42
        go_wp2
        refine bodyPost_ret (v := .tuple #[.agg #[.slice As r.safe.length cs, .slice Ap np cp, .bool false, .int .i64 r.left, .int .i64 r.fails, .int .i64 (r.ops : Nat)], .int .i64 2]) (by simp [results, Try.results42, go_sem]) rfl ?_
        unfold Asked; rw [HR.out]
        exact ⟨by unfold rv; first | rfl | rw [HD.out] | (rw [HD.out]; push_cast; rfl) | (push_cast; rfl), (by repeat' (first | exact Below.refl _ _ | assumption | with_reducible refine below_dn ?_ _ | with_reducible refine below_al ?_ _ | with_reducible refine Below.drew ?_ | (with_reducible refine below_sc ?_ ?_ _) | (simp; done) | (simp; omega)))⟩
    · have HI := Lib.hid hi
      have i0 : ¬ i < 0 := by omega
      have i3 : i < r.safe.length := by omega
      clear hi
      by_cases h5 : r.fails = 0
      · have HR := Lib.hid (RD.asked_2 hd HI.out h5)
        rw [h5]
        clear hd h5
        go_enter Try.func42, Try.ntmps42
        go_wp2
        refine bodyPost_ret (v := .tuple #[.agg #[.slice As r.safe.length cs, .slice Ap np cp, .bool false, .int .i64 r.left, .int .i64 (-1), .int .i64 (r.ops : Nat)], .int .i64 8]) (by simp [results, Try.results42, go_sem]) rfl ?_
        unfold Asked; rw [HR.out]
        exact ⟨by unfold rv; first | rfl | rw [HD.out] | (rw [HD.out]; push_cast; rfl) | (push_cast; rfl), (by repeat' (first | exact Below.refl _ _ | assumption | with_reducible refine below_dn ?_ _ | with_reducible refine below_al ?_ _ | with_reducible refine Below.drew ?_ | (with_reducible refine below_sc ?_ ?_ _) | (simp; done) | (simp; omega)))⟩
      · have hd5 : (r.fails == 0) = false := by simpa using h5
        by_cases h6 : 0 < r.fails
        · have HR := Lib.hid (RD.asked_3 hd HI.out h5 h6)
          have h7 : 1 ≤ r.fails := h6
          clear hd h5
          go_enter Try.func42, Try.ntmps42
          go_wp2
          refine bodyPost_ret (v := .tuple #[.agg #[.slice As r.safe.length cs, .slice Ap np cp, .bool false, .int .i64 r.left, .int .i64 (r.fails - 1), .int .i64 (r.ops : Nat)], .int .i64 0]) (by simp [results, Try.results42, go_sem]) rfl ?_
          unfold Asked; rw [HR.out]
          exact ⟨by unfold rv; first | rfl | rw [HD.out] | (rw [HD.out]; push_cast; rfl) | (push_cast; rfl), (by repeat' (first | exact Below.refl _ _ | assumption | with_reducible refine below_dn ?_ _ | with_reducible refine below_al ?_ _ | with_reducible refine Below.drew ?_ | (with_reducible refine below_sc ?_ ?_ _) | (simp; done) | (simp; omega)))⟩
        · have HR := Lib.hid (RD.asked_4 hd HI.out h5 h6)
          clear hd h5
          go_enter Try.func42, Try.ntmps42
          go_wp2
          refine bodyPost_ret (v := .tuple #[.agg #[.slice As r.safe.length cs, .slice Ap np cp, .bool false, .int .i64 r.left, .int .i64 r.fails, .int .i64 (r.ops : Nat)], .int .i64 0]) (by simp [results, Try.results42, go_sem]) rfl ?_
          unfold Asked; rw [HR.out]
          exact ⟨by unfold rv; first | rfl | rw [HD.out] | (rw [HD.out]; push_cast; rfl) | (push_cast; rfl), (by repeat' (first | exact Below.refl _ _ | assumption | with_reducible refine below_dn ?_ _ | with_reducible refine below_al ?_ _ | with_reducible refine Below.drew ?_ | (with_reducible refine below_sc ?_ ?_ _) | (simp; done) | (simp; omega)))⟩

def Doned (w : World) (vs vp : Value) (r : RD × Bool) (e : Ending) (w' : World) : Prop := e = .returned (.tuple #[rv vs vp r.1, .bool r.2]) ∧ Below w.heap.size w w'
theorem RD.done_0 {r : RD} (h : r.left = 0) : r.done = ({ r with dead := true }, false) := by unfold RD.done; rw [if_pos h]
theorem RD.done_1 {r : RD} (h : ¬ r.left = 0) (h2 : 0 < r.left) : r.done = ({ r with left := r.left - 1, ops := r.ops + 1 }, true) := by unfold RD.done; rw [if_neg h, if_pos h2]
theorem RD.done_2 {r : RD} (h : ¬ r.left = 0) (h2 : ¬ 0 < r.left) : r.done = ({ r with ops := r.ops + 1 }, true) := by unfold RD.done; rw [if_neg h, if_neg h2]

set_option maxHeartbeats 4000000 in
theorem done_any (As Ap : Option Addr) (cs np cp : Nat) (r : RD) (w : World) (hok : r.ok) (hn : r.ops < 1073741824) :
    Calls Try.prog 53 #[rv (.slice As r.safe.length cs) (.slice Ap np cp) r] w (Doned w (.slice As r.safe.length cs) (.slice Ap np cp) r.done) := by
  have g0 := hok.lo
  have g1 := hok.hi
  clear hok
  have HD := Lib.hid (rfl : r.dead = r.dead)
  unfold rv
  by_cases h5 : r.left = 0
  · have HR := Lib.hid (RD.done_0 h5)
    rw [h5]
    have H5 := Lib.hid h5
    clear h5
    go_enter Try.func53, Try.ntmps53
    go_wp2
    refine bodyPost_ret (v := .tuple #[.agg #[.slice As r.safe.length cs, .slice Ap np cp, .bool true, .int .i64 0, .int .i64 r.fails, .int .i64 (r.ops : Nat)], .bool false]) (by simp [results, Try.results53, go_sem]) rfl ?_
    unfold Doned; rw [HR.out]
    exact ⟨by unfold rv; first | (rw [H5.out]) | rfl | rw [HD.out] | (rw [HD.out]; push_cast; rfl) | (push_cast; rfl), (by repeat' (first | exact Below.refl _ _ | assumption | with_reducible refine below_dn ?_ _ | with_reducible refine below_al ?_ _ | with_reducible refine Below.drew ?_ | (with_reducible refine below_sc ?_ ?_ _) | (simp; done) | (simp; omega)))⟩
  · have hd5 : (r.left == 0) = false := by simpa using h5
    by_cases h6 : 0 < r.left
    · have HR := Lib.hid (RD.done_1 h5 h6)
      have h7 : 1 ≤ r.left := h6
      clear h5
      go_enter Try.func53, Try.ntmps53
      go_wp2
      refine bodyPost_ret (v := .tuple #[.agg #[.slice As r.safe.length cs, .slice Ap np cp, .bool r.dead, .int .i64 (r.left - 1), .int .i64 r.fails, .int .i64 ((r.ops : Int) + 1)], .bool true]) (by simp [results, Try.results53, go_sem]) rfl ?_
      unfold Doned; rw [HR.out]
      exact ⟨by unfold rv; first | rfl | rw [HD.out] | (rw [HD.out]; push_cast; rfl) | (push_cast; rfl), (by repeat' (first | exact Below.refl _ _ | assumption | with_reducible refine below_dn ?_ _ | with_reducible refine below_al ?_ _ | with_reducible refine Below.drew ?_ | (with_reducible refine below_sc ?_ ?_ _) | (simp; done) | (simp; omega)))⟩
    · have HR := Lib.hid (RD.done_2 h5 h6)
      clear h5
      go_enter Try.func53, Try.ntmps53
      go_wp2
      refine bodyPost_ret (v := .tuple #[.agg #[.slice As r.safe.length cs, .slice Ap np cp, .bool r.dead, .int .i64 r.left, .int .i64 r.fails, .int .i64 ((r.ops : Int) + 1)], .bool true]) (by simp [results, Try.results53, go_sem]) rfl ?_
      unfold Doned; rw [HR.out]
      exact ⟨by unfold rv; first | rfl | rw [HD.out] | (rw [HD.out]; push_cast; rfl) | (push_cast; rfl), (by repeat' (first | exact Below.refl _ _ | assumption | with_reducible refine below_dn ?_ _ | with_reducible refine below_al ?_ _ | with_reducible refine Below.drew ?_ | (with_reducible refine below_sc ?_ ?_ _) | (simp; done) | (simp; omega)))⟩

theorem RD.arm_0 {r : RD} {n : Int} (hd : r.dead = true) : r.arm n = (r, 9) := by unfold RD.arm; rw [if_pos hd]
theorem RD.arm_1 {r : RD} {n : Int} (hd : r.dead = false) : r.arm n = ({ r with left := if n < -1 then -1 else n }, 0) := by unfold RD.arm; rw [if_neg (by rw [hd]; decide)]

set_option maxHeartbeats 4000000 in
theorem rarm_any (As Ap : Option Addr) (cs np cp : Nat) (r : RD) (n : Int) (w : World) (i1 : -9223372036854775808 ≤ n) (i2 : n ≤ 9223372036854775807) :
    Calls Try.prog 37 #[rv (.slice As r.safe.length cs) (.slice Ap np cp) r, .int .i64 n] w (Asked w (.slice As r.safe.length cs) (.slice Ap np cp) (r.arm n)) := by
  unfold rv
  cases hd : r.dead
  case true =>
    have HR := Lib.hid (RD.arm_0 (n := n) hd)
    have HD := Lib.hid hd
    clear hd
    go_enter Try.func37, Try.ntmps37
    go_wp2
    refine bodyPost_ret (v := .tuple #[.agg #[.slice As r.safe.length cs, .slice Ap np cp, .bool true, .int .i64 r.left, .int .i64 r.fails, .int .i64 (r.ops : Nat)], .int .i64 9]) (by simp [results, Try.results37, go_sem]) rfl ?_
    unfold Asked; rw [HR.out]
    exact ⟨by unfold rv; first | rfl | rw [HD.out] | (rw [HD.out]; push_cast; rfl) | (push_cast; rfl), (by repeat' (first | exact Below.refl _ _ | assumption | with_reducible refine below_dn ?_ _ | with_reducible refine below_al ?_ _ | with_reducible refine Below.drew ?_ | (with_reducible refine below_sc ?_ ?_ _) | (simp; done) | (simp; omega)))⟩
  case false =>
    have HR := Lib.hid (RD.arm_1 (n := n) hd)
    have HD := Lib.hid hd
    clear hd
    by_cases hn : n < -1
    · have HI := Lib.hid (if_pos hn : (if n < -1 then (-1 : Int) else n) = -1)
      go_enter Try.func37, Try.ntmps37
      go_wp2
      refine bodyPost_ret (v := .tuple #[.agg #[.slice As r.safe.length cs, .slice Ap np cp, .bool false, .int .i64 (-1), .int .i64 r.fails, .int .i64 (r.ops : Nat)], .int .i64 0]) (by simp [results, Try.results37, go_sem]) rfl ?_
      unfold Asked; rw [HR.out]
      exact ⟨by unfold rv; (try rw [HI.out]); first | rfl | rw [HD.out] | (rw [HD.out]; push_cast; rfl) | (push_cast; rfl), (by repeat' (first | exact Below.refl _ _ | assumption | with_reducible refine below_dn ?_ _ | with_reducible refine below_al ?_ _ | with_reducible refine Below.drew ?_ | (with_reducible refine below_sc ?_ ?_ _) | (simp; done) | (simp; omega)))⟩
    · have HI := Lib.hid (if_neg hn : (if n < -1 then (-1 : Int) else n) = n)
      go_enter Try.func37, Try.ntmps37
      go_wp2
      refine bodyPost_ret (v := .tuple #[.agg #[.slice As r.safe.length cs, .slice Ap np cp, .bool false, .int .i64 n, .int .i64 r.fails, .int .i64 (r.ops : Nat)], .int .i64 0]) (by simp [results, Try.results37, go_sem]) rfl ?_
      unfold Asked; rw [HR.out]
      exact ⟨by unfold rv; (try rw [HI.out]); first | rfl | rw [HD.out] | (rw [HD.out]; push_cast; rfl) | (push_cast; rfl), (by repeat' (first | exact Below.refl _ _ | assumption | with_reducible refine below_dn ?_ _ | with_reducible refine below_al ?_ _ | with_reducible refine Below.drew ?_ | (with_reducible refine below_sc ?_ ?_ _) | (simp; done) | (simp; omega)))⟩

theorem RD.fail_0 {r : RD} {n : Int} (hd : r.dead = true) : r.fail n = (r, 9) := by unfold RD.fail; rw [if_pos hd]
theorem RD.fail_1 {r : RD} {n : Int} (hd : r.dead = false) : r.fail n = ({ r with fails := if n < -1 then -1 else n }, 0) := by unfold RD.fail; rw [if_neg (by rw [hd]; decide)]

set_option maxHeartbeats 4000000 in
theorem rfail_any (As Ap : Option Addr) (cs np cp : Nat) (r : RD) (n : Int) (w : World) (i1 : -9223372036854775808 ≤ n) (i2 : n ≤ 9223372036854775807) :
    Calls Try.prog 38 #[rv (.slice As r.safe.length cs) (.slice Ap np cp) r, .int .i64 n] w (Asked w (.slice As r.safe.length cs) (.slice Ap np cp) (r.fail n)) := by
  unfold rv
  cases hd : r.dead
  case true =>
    have HR := Lib.hid (RD.fail_0 (n := n) hd)
    have HD := Lib.hid hd
    clear hd
    go_enter Try.func38, Try.ntmps38
    go_wp2
    refine bodyPost_ret (v := .tuple #[.agg #[.slice As r.safe.length cs, .slice Ap np cp, .bool true, .int .i64 r.left, .int .i64 r.fails, .int .i64 (r.ops : Nat)], .int .i64 9]) (by simp [results, Try.results38, go_sem]) rfl ?_
    unfold Asked; rw [HR.out]
    exact ⟨by unfold rv; first | rfl | rw [HD.out] | (rw [HD.out]; push_cast; rfl) | (push_cast; rfl), (by repeat' (first | exact Below.refl _ _ | assumption | with_reducible refine below_dn ?_ _ | with_reducible refine below_al ?_ _ | with_reducible refine Below.drew ?_ | (with_reducible refine below_sc ?_ ?_ _) | (simp; done) | (simp; omega)))⟩
  case false =>
    have HR := Lib.hid (RD.fail_1 (n := n) hd)
    have HD := Lib.hid hd
    clear hd
    by_cases hn : n < -1
    · have HI := Lib.hid (if_pos hn : (if n < -1 then (-1 : Int) else n) = -1)
      go_enter Try.func38, Try.ntmps38
      go_wp2
      refine bodyPost_ret (v := .tuple #[.agg #[.slice As r.safe.length cs, .slice Ap np cp, .bool false, .int .i64 r.left, .int .i64 (-1), .int .i64 (r.ops : Nat)], .int .i64 0]) (by simp [results, Try.results38, go_sem]) rfl ?_
      unfold Asked; rw [HR.out]
      exact ⟨by unfold rv; (try rw [HI.out]); first | rfl | rw [HD.out] | (rw [HD.out]; push_cast; rfl) | (push_cast; rfl), (by repeat' (first | exact Below.refl _ _ | assumption | with_reducible refine below_dn ?_ _ | with_reducible refine below_al ?_ _ | with_reducible refine Below.drew ?_ | (with_reducible refine below_sc ?_ ?_ _) | (simp; done) | (simp; omega)))⟩
    · have HI := Lib.hid (if_neg hn : (if n < -1 then (-1 : Int) else n) = n)
      go_enter Try.func38, Try.ntmps38
      go_wp2
      refine bodyPost_ret (v := .tuple #[.agg #[.slice As r.safe.length cs, .slice Ap np cp, .bool false, .int .i64 r.left, .int .i64 n, .int .i64 (r.ops : Nat)], .int .i64 0]) (by simp [results, Try.results38, go_sem]) rfl ?_
      unfold Asked; rw [HR.out]
      exact ⟨by unfold rv; (try rw [HI.out]); first | rfl | rw [HD.out] | (rw [HD.out]; push_cast; rfl) | (push_cast; rfl), (by repeat' (first | exact Below.refl _ _ | assumption | with_reducible refine below_dn ?_ _ | with_reducible refine below_al ?_ _ | with_reducible refine Below.drew ?_ | (with_reducible refine below_sc ?_ ?_ _) | (simp; done) | (simp; omega)))⟩

end Go.Proofs.Ythjlmkmijehnjaa
