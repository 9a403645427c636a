/- The reader of bytes: octet.Read and its methods, for whatever bytes and asks; and of a reader that is not there. No condition beyond sizes. -/
import Derived.Test.YtjgobljclodpfaaOct2
import Derived.RegionTactic
namespace Go.Proofs.Ytjgobljclodpfaa
open Go.RowKit K L
set_option linter.unusedVariables false

/-- A reader: the bytes, where it is, its error. -/
structure Rs where
  xs : List UInt8
  pos : Nat
  err : Int

/-- The next n bytes; none, if that is refused. -/
def Rs.take (r : Rs) (n : Int) : Rs × List UInt8 :=
  if r.err ≠ 0 then (r, [])
  else if n < 0 then ({ r with err := 2 }, [])
  else if (r.xs.length : Int) - r.pos < n then ({ r with err := 7 }, [])
  else ({ r with pos := r.pos + n.toNat }, (r.xs.drop r.pos).take n.toNat)

/-- Block b is the reader r. -/
def IsR (w : World) (b : Nat) (r : Rs) : Prop :=
  r.pos ≤ r.xs.length ∧ r.xs.length ≤ 1000000000 ∧ (0 ≤ r.err ∧ r.err ≤ 1000) ∧ ∃ v, w.heap[b]? = some (.cells #[v, .int .i64 (r.pos : Nat), .int .i64 r.err] 99 (0, 0)) ∧ Bs w (· < b) v r.xs

theorem IsR.keep {w w' : World} {b : Nat} {r : Rs} (h : IsR w b r) (hb : ∀ k, k ≤ b → w'.heap[k]? = w.heap[k]?) : IsR w' b r := by
  obtain ⟨h1, h2, h3, v, h4, h5⟩ := h
  exact ⟨h1, h2, h3, v, (hb b (Nat.le_refl _)).trans h4, Sl.keep h5 (by omega) fun k _ hk => hb k (Nat.le_of_lt hk)⟩

theorem IsR.lt {w : World} {b : Nat} {r : Rs} (h : IsR w b r) : b < w.heap.size := by
  obtain ⟨_, _, _, v, h4, _⟩ := h
  exact (Array.getElem?_eq_some_iff.1 h4).1

theorem IsR.below {w w' : World} {b : Nat} {r : Rs} (h : IsR w b r) (hb : Below w.heap.size w w') : IsR w' b r :=
  h.keep fun k hk => hb.block k (by have := h.lt; omega)

theorem cell_of {w : World} {b : Nat} {cs : Array Value} {e : TypeId} (h : w.heap[b]? = some (.cells cs e (0, 0))) (j : Nat) : w.cell? ⟨b, j, none⟩ = cs[j]? := by
  simp [World.cell?, h]
theorem frozen_of {w : World} {b : Nat} {cs : Array Value} {e : TypeId} (h : w.heap[b]? = some (.cells cs e (0, 0))) (j : Nat) : w.frozen? ⟨b, j, none⟩ = false := by
  simp [World.frozen?, h]

theorem IsR.set {w : World} {b : Nat} {r : Rs} {v : Value} (j : Nat) (u : Value) (h4 : w.heap[b]? = some (.cells #[v, .int .i64 (r.pos : Nat), .int .i64 r.err] 99 (0, 0))) (h5 : Bs w (· < b) v r.xs)
    (r' : Rs) (hx : r'.xs = r.xs) (hj : #[v, .int .i64 (r.pos : Nat), .int .i64 r.err].setIfInBounds j u = #[v, .int .i64 (r'.pos : Nat), .int .i64 r'.err]) (hp : r'.pos ≤ r'.xs.length) (hl : r'.xs.length ≤ 1000000000) (he : 0 ≤ r'.err ∧ r'.err ≤ 1000) (n : Nat) :
    IsR ((w.setCell ⟨b, j, none⟩ u).drewN n) b r' ∧ Bs ((w.setCell ⟨b, j, none⟩ u).drewN n) (· < b) v r'.xs ∧ w.grownBy ((w.setCell ⟨b, j, none⟩ u).drewN n) (some b) := by
  have hB : Bs ((w.setCell ⟨b, j, none⟩ u).drewN n) (· < b) v r'.xs := by
    rw [hx]
    exact Sl.keep h5 (by omega) fun k _ hk => heap_setCell_other w ⟨b, j, none⟩ k u (by simp; omega)
  refine ⟨⟨hp, hl, he, v, ?_, hB⟩, hB, ⟨rfl, rfl, rfl, by simp, fun k _ hk => heap_setCell_other w ⟨b, j, none⟩ k u (fun e => hk (by simp [e]))⟩⟩
  have := heap_setCell_same w b j _ _ u h4
  rw [hj] at this
  exact this

theorem grown_drewN (w : World) (n : Nat) (row : Option Nat) : w.grownBy (w.drewN n) row := ⟨rfl, rfl, rfl, Nat.le_refl _, fun _ _ _ => rfl⟩

theorem grown_of_drewN {w w' : World} {n : Nat} {row : Option Nat} (h : (w.drewN n).grownBy w' row) : w.grownBy w' row := ⟨h.os, h.tape, h.output, h.size, h.block⟩

set_option maxHeartbeats 1000000 in
theorem take_any (b : Nat) (r : Rs) (n : Int) (w : World) (h : IsR w b r) (hn : -9223372036854775808 ≤ n ∧ n ≤ 9223372036854775807) :
    Calls Try.prog 73 #[.pointer (some ⟨b, 0, none⟩), .int .i64 n] w fun e w' => ∃ v', e = .returned v' ∧ Bs w' (· < b) v' (r.take n).2 ∧ IsR w' b (r.take n).1 ∧ w.grownBy w' (some b) := by
  obtain ⟨xs, at_, err⟩ := r
  have hR := h
  obtain ⟨h1, h2, h3, v, h4, h5⟩ := h
  dsimp only at h1 h2 h3 h4 h5
  have c0 := cell_of h4 0
  have c1 := cell_of h4 1
  have c2 := cell_of h4 2
  have f1 := frozen_of h4 1
  have f2 := frozen_of h4 2
  simp at c0 c1 c2
  obtain ⟨A, c, rfl, l1, l2, l3, -⟩ := h5.open_
  have H4 := Lib.hid h4
  clear h4
  unfold maxLen at l2
  by_cases he : err = 0
  · subst he
    by_cases hn0 : n < 0
    · have ht : Rs.take ⟨xs, at_, 0⟩ n = (⟨xs, at_, 2⟩, []) := by simp [Rs.take, hn0]
      rw [ht]
      go_enter Try.func73, Try.ntmps73
      go_wp2
      go_ret
      have := IsR.set (r := ⟨xs, at_, 0⟩) 2 (.int .i64 2) H4.out h5 ⟨xs, at_, 2⟩ rfl rfl h1 h2 (by simp) 0
      exact ⟨.slice none 0 0, rfl, Sl.nil _ _ _, this.1, this.2.2⟩
    · by_cases hn1 : (xs.length : Int) - at_ < n
      · have ht : Rs.take ⟨xs, at_, 0⟩ n = (⟨xs, at_, 7⟩, []) := by simp [Rs.take, hn0, hn1]
        rw [ht]
        go_enter Try.func73, Try.ntmps73
        go_wp2
        go_quiet (fail)
        go_wp2
        go_ret
        have := IsR.set (w := w.drewN nq) (r := ⟨xs, at_, 0⟩) 2 (.int .i64 7) H4.out h5 ⟨xs, at_, 7⟩ rfl rfl h1 h2 (by simp) 0
        exact ⟨.slice none 0 0, rfl, Sl.nil _ _ _, this.1, grown_of_drewN this.2.2⟩
      · obtain ⟨m, rfl⟩ := Int.eq_ofNat_of_zero_le (Int.not_lt.1 hn0)
        have hm : at_ + m ≤ xs.length := by omega
        have ht : Rs.take ⟨xs, at_, 0⟩ m = (⟨xs, at_ + m, 0⟩, (xs.drop at_).take m) := by simp [Rs.take, hn1]
        rw [ht]
        by_cases hcc : c = at_
        · subst hcc
          obtain rfl : m = 0 := by omega
          go_enter Try.func73, Try.ntmps73
          go_wp2
          go_quiet (fail)
          go_wp2
          generalize nq = p1 at *
          go_quiet (fail)
          go_wp2
          go_ret
          obtain ⟨q1, q2, q3⟩ := IsR.set (w := w.drewN p1) (r := ⟨xs, c, 0⟩) 1 (.int .i64 ((c : Int) + (0 : Nat))) H4.out h5 ⟨xs, c + 0, 0⟩ rfl (by simp) (by simpa using hm) h2 (by simp) nq
          have q4 := Bs.sub q2 c 0 hm
          rw [if_pos rfl] at q4
          exact ⟨_, rfl, by simpa using q4, by simpa using q1, grown_of_drewN (by simpa using q3)⟩
        · go_enter Try.func73, Try.ntmps73
          go_wp2
          go_quiet (fail)
          go_wp2
          generalize nq = p1 at *
          go_quiet (fail)
          go_wp2
          go_ret
          obtain ⟨q1, q2, q3⟩ := IsR.set (w := w.drewN p1) (r := ⟨xs, at_, 0⟩) 1 (.int .i64 ((at_ : Int) + m)) H4.out h5 ⟨xs, at_ + m, 0⟩ rfl (by simp) (by simpa using hm) h2 (by simp) nq
          have q4 := Bs.sub q2 at_ m hm
          rw [if_neg hcc] at q4
          exact ⟨.slice _ (at_ + m - at_) (c - at_), rfl, by rw [Nat.add_sub_cancel_left]; exact q4, q1, grown_of_drewN q3⟩
  · have he' : (err != 0) = true := by simpa using he
    have ht : Rs.take ⟨xs, at_, err⟩ n = (⟨xs, at_, err⟩, []) := by simp [Rs.take, he]
    rw [ht]
    go_enter Try.func73, Try.ntmps73
    go_wp2
    go_ret
    exact ⟨.slice none 0 0, rfl, Sl.nil _ _ _, hR, grown_drewN _ 0 _⟩

theorem grown_trans {a b c : World} {row : Option Nat} (h : a.grownBy b row) (k : b.grownBy c row) : a.grownBy c row :=
  ⟨k.os.trans h.os, k.tape.trans h.tape, k.output.trans h.output, Nat.le_trans h.size k.size, fun j hj hn => (k.block j (Nat.lt_of_lt_of_le hj h.size) hn).trans (h.block j hj hn)⟩
theorem grown_below {a b : World} {row : Option Nat} (h : Below a.heap.size a b) : a.grownBy b row := ⟨h.os, h.tape, h.output, h.size, fun j hj _ => h.block j hj⟩

theorem Rs.take_len (r : Rs) (n : Int) (h : r.xs.length ≤ 1000000000) : (r.take n).2.length ≤ 1000000000 := by
  unfold Rs.take
  split
  · simp
  · split
    · simp
    · split
      · simp
      · simp; omega

theorem Rs.take_at (r : Rs) (n : Nat) : (r.take n).2.length ≤ n := by
  unfold Rs.take
  split
  · simp
  · split
    · simp
    · split
      · simp
      · simp; omega
theorem Rs.num_lt (r : Rs) (n : Nat) : num (r.take n).2 < 256 ^ n := Nat.lt_of_lt_of_le (L.num_lt _) (Nat.pow_le_pow_right (by decide) (r.take_at n))

set_option maxHeartbeats 1000000 in
/-- Raw: the bytes in memory of their own. -/
theorem raw_any (b : Nat) (r : Rs) (n : Int) (w : World) (h : IsR w b r) (hn : -9223372036854775808 ≤ n ∧ n ≤ 9223372036854775807) :
    Calls Try.prog 69 #[.pointer (some ⟨b, 0, none⟩), .int .i64 n] w fun e w' => ∃ v', e = .returned v' ∧ Ob w' w.heap.size 5 v' (r.take n).2 ∧ IsR w' b (r.take n).1 ∧ w.grownBy w' (some b) := by
  have hl := Rs.take_len r n h.2.1
  go_enter Try.func69, Try.ntmps69
  go_wp2_with fail
  refine (take_any b r n w h hn).mono ?_
  rintro e w1 ⟨v1, rfl, hb1, hR1, hg1⟩
  go_wp2_with fail
  refine (clone_any v1 (r.take n).2 w1 _ hb1 (by omega)).mono ?_
  rintro e w2 ⟨v2, rfl, ho, hB⟩
  go_wp2
  go_ret
  exact ⟨_, rfl, ho.low hg1.size, hR1.below hB, grown_trans hg1 (grown_below hB)⟩

theorem raw_nil (n : Int) (w : World) : Calls Try.prog 69 #[.pointer none, .int .i64 n] w fun e w' => e = .returned (.slice none 0 0) ∧ w = w' := by
  go_enter Try.func69, Try.ntmps69
  go_wp2
  go_ret
  exact ⟨rfl, rfl⟩

set_option maxHeartbeats 1000000 in
theorem number_any (b : Nat) (r : Rs) (n : Nat) (w : World) (h : IsR w b r) (hn : n ≤ 8) :
    Calls Try.prog 68 #[.pointer (some ⟨b, 0, none⟩), .int .i64 n] w fun e w' => e = .returned (.int .u64 (num (r.take n).2 : Nat)) ∧ IsR w' b (r.take n).1 ∧ w.grownBy w' (some b) := by
  have hl : (r.take n).2.length ≤ 8 := by
    unfold Rs.take
    split
    · simp
    · split
      · simp
      · split
        · simp
        · simp; omega
  have hraw := raw_any b r n w h (by omega)
  generalize r.take n = p at *
  obtain ⟨r', xs⟩ := p
  have HRAW := Lib.hid hraw
  clear hraw
  dsimp only at hl ⊢
  go_enter Try.func68, Try.ntmps68
  go_wp2_with fail
  refine HRAW.out.mono ?_
  rintro e w1 ⟨v1, rfl, ho, hR, hg⟩
  have hbs := ho.bs
  obtain ⟨A, c, rfl, l1, l2, -, hc⟩ := hbs.open_
  unfold maxLen at l2
  go_wp2
  go_loop [5, 12] (fun x i => ∃ k : Nat, k ≤ xs.length ∧ i = .int .i64 k ∧ x = .int .u64 (num (xs.take k) : Nat)) (fun _ i => xs.length - (intOf i).toNat)
  case atStart => exact ⟨0, Nat.zero_le _, rfl, rfl⟩
  case round =>
    obtain ⟨k, hk, rfl, rfl⟩ := hrel
    by_cases hlt : k < xs.length
    · obtain ⟨ad, rfl, -, -, hx⟩ := hc k hlt
      have hnl := num_lt (xs.take k)
      rw [List.length_take_of_le hk] at hnl
      have hp : 256 ^ k ≤ 256 ^ 7 := Nat.pow_le_pow_right (by decide) (by omega)
      have hq : num (xs.take k) < 72057594037927936 := Nat.lt_of_lt_of_le hnl (Nat.le_trans hp (by decide))
      have hsn := num_snoc (xs.take k) xs[k]
      rw [← take_snoc xs k hlt] at hsn
      generalize num (xs.take k) = q at *
      have HSN := Lib.hid hsn
      have hc8 : (xs[k].toNat : Int) ≤ 255 := by have := xs[k].toNat_lt; omega
      clear hc hnl hp hsn
      go_wp2
      refine ⟨⟨k + 1, by omega, by go_num, ?_⟩, by simp only [intOf]; omega⟩
      rw [HSN.out, or_u64 q _ hq]
    · go_wp2
      go_ret
      exact ⟨ret_int (by rw [List.take_of_length_le (by omega)]), hR, hg⟩

theorem number_nil (n : Int) (w : World) : Calls Try.prog 68 #[.pointer none, .int .i64 n] w fun e w' => e = .returned (.int .u64 0) ∧ w = w' := by
  go_enter Try.func68, Try.ntmps68
  go_wp2_with (go_at_call 69; refine (raw_nil _ _).mono ?_; rintro e w1 ⟨rfl, rfl⟩)
  refine wp_loop_rounds 1 ?_
  rw [rounds_succ]
  go_wp2
  go_ret
  exact ⟨rfl, rfl⟩

end Go.Proofs.Ytjgobljclodpfaa
