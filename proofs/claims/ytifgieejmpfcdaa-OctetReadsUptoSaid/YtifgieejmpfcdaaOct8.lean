/- Layer 1's statements: the walk of OctetBack. No condition beyond sizes. -/
import Derived.Test.YtifgieejmpfcdaaOct7
namespace Go.Proofs.Ytifgieejmpfcdaa
open Go.RowKit K L
set_option linter.unusedVariables false

/-- How many bytes the number at place i takes. -/
def wd (i : Nat) : Nat := if i % 3 = 0 then 8 else if i % 3 = 1 then 4 else 2
/-- The numbers' bytes, from place i on. -/
def puts : List Nat → Nat → List UInt8
  | [], _ => []
  | x :: r, i => be x (wd i) ++ puts r (i + 1)

theorem puts_snoc (x : Nat) : ∀ (l : List Nat) (i : Nat), puts (l ++ [x]) i = puts l i ++ be x (wd (i + l.length))
  | [], i => by simp [puts]
  | y :: l, i => by
    rw [List.cons_append, puts, puts_snoc x l (i + 1), puts, List.append_assoc, List.length_cons]
    congr 3
    rw [show i + 1 + l.length = i + (l.length + 1) from by omega]

theorem puts_len : ∀ (l : List Nat) (i : Nat), (puts l i).length ≤ 8 * l.length
  | [], i => by simp [puts]
  | y :: l, i => by
    have := puts_len l (i + 1)
    have hw : wd i ≤ 8 := by unfold wd; split <;> (try split) <;> decide
    simp only [puts, List.length_append, be_len, List.length_cons]
    omega

theorem puts_split (l m : List Nat) (i : Nat) : puts (l ++ m) i = puts l i ++ puts m (i + l.length) := by
  induction l generalizing i with
  | nil => simp [puts]
  | cons y l ih => rw [List.cons_append, puts, ih, puts, List.append_assoc, List.length_cons, show i + 1 + l.length = i + (l.length + 1) from by omega]

/-- What is read at place k. -/
theorem puts_at (l : List Nat) (tail : List UInt8) (k : Nat) (hk : k < l.length) :
    ((puts l 0 ++ tail).drop (puts (l.take k) 0).length).take (wd k) = be l[k] (wd k) := by
  have e : l = l.take k ++ (l[k] :: l.drop (k + 1)) := by rw [List.getElem_cons_drop, List.take_append_drop]
  have e2 : puts l 0 = puts (l.take k) 0 ++ (be l[k] (wd k) ++ puts (l.drop (k + 1)) (k + 1)) := by
    conv => lhs; rw [e]
    rw [puts_split, puts]
    simp [Nat.min_eq_left (Nat.le_of_lt hk)]
  rw [e2, List.append_assoc, List.drop_left, List.append_assoc]
  have hl : (be l[k] (wd k)).length = wd k := be_len _ _
  conv => lhs; arg 1; rw [← hl]
  rw [List.take_left]

theorem puts_next (l : List Nat) (k : Nat) (hk : k < l.length) : (puts (l.take (k + 1)) 0).length = (puts (l.take k) 0).length + wd k := by
  rw [take_snoc l k hk, puts_snoc, List.length_append, be_len]
  simp [Nat.min_eq_left (Nat.le_of_lt hk)]

theorem Rs.take_ok (xs : List UInt8) (pos n : Nat) (h : pos + n ≤ xs.length) : Rs.take ⟨xs, pos, 0⟩ (n : Int) = (⟨xs, pos + n, 0⟩, (xs.drop pos).take n) := by
  have h1 : ¬ ((n : Int) < 0) := by omega
  have h2 : ¬ ((xs.length : Int) - pos < n) := by omega
  unfold Rs.take
  rw [if_neg (by simp), if_neg h1, if_neg h2]
  simp

/-- Numbers of 64 bits in a slice. -/
def nvs (l : List Nat) : List Value := l.map fun x => .int .u64 (x : Nat)

set_option maxHeartbeats 1000000 in
theorem back_walk (v0 v1 : Value) (l : List Nat) (tail : List UInt8) (w : World) (h : Sl w (· < w.heap.size) 1 v0 l.length (nvs l)) (hl : ∀ x ∈ l, x < 18446744073709551616) (g : Bs w (· < w.heap.size) v1 tail) (hb : l.length ≤ 1048576) (ht : tail.length ≤ 1048576) :
    Calls Try.prog 8 #[v0, v1] w fun e w' => e = .returned (.bool true) ∧ Below w.heap.size w w' := by
  have hs := h
  obtain ⟨-, A, c, rfl, l1, l2, -, -⟩ := h
  obtain ⟨A1, c1, rfl, m1, m2, -, -⟩ := g.open_
  unfold maxLen at l2 m2
  go_enter Try.func8, Try.ntmps8
  go_wp2_with fail
  refine (wakes_any w).mono ?_
  rintro e w1 ⟨rfl, hB1⟩
  go_wp2
  go_loopw [5, 15] (fun s i wr => ∃ k : Nat, k ≤ l.length ∧ i = .int .i64 k ∧ Ob wr w.heap.size 5 s (puts (l.take k) 0) ∧ Below w.heap.size w wr) (fun _ i _ => l.length - (intOf i).toNat)
  case atStart => exact ⟨0, Nat.zero_le _, rfl, Ob.nil _ _ _, hB1⟩
  case round =>
    obtain ⟨k, hk, rfl, ho, hB⟩ := hrel
    have hsz := hB.size
    by_cases hlt : k < l.length
    · obtain ⟨-, A', c', e', -, -, -, hat⟩ := hs.below (by decide) hB
      cases e'
      obtain ⟨ad, rfl, -, hat⟩ := hat (by omega)
      have hx : wr.cell? (ad.add k) = some (.int .u64 (l[k] : Nat)) := hat k _ (by simp [nvs, hlt])
      have hxl : (l[k] : Int) ≤ 18446744073709551615 := by have := hl l[k] (List.getElem_mem hlt); omega
      have hxl0 : l[k] < 18446744073709551616 := hl l[k] (List.getElem_mem hlt)
      have hpl := puts_len (l.take k) 0
      have hpl2 : (l.take k).length ≤ l.length := by simp; omega
      have h3 : k % 3 = 0 ∨ k % 3 = 1 ∨ k % 3 = 2 := by omega
      clear hat
      rcases h3 with h3 | h3 | h3
      · have hw : wd k = 8 := by simp [wd, h3]
        have t0 : (((k : Nat) : Int) % 3 == 0) = true := by rw [beq_iff_eq]; omega
        have H3 := Lib.hid hw
        clear h3 hw
        go_wp2_with fail
        refine (put64_any _ _ l[k] _ _ ho.bs (by omega) (by omega)).mono ?_
        rintro e w2 ⟨v2, rfl, o2, hB2⟩
        go_wp2
        refine ⟨⟨k + 1, by omega, by go_num, ?_, below_tr hB hB2⟩, by simp only [intOf]; omega⟩
        rw [take_snoc l k hlt, puts_snoc, Nat.zero_add, List.length_take_of_le hk, H3.out]
        exact o2.low hsz
      · have hw : wd k = 4 := by simp [wd, h3]
        have t0 : (((k : Nat) : Int) % 3 == 0) = false := by rw [beq_eq_false_iff_ne]; omega
        have t1 : (((k : Nat) : Int) % 3 == 1) = true := by rw [beq_iff_eq]; omega
        have H3 := Lib.hid hw
        clear h3 hw
        go_wp2_with fail
        rw [wrap32']
        refine (put32_any _ _ (l[k] % 4294967296) _ _ ho.bs (by omega) (by omega)).mono ?_
        rintro e w2 ⟨v2, rfl, o2, hB2⟩
        rw [show be (l[k] % 4294967296) 4 = be l[k] 4 from be_mod 4 _] at o2
        go_wp2
        refine ⟨⟨k + 1, by omega, by go_num, ?_, below_tr hB hB2⟩, by simp only [intOf]; omega⟩
        rw [take_snoc l k hlt, puts_snoc, Nat.zero_add, List.length_take_of_le hk, H3.out]
        exact o2.low hsz
      · have hw : wd k = 2 := by simp [wd, h3]
        have t0 : (((k : Nat) : Int) % 3 == 0) = false := by rw [beq_eq_false_iff_ne]; omega
        have t1 : (((k : Nat) : Int) % 3 == 1) = false := by rw [beq_eq_false_iff_ne]; omega
        have H3 := Lib.hid hw
        clear h3 hw
        go_wp2_with fail
        rw [wrap16]
        refine (put16_any _ _ (l[k] % 65536) _ _ ho.bs (by omega) (by omega)).mono ?_
        rintro e w2 ⟨v2, rfl, o2, hB2⟩
        rw [show be (l[k] % 65536) 2 = be l[k] 2 from be_mod 2 _] at o2
        go_wp2
        refine ⟨⟨k + 1, by omega, by go_num, ?_, below_tr hB hB2⟩, by simp only [intOf]; omega⟩
        rw [take_snoc l k hlt, puts_snoc, Nat.zero_add, List.length_take_of_le hk, H3.out]
        exact o2.low hsz
    · obtain rfl : k = l.length := by omega
      rw [List.take_length] at ho
      have hpl := puts_len l 0
      go_wp2_with (at_builtin; go_must (refine app Try.el8 rfl _ _ rfl w.heap.size ho (Sl.below g (by decide) hB) rfl rfl (one_bvs tail) (by omega) (by omega) hsz ?_); intro v2 w2 ho2 hg2)
      have hB2 : Below w.heap.size w w2 := own_below hB ho hg2 (Nat.le_refl _)
      have o2 : Ob w2 w.heap.size 5 v2 (puts l 0 ++ tail) := Ob.more ho2 rfl
      refine (read_any _ _ _ _ o2.bs (by simp; omega)).mono ?_
      rintro e w3 ⟨b, rfl, hbl, hR, hB3⟩
      have hB3 : Below w.heap.size w w3 := below_tr hB2 hB3
      replace hbl := Nat.le_trans hB2.size hbl
      clear ho hB hsz ho2 hg2 hB2 o2
      go_wp2
      go_loopw [44] (fun i wr => ∃ k : Nat, k ≤ l.length ∧ i = .int .i64 k ∧ IsR wr b ⟨puts l 0 ++ tail, (puts (l.take k) 0).length, 0⟩ ∧ Below w.heap.size w wr) (fun i _ => l.length - (intOf i).toNat)
      case atStart => exact ⟨0, Nat.zero_le _, rfl, hR, hB3⟩
      case round =>
        clear hR hB3
        obtain ⟨k, hk, rfl, hR, hB⟩ := hrel
        have hsz := hB.size
        by_cases hlt : k < l.length
        · obtain ⟨-, A', c', e', -, -, -, hat⟩ := hs.below (by decide) hB
          cases e'
          obtain ⟨ad, rfl, -, hat⟩ := hat (by omega)
          have hx : wr.cell? (ad.add k) = some (.int .u64 (l[k] : Nat)) := hat k _ (by simp [nvs, hlt])
          have hxl : (l[k] : Int) ≤ 18446744073709551615 := by have := hl l[k] (List.getElem_mem hlt); omega
          have hxl0 : l[k] < 18446744073709551616 := hl l[k] (List.getElem_mem hlt)
          have hat2 := puts_at l tail k hlt
          have hnx := puts_next l k hlt
          have hfit : (puts (l.take k) 0).length + wd k ≤ (puts l 0 ++ tail).length := by
            rw [← hnx, List.length_append]
            have := puts_split (l.take (k + 1)) (l.drop (k + 1)) 0
            rw [List.take_append_drop] at this
            rw [this, List.length_append]; omega
          have h3 : k % 3 = 0 ∨ k % 3 = 1 ∨ k % 3 = 2 := by omega
          clear hat
          rcases h3 with h3 | h3 | h3
          · have hw : wd k = 8 := by simp [wd, h3]
            have t0 : (((k : Nat) : Int) % 3 == 0) = true := by rw [beq_iff_eq]; omega
            rw [hw] at hat2 hnx hfit
            have hv : (num (be l[k] 8) : Int) = (l[k] : Int) := by rw [num_be, Nat.mod_eq_of_lt (by simpa using hxl0)]
            have htk := Rs.take_ok (puts l 0 ++ tail) (puts (l.take k) 0).length 8 hfit
            rw [hat2] at htk
            have hcon := u64_any b ⟨puts l 0 ++ tail, (puts (l.take k) 0).length, 0⟩ wr hR
            rw [show ((8 : Int)) = ((8 : Nat) : Int) from rfl, htk] at hcon
            dsimp only at hcon
            rw [hv] at hcon
            have HC := Lib.hid hcon
            have HN := Lib.hid hnx
            clear h3 hw hv htk hcon hat2 hnx hfit
            go_wp2_with (go_at_call 19; refine HC.out.mono ?_; rintro e w2 ⟨rfl, hR2, hg2⟩)
            refine ⟨⟨k + 1, by omega, by go_num, ?_, below_gr hB hg2 hbl⟩, by simp only [intOf]; omega⟩
            rw [HN.out]
            exact hR2
          · have hw : wd k = 4 := by simp [wd, h3]
            have t0 : (((k : Nat) : Int) % 3 == 0) = false := by rw [beq_eq_false_iff_ne]; omega
            have t1 : (((k : Nat) : Int) % 3 == 1) = true := by rw [beq_iff_eq]; omega
            rw [hw] at hat2 hnx hfit
            have hv : (num (be l[k] 4) : Int) = (l[k] : Int) % 4294967296 := by rw [num_be]; simp
            have htk := Rs.take_ok (puts l 0 ++ tail) (puts (l.take k) 0).length 4 hfit
            rw [hat2] at htk
            have hcon := u32_any b ⟨puts l 0 ++ tail, (puts (l.take k) 0).length, 0⟩ wr hR
            rw [show ((4 : Int)) = ((4 : Nat) : Int) from rfl, htk] at hcon
            dsimp only at hcon
            rw [hv] at hcon
            have HC := Lib.hid hcon
            have HN := Lib.hid hnx
            clear h3 hw hv htk hcon hat2 hnx hfit
            go_wp2_with (go_at_call 18; refine HC.out.mono ?_; rintro e w2 ⟨rfl, hR2, hg2⟩)
            refine ⟨⟨k + 1, by omega, by go_num, ?_, below_gr hB hg2 hbl⟩, by simp only [intOf]; omega⟩
            rw [HN.out]
            exact hR2
          · have hw : wd k = 2 := by simp [wd, h3]
            have t0 : (((k : Nat) : Int) % 3 == 0) = false := by rw [beq_eq_false_iff_ne]; omega
            have t1 : (((k : Nat) : Int) % 3 == 1) = false := by rw [beq_eq_false_iff_ne]; omega
            rw [hw] at hat2 hnx hfit
            have hv : (num (be l[k] 2) : Int) = IntKind.u16.wrap (l[k] : Int) := by rw [num_be, wrap16]
            have htk := Rs.take_ok (puts l 0 ++ tail) (puts (l.take k) 0).length 2 hfit
            rw [hat2] at htk
            have hcon := u16_any b ⟨puts l 0 ++ tail, (puts (l.take k) 0).length, 0⟩ wr hR
            rw [show ((2 : Int)) = ((2 : Nat) : Int) from rfl, htk] at hcon
            dsimp only at hcon
            rw [hv] at hcon
            have HC := Lib.hid hcon
            have HN := Lib.hid hnx
            clear h3 hw hv htk hcon hat2 hnx hfit
            go_wp2_with (go_at_call 17; refine HC.out.mono ?_; rintro e w2 ⟨rfl, hR2, hg2⟩)
            refine ⟨⟨k + 1, by omega, by go_num, ?_, below_gr hB hg2 hbl⟩, by simp only [intOf]; omega⟩
            rw [HN.out]
            exact hR2
        · obtain rfl : k = l.length := by omega
          rw [List.take_length] at hR
          have htk := Rs.take_ok (puts l 0 ++ tail) (puts l 0).length tail.length (by simp)
          rw [List.drop_left, List.take_length] at htk
          have hraw := raw_any b ⟨puts l 0 ++ tail, (puts l 0).length, 0⟩ (tail.length : Nat) wr hR (by omega)
          rw [htk] at hraw
          have HRAW := Lib.hid hraw
          clear hraw htk
          go_wp2_with fail
          refine HRAW.out.mono ?_
          rintro e w4 ⟨v4, rfl, o4, hR4, hg4⟩
          have hB4 : Below w.heap.size w w4 := below_gr hB hg4 hbl
          go_wp2_with fail
          refine (eq_any _ _ tail tail _ _ _ o4.bs (g.below hB4)).mono ?_
          rintro e w5 ⟨rfl, n5, rfl⟩
          rw [beq_self_eq_true]
          have hR5 : IsR (w4.drewN n5) b ⟨puts l 0 ++ tail, (puts l 0).length + tail.length, 0⟩ := hR4.below (below_dn (Below.refl _ _) _)
          go_wp2_with fail
          refine (left_any b _ _ hR5).mono ?_
          rintro e w6 ⟨rfl, n6, rfl⟩
          dsimp only
          rw [show ((puts l 0 ++ tail).length : Int) - ((puts l 0).length + tail.length : Nat) = 0 from by simp]
          go_wp2_with fail
          refine (err_any b _ _ (hR4.below (below_dn (Below.refl _ _) _))).mono ?_
          rintro e w7 ⟨rfl, rfl⟩
          go_wp2
          go_ret
          exact ⟨rfl, below_dn hB4 _⟩

end Go.Proofs.Ytifgieejmpfcdaa
