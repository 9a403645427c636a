/- The reference's numbers and rows: heliographref01.Number and Both; rows of bytes laid in place. No condition beyond sizes. -/
import Derived.Test.YtjgobljclodpfaaOct4
namespace Go.Proofs.Ytjgobljclodpfaa
open Go.RowKit K L
set_option linter.unusedVariables false

/-- A row of bytes that the walk has just laid. -/
theorem lit_bs (w : World) (xs : List UInt8) (cs : Array Value) (hcs : cs.toList = bvs xs) (n : Nat) (hn : n = xs.length) (hm : xs.length ≤ 1000) :
    Bs (w.alloc (.cells cs 5)) (· < (w.alloc (.cells cs 5)).heap.size) (.slice (some ⟨w.heap.size, 0, none⟩) n n) xs := by
  subst hn
  have h := Sl.lit w (bvs xs) 5 1 xs.length (by simp [bvs]) (by simp [maxLen]; omega)
  rw [show (bvs xs).toArray = cs from by rw [← hcs]] at h
  exact Sl.imp_lt h (by decide)

theorem lit_bs2 (w : World) (xs ys : List UInt8) (cs ds : Array Value) (hcs : cs.toList = bvs xs) (hds : ds.toList = bvs ys) (n m : Nat) (hn : n = xs.length) (hm : m = ys.length) (hx : xs.length ≤ 1000) (hy : ys.length ≤ 1000) (g : Nat) (hg : g = w.heap.size) :
    Bs ((w.alloc (.cells cs 5)).alloc (.cells ds 5)) (fun _ => True) (.slice (some ⟨g, 0, none⟩) n n) xs ∧
    Bs ((w.alloc (.cells cs 5)).alloc (.cells ds 5)) (fun _ => True) (.slice (some ⟨g + 1, 0, none⟩) m m) ys := by
  subst hg
  refine ⟨((lit_bs w xs cs hcs n hn hx).below ((Below.refl _ _).alloc (Nat.le_refl _) _)).imp fun _ _ _ => trivial, ?_⟩
  have h := lit_bs (w.alloc (.cells cs 5)) ys ds hds m hm hy
  rw [World.size_alloc w] at h
  exact h.imp fun _ _ _ => trivial

set_option maxHeartbeats 400000 in
theorem refnum_any (v : Value) (xs : List UInt8) (w : World) (F : Nat → Prop) (h : Bs w F v xs) (hl : xs.length ≤ 8) :
    Calls Try.prog 57 #[v] w fun e w' => e = .returned (.int .u64 (num xs : Nat)) ∧ w = w' := by
  obtain ⟨A, c, rfl, l1, l2, -, hc⟩ := h.open_
  unfold maxLen at l2
  go_enter Try.func57, Try.ntmps57
  go_wp2
  go_loop [3, 4] (fun x i => ∃ k : Nat, k ≤ xs.length ∧ i = .int .i64 k ∧ x = .int .u64 (num (xs.take k) : Nat)) (fun _ i => xs.length - (intOf i).toNat)
  case atStart => exact ⟨0, Nat.zero_le _, rfl, rfl⟩
  case round =>
    obtain ⟨k, hk, rfl, rfl⟩ := hrel
    by_cases hlt : k < xs.length
    · obtain ⟨ad, rfl, -, -, hx⟩ := hc k hlt
      have hnl := num_lt (xs.take k)
      rw [List.length_take_of_le hk] at hnl
      have hp : 256 ^ k ≤ 256 ^ 7 := Nat.pow_le_pow_right (by decide) (by omega)
      have hq : num (xs.take k) < 72057594037927936 := Nat.lt_of_lt_of_le hnl (Nat.le_trans hp (by decide))
      have hsn := num_snoc (xs.take k) xs[k]
      rw [← take_snoc xs k hlt] at hsn
      generalize num (xs.take k) = q at *
      have HSN := Lib.hid hsn
      have hc8 : (xs[k].toNat : Int) ≤ 255 := by have := xs[k].toNat_lt; omega
      clear hc hnl hp hsn
      go_wp2
      refine ⟨⟨k + 1, by omega, by go_num, ?_⟩, by simp only [intOf]; omega⟩
      rw [HSN.out]
      go_num
    · go_wp2
      go_ret
      exact ⟨ret_int (by rw [List.take_of_length_le (by omega)]), rfl⟩

set_option maxHeartbeats 1000000 in
theorem both_any (v1 v2 : Value) (xs ys : List UInt8) (w : World) (F G : Nat → Prop) (h : Bs w F v1 xs) (g : Bs w G v2 ys) (hx : xs.length ≤ 100000000) (hy : ys.length ≤ 100000000) :
    Calls Try.prog 48 #[v1, v2] w fun e w' => ∃ v', e = .returned v' ∧ Ob w' w.heap.size 5 v' (xs ++ ys) ∧ Below w.heap.size w w' := by
  obtain ⟨i, hi, hz, hs, hb⟩ := info_parts Try.el8.info
  obtain ⟨A, c, rfl, l1, l2, -, -⟩ := h.open_
  obtain ⟨A', c', rfl, m1, m2, -, -⟩ := g.open_
  unfold maxLen at l2 m2
  go_enter Try.func48, Try.ntmps48
  go_wp2_with (at_make; go_must (refine wpList_make_own _ rfl _ _ 35 rfl w.heap.size 5 i _ 1 Try.el8.ut hi hz hs _ _ _ (xs.length + ys.length) rfl rfl (by omega) (by rw [hb]; omega) (by simp [maxLen]; omega) (Nat.le_refl _) ?_); intro w1 ho hg)
  go_loopw [5, 6] (fun s i wr => ∃ k : Nat, k ≤ xs.length ∧ i = .int .i64 k ∧ Ob wr w.heap.size 5 s (xs.take k) ∧ Below w.heap.size w wr) (fun _ i _ => xs.length - (intOf i).toNat)
  case atStart => exact ⟨0, Nat.zero_le _, rfl, ho, (Below.refl _ _).grown hg (Nat.le_refl _) (fun k hk => by cases hk)⟩
  case round =>
    obtain ⟨k, hk, rfl, ho, hB⟩ := hrel
    have hsz := hB.size
    by_cases hlt : k < xs.length
    · obtain ⟨ad, rfl, -, -, hx⟩ := (h.below hB).cell k hlt
      have hl : (xs.take k).length ≤ xs.length := by simp; omega
      go_wp2_with (at_builtin; go_must (refine app Try.el8 rfl _ _ rfl w.heap.size (World.ownsRow.alloc ho _) (Sl.lit _ [_] 5 1 1 rfl (by simp [maxLen])) rfl rfl (by simp [Value.oneCell']) (by omega) (by omega) (by simp; omega) ?_); intro v2 w2 ho2 hg2)
      refine ⟨⟨k + 1, by omega, by go_num, ?_, push_below hB ho hg2 (Nat.le_refl _)⟩, by simp only [intOf]; omega⟩
      rw [take_snoc _ _ hlt]
      exact Ob.push _ ho2 rfl
    · obtain rfl : k = xs.length := by omega
      rw [List.take_length] at ho
      go_wp2
      go_loopw [5, 7] (fun s i wr => ∃ k : Nat, k ≤ ys.length ∧ i = .int .i64 k ∧ Ob wr w.heap.size 5 s (xs ++ ys.take k) ∧ Below w.heap.size w wr) (fun _ i _ => ys.length - (intOf i).toNat)
      case atStart => exact ⟨0, Nat.zero_le _, rfl, by simpa using ho, hB⟩
      case round =>
        clear ho hB hsz
        obtain ⟨k, hk, rfl, ho, hB⟩ := hrel
        have hsz := hB.size
        by_cases hlt : k < ys.length
        · obtain ⟨ad, rfl, -, -, hx⟩ := (g.below hB).cell k hlt
          have hl : (xs ++ ys.take k).length ≤ xs.length + ys.length := by simp; omega
          go_wp2_with (at_builtin; go_must (refine app Try.el8 rfl _ _ rfl w.heap.size (World.ownsRow.alloc ho _) (Sl.lit _ [_] 5 1 1 rfl (by simp [maxLen])) rfl rfl (by simp [Value.oneCell']) (by omega) (by omega) (by simp; omega) ?_); intro v2 w2 ho2 hg2)
          refine ⟨⟨k + 1, by omega, by go_num, ?_, push_below hB ho hg2 (Nat.le_refl _)⟩, by simp only [intOf]; omega⟩
          rw [take_snoc _ _ hlt, ← List.append_assoc]
          exact Ob.push _ ho2 rfl
        · obtain rfl : k = ys.length := by omega
          rw [List.take_length] at ho
          go_wp2
          go_ret
          exact ⟨_, rfl, ho, hB⟩

end Go.Proofs.Ytjgobljclodpfaa
