/- The makers of bytes: slices.Clone at bytes, octet.put, heliographref01.High and Both: what they give stands in memory of the call's own. -/
import Derived.Test.YtjgobljclodpfaaOct1
namespace Go.Proofs.Ytjgobljclodpfaa
open Go.RowKit K L
set_option linter.unusedVariables false

theorem Try.el8 : Elem Try.prog 35 5 1 1 (.int .u8 0) := ⟨Try.underlying35, by kernel_rfl, rfl, by decide⟩

set_option maxHeartbeats 400000 in
theorem clone_any (v : Value) (xs : List UInt8) (w : World) (F : Nat → Prop) (h : Bs w F v xs) (hb : xs.length ≤ 1073741824) :
    Calls Try.prog 40 #[v] w fun e w' => ∃ v', e = .returned v' ∧ Ob w' w.heap.size 5 v' xs ∧ Below w.heap.size w w' := by
  have hs := h
  obtain ⟨A, c, rfl, h1, h2, h3, -⟩ := h.open_
  have hq := fun w n c => Lib.run_eql_slice_nil (P := Try.prog) w 35 5 A n c 0 0 Try.underlying35
  cases A with
  | none =>
    obtain rfl : c = 0 := h3 rfl
    obtain rfl : xs = [] := List.eq_nil_of_length_eq_zero (by omega)
    go_enter Try.func40, Try.ntmps40
    go_wp2
    go_ret
    exact ⟨_, rfl, Ob.nil _ _ _, Below.refl _ _⟩
  | some ad =>
    go_enter Try.func40, Try.ntmps40
    go_wp2_with (at_builtin; refine app Try.el8 rfl _ _ rfl w.heap.size (World.ownsRow_lit w _ 0 (Nat.le_refl _) (by simp [maxLen]) rfl) (Sl.below hs (by omega) ((Below.refl _ _).alloc (Nat.le_refl _) _)) rfl rfl (one_bvs xs) (by omega) (by omega) (by simp) ?_; intro v' w1 ho hg)
    go_ret
    rw [Nat.zero_add, List.nil_append] at ho
    exact ⟨_, rfl, ho, ((Below.refl _ _).alloc (Nat.le_refl _) _).grown hg (by simp) (fun k hk => by cases hk; exact Nat.le_refl _)⟩

set_option maxHeartbeats 400000 in
theorem put_any (v : Value) (xs : List UInt8) (x n : Nat) (w : World) (F : Nat → Prop) (h : Bs w F v xs) (hb : xs.length ≤ 1000000000) (hn : n ≤ 8) (hx : x < 18446744073709551616) :
    Calls Try.prog 67 #[v, .int .u64 x, .int .i64 n] w fun e w' => ∃ v', e = .returned v' ∧ Ob w' w.heap.size 5 v' (xs ++ be x n) ∧ Below w.heap.size w w' := by
  go_enter Try.func67, Try.ntmps67
  go_wp2_with fail
  refine (clone_any _ xs _ F h (by omega)).mono ?_
  rintro e w1 ⟨v1, rfl, ho, hB⟩
  go_wp2
  go_loopw [0, 7] (fun s i wr => ∃ m : Nat, m ≤ n ∧ i = .int .i64 ((m : Int) - 1) ∧ Ob wr w.heap.size 5 s (xs ++ be (x / 256 ^ m) (n - m)) ∧ Below w.heap.size w wr) (fun _ i _ => (intOf i + 1).toNat)
  case atStart => exact ⟨n, Nat.le_refl _, rfl, by simpa [be] using ho, hB⟩
  case round =>
    obtain ⟨m, hm, rfl, ho, hB⟩ := hrel
    cases m with
    | zero =>
      go_wp2
      go_ret
      exact ⟨_, rfl, by simpa using ho, hB⟩
    | succ m =>
      have hsz := hB.size
      have hbl : (be (x / 256 ^ (m + 1)) (n - (m + 1))).length ≤ 8 := by rw [be_len]; omega
      go_wp2_with (at_builtin; go_must (refine app Try.el8 rfl _ _ rfl w.heap.size (World.ownsRow.alloc ho _) (Sl.lit wr [_] 5 1 1 rfl (by simp [maxLen])) rfl rfl (by simp [Value.oneCell']) (by simp; omega) (by omega) (by simp; omega) ?_); intro v2 w2 ho2 hg2)
      refine ⟨⟨m, by omega, rfl, ?_, push_below hB ho hg2 (Nat.le_refl _)⟩, by simp only [intOf]; omega⟩
      rw [← be_step x m n (by omega), ← List.append_assoc]
      exact Ob.push _ ho2 (byte_shr x m)

theorem div_step (x n m : Nat) (hm : m + 1 ≤ n) : x / 256 ^ (n - m) = x / 256 ^ (n - (m + 1)) / 256 := by
  rw [Nat.div_div_eq_div_mul, ← Nat.pow_succ, show (n - (m + 1)).succ = n - m from by omega]

set_option maxHeartbeats 400000 in
theorem high_any (x n : Nat) (w : World) (hn : n ≤ 8) (hx : x < 18446744073709551616) :
    Calls Try.prog 47 #[.int .u64 x, .int .i64 n] w fun e w' => ∃ v', e = .returned v' ∧ Ob w' w.heap.size 5 v' (be x n) ∧ Below w.heap.size w w' := by
  obtain ⟨i, hi, hz, hs, hb⟩ := info_parts Try.el8.info
  go_enter Try.func47, Try.ntmps47
  go_wp2_with (at_make; go_must (refine wpList_make_full _ rfl _ _ 35 rfl w.heap.size 5 i _ 1 Try.el8.ut hi hz hs _ _ _ _ n rfl rfl rfl rfl (by rw [hb]; omega) (by simp [maxLen]; omega) (Nat.le_refl _) ?_); intro w1 ho hg)
  go_loopw [0, 6] (fun y i wr => ∃ m : Nat, m ≤ n ∧ i = .int .i64 ((m : Int) - 1) ∧ y = .int .u64 ((x / 256 ^ (n - m) : Nat) : Int) ∧ wr.ownsRow w.heap.size 5 1 (.slice (some ⟨w.heap.size, 0, none⟩) n n) n (bvs (List.replicate m 0 ++ be x (n - m))) ∧ Below w.heap.size w wr) (fun _ i _ => (intOf i + 1).toNat)
  case atStart =>
    refine ⟨n, Nat.le_refl _, rfl, by simp, ?_, (Below.refl _ _).grown hg (Nat.le_refl _) (fun k hk => by cases hk)⟩
    simpa [be, bvs, bv, Value.cells, toList_madeCells_one] using ho
  case round =>
    obtain ⟨m, hm, rfl, rfl, ho, hB⟩ := hrel
    cases m with
    | zero =>
      go_wp2
      go_ret
      exact ⟨_, rfl, by simpa [Ob, be_len] using ho, hB⟩
    | succ m =>
      have hq : x / 256 ^ (n - (m + 1)) ≤ x := Nat.div_le_self _ _
      have hbe := be_head (n - (m + 1)) x
      have hdd := div_step x n m hm
      have hnm : n - (m + 1) + 1 = n - m := by omega
      generalize x / 256 ^ (n - (m + 1)) = q at *
      rw [hnm] at hbe
      have HBE := Lib.hid hbe
      have HDD := Lib.hid hdd
      clear hbe hdd hnm
      have hcell := ho.cellAt m (by omega)
      have hfr := ho.frozenAt m
      have hst := ho.stored m (bv (UInt8.ofNat q))
      have hg0 : (bvs (List.replicate (m + 1) 0 ++ be x (n - (m + 1))))[m]? = some (.int .u8 0) := by simp [bvs, bv, List.getElem?_append]
      have hset : (bvs (List.replicate (m + 1) 0 ++ be x (n - (m + 1)))).set m (bv (UInt8.ofNat q)) = bvs (List.replicate m 0 ++ UInt8.ofNat q :: be x (n - (m + 1))) := by
        simp only [bvs, ← List.map_set]
        rw [List.replicate_succ', List.append_assoc, List.set_append_right _ _ (by simp)]
        simp
      rw [hg0] at hcell
      rw [hset, ← HBE.out] at hst
      clear hset hg0 ho
      go_wp2
      rw [byte_rem q] at *
      refine ⟨⟨m, by omega, rfl, by rw [HDD.out]; go_num, hst.1, hB.setCell (Nat.le_refl _) _⟩, by simp only [intOf]; omega⟩

end Go.Proofs.Ytjgobljclodpfaa
