/- Layer 11's walk of Encode at kind 3. No condition beyond sizes. -/
import Derived.Test.YtmcldnfemlaeiaaPduK
import Derived.Test.YtmcldnfemlaeiaaG3
namespace Go.Proofs.Ytmcldnfemlaeiaa
open Go.RowKit K L
set_option linter.unusedVariables false
set_option linter.unusedSimpArgs false

set_option maxRecDepth 100000 in
set_option maxHeartbeats 4000000 in
theorem encode_3 (m : Msg) (vb : Value) (w : World) (F : Nat → Prop) (h : Bs w F vb m.bytes) (hk : m.kind = 3) (hok : m.ok) (hn : m.number < 4294967296) (hu : m.sum < 4294967296) :
    Calls Try.prog 9 #[.agg (m.cells vb).toArray] w fun e w' => ∃ v, e = .returned (.tuple #[v, .int .i64 0]) ∧ Ob w' w.heap.size 5 v m.enc ∧ Below w.heap.size w w' := by
  have hm0 : okErr m = 0 := by rw [okErr, if_pos hok]
  obtain ⟨kind, number, name, size, off, sum, code, bytes⟩ := m
  have ho := hok
  obtain ⟨_, o2, o3, o4, o5, o6, o7, o8, o9, o10, o11, o12, o13⟩ := ho
  dsimp only at hk hn hu h o2 o3 o4 o5 o6 o7 o8 o9 o10 o11 o12 o13
  subst hk
  simp only [show fldN 3 = false from rfl, show fldS 3 = true from rfl, show fldO 3 = false from rfl, show fldU 3 = true from rfl, show fldC 3 = false from rfl, show fldB 3 = false from rfl, eq_self, forall_const, reduceCtorEq, false_implies] at o3 o4 o6 o7 o8 o10 o12
  have offr : 0 ≤ off ∧ off ≤ 4096 := by omega
  have nl : name.length ≤ 24 := by omega
  clear o13
  obtain ⟨sz, rfl⟩ : ∃ n : Nat, size = (n : Int) := ⟨size.toNat, by omega⟩
  obtain ⟨of, rfl⟩ : ∃ n : Nat, off = (n : Int) := ⟨off.toNat, by omega⟩
  obtain ⟨co, rfl⟩ : ∃ n : Nat, code = (n : Int) := ⟨code.toNat, by omega⟩
  have z5 : sz ≤ 4096 := by omega
  have z7 : of ≤ 4096 := by omega
  have z9 : co ≤ 255 := by omega
  have enc : Msg.enc ⟨3, number, name, (sz : Int), (of : Int), sum, (co : Int), bytes⟩ = [UInt8.ofNat 3] ++ be number 4 ++ be sz 2 ++ be sum 4 := by
    unfold Msg.enc
    simp [show fldN 3 = false from rfl, show fldS 3 = true from rfl, show fldO 3 = false from rfl, show fldU 3 = true from rfl, show fldC 3 = false from rfl, show fldB 3 = false from rfl]
  rw [enc]
  have hc := check_any ⟨3, number, name, (sz : Int), (of : Int), sum, (co : Int), bytes⟩ vb
  rw [hm0] at hc
  have HC := Lib.hid hc
  clear hc hm0 hok enc o2 o3 o4 o5 o6 o7 o8 o9 o10 o12 offr 
  have hb := h
  obtain ⟨A, c, rfl, l1, l2, -, -⟩ := h.open_
  unfold maxLen at l2
  clear h
  unfold Msg.cells at HC ⊢
  dsimp only at HC ⊢
  go_enter Try.func9, Try.ntmps9
  go_wp2_with fail
  obtain ⟨hm, hB, hb1, hsz⟩ := box_one w (.cells #[.int .i64 3, .int .u32 (number : Nat), .string ⟨name.toArray⟩, .int .i64 (sz : Nat), .int .i64 (of : Nat), .int .u32 (sum : Nat), .int .i64 (co : Nat), .slice A bytes.length c] 25) _ _ _ hb
  clear hb
  generalize w.alloc (.cells #[.int .i64 3, .int .u32 (number : Nat), .string ⟨name.toArray⟩, .int .i64 (sz : Nat), .int .i64 (of : Nat), .int .u32 (sum : Nat), .int .i64 (co : Nat), .slice A bytes.length c] 25) = W at *
  refine (HC.out _ _ hb1 (Nat.le_trans nl (by decide))).mono ?_
  rintro e w1 ⟨rfl, hB1⟩
  have HM := Lib.hid hm
  have HB0 := Lib.hid hB
  have HSZ := Lib.hid hsz
  clear hm hB hsz HC
  have hB := hB1
  have hm := heap_bl hB HM.out
  have c0 := cell_of hm 0
  have c1 := cell_of hm 1
  have c2 := cell_of hm 2
  have c3 := cell_of hm 3
  have c4 := cell_of hm 4
  have c5 := cell_of hm 5
  have c6 := cell_of hm 6
  have c7 := cell_of hm 7
  simp at c0 c1 c2 c3 c4 c5 c6 c7
  go_wp2_with fail
  refine (fields_is _ 10 rfl _).mono ?_
  rintro e w2 ⟨rfl, rfl⟩
  have a1 := fun o => cell_al c1 o
  go_wp2_with fail
  refine (put32_any _ [UInt8.ofNat 3] number _ _ (lit_bs w1 [UInt8.ofNat 3] #[.int .u8 3] rfl 1 rfl (by decide)) (by decide) hn).mono ?_
  rintro e w3 ⟨s0, rfl, ho, hB3⟩
  replace ho := ho.low (show W.heap.size ≤ _ from by have := hB1.size; simp only [World.size_alloc]; omega)
  replace hB := below_tr (below_al hB1 _) hB3
  clear hB1 hB3 hm a1 c0 c1 c2 c3 c4 c5 c6 c7
  have hm := heap_bl hB HM.out
  have c0 := cell_of hm 0
  have c1 := cell_of hm 1
  have c2 := cell_of hm 2
  have c3 := cell_of hm 3
  have c4 := cell_of hm 4
  have c5 := cell_of hm 5
  have c6 := cell_of hm 6
  have c7 := cell_of hm 7
  simp at c0 c1 c2 c3 c4 c5 c6 c7
  go_wp2_with fail
  refine (has_any 10 1 (by decide) (by decide) _).mono ?_
  rw [show fhas 10 1 = false from by decide]
  rintro e w' ⟨rfl, rfl⟩
  go_wp2_with fail
  refine (has_any 10 2 (by decide) (by decide) _).mono ?_
  rw [show fhas 10 2 = true from by decide]
  rintro e w' ⟨rfl, rfl⟩
  go_wp2_with fail
  refine (put16_any _ _ sz _ _ ho.bs (by simp [be_len] <;> omega) (by omega)).mono ?_
  rintro e w' ⟨v', rfl, ho', hB'⟩
  replace ho := ho'.low (show W.heap.size ≤ _ from hB.size)
  replace hB := below_tr hB hB'
  clear ho' hB'
  clear hm c0 c1 c2 c3 c4 c5 c6 c7
  have hm := heap_bl hB HM.out
  have c0 := cell_of hm 0
  have c1 := cell_of hm 1
  have c2 := cell_of hm 2
  have c3 := cell_of hm 3
  have c4 := cell_of hm 4
  have c5 := cell_of hm 5
  have c6 := cell_of hm 6
  have c7 := cell_of hm 7
  simp at c0 c1 c2 c3 c4 c5 c6 c7
  go_wp2_with fail
  refine (has_any 10 4 (by decide) (by decide) _).mono ?_
  rw [show fhas 10 4 = false from by decide]
  rintro e w' ⟨rfl, rfl⟩
  go_wp2_with fail
  refine (has_any 10 8 (by decide) (by decide) _).mono ?_
  rw [show fhas 10 8 = true from by decide]
  rintro e w' ⟨rfl, rfl⟩
  go_wp2_with fail
  refine (put32_any _ _ sum _ _ ho.bs (by simp [be_len] <;> omega) (by omega)).mono ?_
  rintro e w' ⟨v', rfl, ho', hB'⟩
  replace ho := ho'.low (show W.heap.size ≤ _ from hB.size)
  replace hB := below_tr hB hB'
  clear ho' hB'
  clear hm c0 c1 c2 c3 c4 c5 c6 c7
  have hm := heap_bl hB HM.out
  have c0 := cell_of hm 0
  have c1 := cell_of hm 1
  have c2 := cell_of hm 2
  have c3 := cell_of hm 3
  have c4 := cell_of hm 4
  have c5 := cell_of hm 5
  have c6 := cell_of hm 6
  have c7 := cell_of hm 7
  simp at c0 c1 c2 c3 c4 c5 c6 c7
  go_wp2_with fail
  refine (has_any 10 16 (by decide) (by decide) _).mono ?_
  rw [show fhas 10 16 = false from by decide]
  rintro e w' ⟨rfl, rfl⟩
  go_wp2_with fail
  refine (has_any 10 32 (by decide) (by decide) _).mono ?_
  rw [show fhas 10 32 = false from by decide]
  rintro e w' ⟨rfl, rfl⟩
  go_wp2
  go_ret2
  exact ⟨_, rfl, by simpa using ho.low HB0.out.size, below_tr HB0.out hB⟩

end Go.Proofs.Ytmcldnfemlaeiaa
