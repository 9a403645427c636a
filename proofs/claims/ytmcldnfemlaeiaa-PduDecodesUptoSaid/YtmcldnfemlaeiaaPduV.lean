/- Law 11's walk: PduDecodes. No condition beyond sizes. -/
import Derived.Test.YtmcldnfemlaeiaaPduRD
import Derived.Test.YtmcldnfemlaeiaaPduW
import Derived.Test.YtmcldnfemlaeiaaPduM
namespace Go.Proofs.Ytmcldnfemlaeiaa
open Go.RowKit K L
set_option linter.unusedVariables false
set_option linter.unusedSimpArgs false

theorem rdec_any (v : Value) (xs : List UInt8) (w : World) (F : Nat → Prop) (h : Bs w F v xs) (hl : xs.length ≤ 100000000) :
    Calls Try.prog 16 #[v] w fun e w' => ∃ vb, e = .returned (.tuple #[.agg ((decM xs).cells vb).toArray, .int .i64 (decE xs)]) ∧ (∃ F, Bs w' F vb (decM xs).bytes) ∧ Below w.heap.size w w' := by
  have hr := ref_dec xs
  have key : Calls Try.prog 16 #[v] w fun e w' => ∃ vb, e = .returned (.tuple #[.agg ((refOut xs).1.cells vb).toArray, .int .i64 (refOut xs).2]) ∧ (∃ F, Bs w' F vb (refOut xs).1.bytes) ∧ Below w.heap.size w w' := by
    cases xs with
    | nil => exact rdec_0 v [] w F h rfl
    | cons x l =>
      by_cases hk : 1 ≤ (x.toNat : Int) ∧ (x.toNat : Int) ≤ 8
      · by_cases h5 : (x :: l).length < 5
        · exact rdec_2 v x l w F h hl hk h5
        · exact rdec_3 v x l w F h hl hk (by omega)
      · exact rdec_1 v x l w F h hl hk
  rw [hr] at key
  exact key

theorem Msg.same_self (m : Msg) : m.same m = true := by simp [Msg.same]

set_option maxRecDepth 100000 in
set_option maxHeartbeats 8000000 in
theorem decodes_walk (v : Value) (xs : List UInt8) (w : World) (h : Bs w (· < w.heap.size) v xs) (hl : xs.length ≤ 1048576) :
    Calls Try.prog 4 #[v] w fun e w' => e = .returned (.bool true) ∧ Below w.heap.size w w' := by
  have hdec := fun v w F h => decode_any v xs w F h (Nat.le_trans hl (by decide))
  have hrd := fun v w F h => rdec_any v xs w F h (Nat.le_trans hl (by decide))
  generalize decM xs = m at *
  generalize decE xs = er at *
  have HD := Lib.hid hdec
  have HRD := Lib.hid hrd
  have HSF := Lib.hid (Msg.same_self m)
  clear hdec hrd
  have HB := Lib.hid h
  obtain ⟨A, c, rfl, l1, l2, -, -⟩ := h.open_
  replace l2 : c ≤ 9223372036854775807 := by simpa [maxLen] using l2
  clear h
  by_cases h5 : 5000 < xs.length
  · go_enter Try.func4, Try.ntmps4
    go_wp2_with fail
    refine (wakes_any _).mono ?_
    rintro e w1 ⟨rfl, hB⟩
    go_wp2
    go_ret
    exact ⟨rfl, hB⟩
  go_enter Try.func4, Try.ntmps4
  go_wp2_with fail
  refine (wakes_any _).mono ?_
  rintro e w1 ⟨rfl, hB⟩
  have HB1 := Lib.hid hB
  have HS1 := Lib.hid (HB.out.below hB)
  have hsz := hB.size
  clear hB
  go_wp2_with (at_builtin; go_must (refine app Try.el8 rfl _ _ rfl w1.heap.size (World.ownsRow_lit w1 _ 0 (Nat.le_refl _) (by simp [maxLen]) rfl) (Sl.below HS1.out (by omega) ((Below.refl _ _).alloc (Nat.le_refl _) _)) rfl rfl (one_bvs xs) (by omega) (by omega) (by simp) ?_); intro v' w2 ho hg; have hob : Ob w2 w1.heap.size 5 v' xs := Ob.more (xs := []) ho rfl; have HOB := Lib.hid hob; have HB2 := Lib.hid (below_tr HB1.out (((Below.refl _ _).alloc (Nat.le_refl _) _).grown hg (by simp) (fun k hk => by cases hk; exact Nat.le_refl _))); clear ho hg hob)
  refine (HD.out _ _ _ HOB.out.bs).mono ?_
  rintro e w3 ⟨va, rfl, ho, hB3⟩
  have HS3 := Lib.hid (HB.out.below (below_tr HB2.out hB3))
  have HB3 := Lib.hid (below_tr HB2.out hB3)
  have HA := Lib.hid ho.bs.lt
  obtain ⟨A3, k3, rfl, -⟩ := ho.bs.open_
  have hsz3 := HB3.out.size
  clear ho hB3 HB1 HS1 HB2 HOB
  obtain ⟨kind, number, name, size, off, sum, code, bytes⟩ := m
  unfold Msg.cells
  dsimp only at HA ⊢
  go_wp2_with fail
  obtain ⟨W3, hW3⟩ : ∃ W, w3.alloc (.cells #[.int .i64 kind, .int .u32 (number : Nat), .string ⟨name.toArray⟩, .int .i64 size, .int .i64 off, .int .u32 (sum : Nat), .int .i64 code, .slice A3 bytes.length k3] 25) = W := ⟨_, rfl⟩
  have hz3 : W3.heap[w3.heap.size]? = some (.cells #[.int .i64 kind, .int .u32 (number : Nat), .string ⟨name.toArray⟩, .int .i64 size, .int .i64 off, .int .u32 (sum : Nat), .int .i64 code, .slice A3 bytes.length k3] 25 (0, 0)) := by rw [← hW3]; exact heap_alloc_new _ _
  have hB4 : Below w3.heap.size w3 W3 := by rw [← hW3]; exact below_al (Below.refl _ _) _
  rw [hW3]
  have HZ3 := Lib.hid hz3
  have HB4 := Lib.hid (below_tr HB3.out hB4)
  have HA4 := Lib.hid (HA.out.below hB4)
  have HS4 := Lib.hid (HS3.out.below hB4)
  clear hz3 hB4 hW3 HB3 HA HS3
  refine (HRD.out _ _ _ HS4.out).mono ?_
  rintro e w5 ⟨vb, rfl, ⟨G, hG⟩, hB5⟩
  unfold Msg.cells
  dsimp only at hG ⊢
  have HG := Lib.hid hG.lt
  obtain ⟨A5, k5, rfl, -⟩ := hG.open_
  have HB5 := Lib.hid (below_tr HB4.out hB5)
  have HA5 := Lib.hid (HA4.out.below hB5)
  have HZ5 := Lib.hid (heap_bl hB5 HZ3.out)
  have hsz5 := hB5.size
  have hlt5 : w3.heap.size < w5.heap.size := (Array.getElem?_eq_some_iff.1 HZ5.out).1
  clear hG hB5 HB4 HA4 HZ3 HS4
  have hZ5 := HZ5.out
  have c0 := cell_of hZ5 0
  have c1 := cell_of hZ5 1
  have c2 := cell_of hZ5 2
  have c3 := cell_of hZ5 3
  have c4 := cell_of hZ5 4
  have c5 := cell_of hZ5 5
  have c6 := cell_of hZ5 6
  have c7 := cell_of hZ5 7
  simp at c0 c1 c2 c3 c4 c5 c6 c7
  clear hZ5
  go_wp2_with fail
  have hB6 := below_al (Below.refl w5.heap.size w5) (.cells #[.int .i64 kind, .int .u32 (number : Nat), .string ⟨name.toArray⟩, .int .i64 size, .int .i64 off, .int .u32 (sum : Nat), .int .i64 code, .slice A5 bytes.length k5] 25)
  refine (rsame_any ⟨kind, number, name, size, off, sum, code, bytes⟩ ⟨kind, number, name, size, off, sum, code, bytes⟩ _ _ _ _ _ (HA5.out.below hB6) (HG.out.below hB6)).mono ?_
  rintro e w7 ⟨rfl, hB7⟩
  rw [HSF.out]
  go_wp2
  go_ret
  exact ⟨rfl, below_tr (below_tr HB5.out hB6) hB7⟩

end Go.Proofs.Ytmcldnfemlaeiaa
