/- Layer 27: the reference: fits, crash. No condition beyond sizes. -/
import Derived.Test.YtfdijgdojejimaaId4
namespace Go.Proofs.Ytfdijgdojejimaa
open Go.RowKit Go.Shelf K L
set_option linter.unusedVariables false
set_option linter.unusedSimpArgs false

set_option maxHeartbeats 400000 in
theorem rfits_any (n m : Nat) (w : World) : Calls Try.prog 45 #[.int .u32 (n : Nat), .int .u32 (m : Nat)] w fun e w' => e = .returned (.bool (decide (m = 0) || decide (m = n))) ∧ w = w' := by
  go_enter Try.func45, Try.ntmps45
  by_cases h0 : n = m
  · subst h0
    have hd : ((n : Int) == (n : Int)) = true := by simp
    go_wp2
    go_ret
    exact ⟨ret_bool (by simp), rfl⟩
  · have hd : ((n : Int) == (m : Int)) = false := by simp; omega
    go_wp2
    go_ret
    exact ⟨ret_bool (by rw [Bool.eq_iff_iff]; simp; omega), rfl⟩

theorem fcells_at {w w0 : World} {F : Nat → Prop} {A : Option Addr} {n c : Nat} {es : List (FA w0)} (h : Sl w F 7 (.slice A n c) es.length (fcells es)) (i : Nat) (hi : i < es.length) :
    ∃ b o, A = some ⟨b, o, none⟩ ∧ F b ∧ b < w.heap.size ∧ w.cell? ⟨b, o + i * 7, none⟩ = some (.int .i64 es[i].1.1.kind) ∧ w.cell? ⟨b, o + i * 7 + 1, none⟩ = some (.int .i64 es[i].1.1.node) ∧ w.cell? ⟨b, o + i * 7 + 2, none⟩ = some (.int .i64 es[i].1.1.frm) ∧
      w.cell? ⟨b, o + i * 7 + 3, none⟩ = some (.int .u32 (es[i].1.1.number : Nat)) ∧ w.cell? ⟨b, o + i * 7 + 4, none⟩ = some (.string ⟨es[i].1.1.name.toArray⟩) ∧ w.cell? ⟨b, o + i * 7 + 5, none⟩ = some (.int .i64 es[i].1.1.code) ∧ w.cell? ⟨b, o + i * 7 + 6, none⟩ = some es[i].1.2 := by
  have := row_at (es := es.map (·.1)) (w := w) (F := F) (n := n) (c := c) (A := A) (by rw [List.length_map]; exact h) i (by simpa using hi)
  simpa only [List.getElem_map] using this

theorem facts_take {w0 : World} (es : List (FA w0)) (k : Nat) (h : k < es.length) : facts (es.take (k + 1)) = facts (es.take k) ++ [es[k].1.1] := by
  unfold facts
  rw [take_snoc es k h, List.map_append]; rfl

set_option maxRecDepth 100000 in
set_option maxHeartbeats 2000000 in
theorem crash_any (w0 : World) (v : Value) (es : List (FA w0)) (hle : es.length ≤ 1048576) (n : Int) (w : World) (F : Nat → Prop) (hS : Sl w F 7 v es.length (fcells es)) :
    Calls Try.prog 46 #[v, .int .i64 n] w fun e w' => e = .returned (.bool (crashed (facts es) n)) ∧ Below w.heap.size w w' := by
  have hS' := hS
  obtain ⟨-, A, c, rfl, -, -, -, -⟩ := hS
  go_enter Try.func46, Try.ntmps46
  go_wp2
  go_loopw [5] (fun i wr => ∃ k : Nat, k ≤ es.length ∧ i = .int .i64 k ∧ Below w.heap.size w wr ∧ Hid (crashed (facts (es.take k)) n = false)) (fun i _ => es.length - (intOf i).toNat)
  case atStart => exact ⟨0, Nat.zero_le _, rfl, Below.refl _ _, Lib.hid (by simp [crashed, hv, facts])⟩
  case round =>
    obtain ⟨k, hk, rfl, hb, HP⟩ := hrel
    by_cases hlt : k < es.length
    · obtain ⟨b, o, rfl, -, -, c0, c1, -, -, -, -, -⟩ := fcells_at (Sl.below hS' (by decide) hb) k hlt
      have hsn := facts_take es k hlt
      have hall : es[k].1.1.kind = 5 → es[k].1.1.node = n → crashed (facts es) n = true := fun h1 h2 => by
        unfold crashed hv facts
        rw [List.any_map, List.any_eq_true]
        exact ⟨_, List.getElem_mem hlt, by simp [h1, h2]⟩
      generalize es[k].1.1 = x at *
      have HS := Lib.hid hsn
      have HA := Lib.hid hall
      clear hsn hall
      by_cases h5 : x.kind = 5
      · have hd : (x.kind == 5) = true := by simp [h5]
        have H5 := Lib.hid h5
        clear h5
        by_cases h6 : x.node = n
        · have hd2 : (x.node == n) = true := by simp [h6]
          have H6 := Lib.hid h6
          clear h6
          go_wp2
          go_ret
          exact ⟨ret_bool (by rw [HA.out H5.out H6.out]), hb⟩
        · have hd2 : (x.node == n) = false := by simp [h6]
          have H6 := Lib.hid h6
          clear h6
          go_wp2
          refine ⟨⟨k + 1, by omega, by go_num, hb, Lib.hid ?_⟩, by simp only [intOf]; omega⟩
          have := HP.out
          unfold crashed at this ⊢
          rw [HS.out, hv_snoc, this, hd2]; simp
      · have hd : (x.kind == 5) = false := by simp [h5]
        have H5 := Lib.hid h5
        clear h5
        go_wp2
        refine ⟨⟨k + 1, by omega, by go_num, hb, Lib.hid ?_⟩, by simp only [intOf]; omega⟩
        have := HP.out
        unfold crashed at this ⊢
        rw [HS.out, hv_snoc, this]; simp [H5.out]
    · obtain rfl : k = es.length := by omega
      go_wp2
      go_ret
      have := HP.out
      rw [List.take_length] at this
      exact ⟨ret_bool this.symm, hb⟩

end Go.Proofs.Ytfdijgdojejimaa
