/- Layer 2's walks: going backward over what is pending. No condition beyond sizes. -/
import Derived.Test.YthjlmkmijehnjaaDk8
import Derived.Test.YthjlmkmijehnjaaAgI
namespace Go.Proofs.Ythjlmkmijehnjaa
open Go.RowKit Go.Shelf K L
set_option linter.unusedVariables false
set_option linter.unusedSimpArgs false
attribute [local go_sem] Oper.semAt_some

/-- A pending write of a whole block. -/
abbrev WA := {p : Nat × Blk // p.2.length = 64}
def wenc (x : WA × Nat) : Array Value := #[.int .i64 (x.2 : Nat), .agg (wcells x.1.1).toArray]
/-- What comes, the last first. -/
def backs (es : List WA) : List (WA × Nat) := es.zipIdx.reverse
theorem backs_len (es : List WA) : (backs es).length = es.length := by simp [backs]
theorem backs_step (es : List WA) (j : Nat) (h : j < es.length) : (backs es).take (es.length - j) = (backs es).take (es.length - (j + 1)) ++ [(es[j], j)] := by
  have h1 : es.length - j = es.length - (j + 1) + 1 := by omega
  have hg : (backs es)[es.length - (j + 1)]? = some (es[j], j) := by
    unfold backs
    rw [List.getElem?_reverse (by simp; omega)]
    simp only [List.length_zipIdx]
    rw [show es.length - 1 - (es.length - (j + 1)) = j from by omega, List.getElem?_zipIdx, List.getElem?_eq_getElem h]
    simp
  rw [h1, List.take_add_one, hg]
  rfl
theorem backs_none {es : List WA} {i : Nat} (h : ∀ x ∈ backs es, x.1.1.1 ≠ i) : lastAt i (es.map (·.1)) = none := by
  cases hl : lastAt i (es.map (·.1)) with
  | none => rfl
  | some b =>
    have hm := lastAt_mem hl
    obtain ⟨x, hx, hxe⟩ := List.mem_map.1 hm
    obtain ⟨j, hj, rfl⟩ := List.getElem_of_mem hx
    exact absurd (by rw [hxe]) (h (es[j], j) (by unfold backs; rw [List.mem_reverse, List.mem_zipIdx_iff_getElem?]; simp [hj]))
theorem lastAt_of {i : Nat} : ∀ (l : List (Nat × Blk)), (∀ p ∈ l, p.1 ≠ i) → lastAt i l = none
  | [], _ => rfl
  | (a, b) :: l, h => by
    rw [lastAt, lastAt_of l fun p hp => h p (List.mem_cons_of_mem _ hp)]
    simp only []
    rw [if_neg (h (a, b) (List.mem_cons_self ..))]
theorem lastAt_mid {i : Nat} {b : Blk} : ∀ (l r : List (Nat × Blk)), (∀ p ∈ r, p.1 ≠ i) → lastAt i (l ++ (i, b) :: r) = some b
  | [], r, h => by rw [List.nil_append, lastAt, lastAt_of r h]; simp
  | (a, c) :: l, r, h => by rw [List.cons_append, lastAt, lastAt_mid l r h]
theorem backs_some {es : List WA} {i : Nat} {pre : List (WA × Nat)} {x : WA × Nat} (h : pre ++ [x] <+: backs es) (hx : x.1.1.1 = i) (hp : ∀ y ∈ pre, y.1.1.1 ≠ i) : lastAt i (es.map (·.1)) = some x.1.1.2 := by
  obtain ⟨t, ht⟩ := h
  have he : es.zipIdx = t.reverse ++ x :: pre.reverse := by
    have := congrArg List.reverse ht
    simpa [backs] using this.symm
  have h2 : es = (t.reverse ++ x :: pre.reverse).map (·.1) := by rw [← he, List.zipIdx_map_fst]
  rw [h2]
  simp only [List.map_append, List.map_cons, List.map_map]
  obtain ⟨⟨⟨a, b⟩, hb⟩, k⟩ := x
  dsimp only at hx
  subst hx
  refine lastAt_mid _ _ fun p hp' => ?_
  obtain ⟨y, hy, rfl⟩ := List.mem_map.1 hp'
  exact hp y (by simpa using hy)

theorem backward_any (A : Option Addr) (n c : Nat) (w : World) : Calls Try.prog 41 #[.slice A n c] w fun e w' =>
    e = .returned (.func (.func 56) #[] #[.pointer (some ⟨w.heap.size, 0, none⟩)]) ∧ w' = w.alloc (.cells #[.slice A n c] 67) := by
  go_enter Try.func41, Try.ntmps41
  go_wp2
  go_ret
  exact ⟨rfl, rfl⟩

set_option maxRecDepth 100000 in
set_option maxHeartbeats 4000000 in
theorem back1_in (F : Fence) (n : Nat) (hf : F.fn 56) (hro : F.round = none) (hn : 1 ≤ n) (l Bl n₀ : Nat) (v : Value) (es : List WA) (J Jx : List (WA × Nat) → World → Prop) (W : World)
    (hY : ∀ pre x W1, J pre W1 → pre.length < es.length → YieldAt F (n - 1) Try.prog l (wenc x) W1 fun e W' => (e = .returned (.bool true) ∧ J (pre ++ [x]) W' ∧ Below n₀ W1 W') ∨ (e = .returned (.bool false) ∧ Jx (pre ++ [x]) W'))
    (hl : W.cell? ⟨Bl, 0, none⟩ = some v) (hB : Bl < n₀) (hS : W.ownsRow 0 80 65 v es.length ((es.map (·.1)).flatMap wcells)) (hS2 : ∀ g, v.ownBlock = some g → g < n₀) (h0 : J [] W) (hsz : es.length < 1073741824) :
    CallsIn F n Try.prog 56 #[.func (.yield l) #[] #[], .pointer (some ⟨Bl, 0, none⟩)] W fun e W' => (∃ v, e = .returned v) ∧
      ((∃ ys, ys = backs es ∧ J ys W') ∨ (∃ pre, pre <+: backs es ∧ Jx pre W')) := by
  obtain ⟨A, c, rfl, h1, h2, -, -⟩ := own_slice hS
  unfold maxLen at h2
  refine callsIn_of_wp Try.func56 rfl hf ?_ hro
  simp only [Try.ntmps56, List.size_toArray, List.length_cons, List.length_nil, Nat.reduceAdd, Nat.reduceSub, Array.replicate_succ, Array.replicate_zero, List.push_toArray, List.append_toArray, List.nil_append, List.cons_append]
  gi_wp2
  gi_loopw [3] (fun i wr => ∃ (j : Nat) (q : Int), j ≤ es.length ∧ q = (j : Int) - 1 ∧ i = .int .i64 q ∧ J ((backs es).take (es.length - j)) wr ∧ Below n₀ W wr) (fun i _ => (intOf i + 1).toNat)
  case atStart => exact ⟨es.length, _, Nat.le_refl _, rfl, rfl, by simpa using h0, Below.refl _ _⟩
  case round =>
    obtain ⟨j, q, hj, hq, rfl, hJs, hb⟩ := hrel
    have hl1 : wr.cell? ⟨Bl, 0, none⟩ = some (.slice A es.length c) := (hb.cell (p := ⟨Bl, 0, none⟩) hB).trans hl
    cases j with
    | zero =>
      obtain rfl : q = -1 := by omega
      rw [Nat.sub_zero, List.take_of_length_le (by rw [backs_len]; omega)] at hJs
      clear hq
      gi_wp2
      go_end0
      exact ⟨⟨_, rfl⟩, .inl ⟨_, rfl, hJs⟩⟩
    | succ j =>
      obtain rfl : q = (j : Int) := by omega
      clear hq
      have hst := backs_step es j (by omega)
      have hpre : (backs es).take (es.length - j) <+: backs es := List.take_prefix _ _
      have hlen : ((backs es).take (es.length - (j + 1))).length < es.length := by rw [List.length_take, backs_len]; omega
      have hSr : wr.ownsRow 0 80 65 (.slice A es.length c) es.length ((es.map (·.1)).flatMap wcells) := own_keep hS fun g hg => hb.block g (hS2 g hg)
      have hS' := own_range (f := wcells) (fun p hp => by obtain ⟨x, -, rfl⟩ := List.mem_map.1 hp; exact wcells_len _ x.2) hSr (by simp) j (by simp; omega)
      obtain ⟨g, c', he, -, -, -, -, hr, -⟩ := hS'
      simp only [List.getElem_map] at hr
      have hjl : j < es.length := by omega
      generalize es[j] = y at *
      obtain ⟨y, hy⟩ := y
      dsimp only at hr
      cases he
      obtain ⟨fn, tmps, assign, body, hyl, hR⟩ := hY _ (⟨y, hy⟩, j) _ hJs hlen
      dsimp only [wenc] at hyl
      have HR := Lib.hid hr
      have HP := Lib.hid hpre
      have HST := Lib.hid hst
      clear hY hr hpre hst hSr hS hS2
      gi_wp2_with (refine wi_load rfl 80 _ rfl _ _ rfl _ _ HR.out Try.underlying80 rfl (size_wrote' hy) ?_)
      refine hR.mono ?_
      rintro e W3 (⟨rfl, hJ3, hk3⟩ | ⟨rfl, hJx3⟩)
      · have HJ3 := Lib.hid hJ3
        have HK3 := Lib.hid (hb.trans hk3)
        clear hJ3 hk3 hb
        gi_wp2
        go_roundw
        case rel => exact ⟨j, _, by omega, rfl, rfl, by rw [HST.out]; exact HJ3.out, HK3.out⟩
        case measure => simp only [intOf]; omega
      · have HJ3 := Lib.hid hJx3
        clear hJx3 hb
        gi_wp2
        refine bodyPost_ret (results_none rfl _ _ _) rfl ?_
        exact ⟨⟨_, rfl⟩, .inr ⟨_, HST.out ▸ HP.out, HJ3.out⟩⟩

theorem back1_stops (F : Fence) (n : Nat) (hf : F.fn 56) (hro : F.round = none) (hn : 1 ≤ n) (Bl n₀ : Nat) (v : Value) (es : List WA) (w : World)
    (hl : w.cell? ⟨Bl, 0, none⟩ = some v) (hB : Bl < n₀) (hS : w.ownsRow 0 80 65 v es.length ((es.map (·.1)).flatMap wcells)) (hS2 : ∀ g, v.ownBlock = some g → g < n₀) (hsz : es.length < 1073741824) :
    SeqStopsK F n Try.prog 56 #[.pointer (some ⟨Bl, 0, none⟩)] wenc (Below n₀) (fun ys => ys = backs es) (fun pre => pre <+: backs es) es.length w :=
  fun l J Jx W hW hJ hJx hY h0 =>
    back1_in F n hf hro hn l Bl n₀ v es J Jx W hY ((hW.cell (p := ⟨Bl, 0, none⟩) (World.block_lt_of_cell? w _ hl)).trans hl) hB (own_keep hS fun g hg => hW.block g (hS.lt g hg).2) hS2 h0 hsz

end Go.Proofs.Ythjlmkmijehnjaa
