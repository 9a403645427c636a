/- Layer 27: going over the facts of a kind: the iterator's contract. No condition beyond sizes. -/
import Derived.Test.YtfdijgdojejimaaId2
import Derived.RangeFuncNested
import Derived.RangeFuncBound
import Derived.RangeFuncLeaves
import Derived.Shelf.RegionOpen
import Derived.OwnWalkIn
import Derived.TacticsInMore
import Derived.LoopNIn
import Derived.LoopIn
import Derived.Maps.AppendAt
namespace Go.Proofs.Ytfdijgdojejimaa
open Go.RowKit Go.Shelf K L
set_option linter.unusedVariables false
set_option linter.unusedSimpArgs false
attribute [local go_sem] Oper.semAt_some

/-- A fact whose bytes lie in w0. -/
abbrev FA (w0 : World) := {e : FE // Bs w0 (· < w0.heap.size) e.2 e.1.bytes ∧ e.1.bytes.length ≤ 1048576}
def kin {w0 : World} (k : Int) (e : FA w0) : Bool := e.1.1.kind == k

/-- What a round keeps for the iterator: what lay below n₀, and the box of the kind. -/
def KK (n₀ Bk : Nat) (W W' : World) : Prop := Below n₀ W W' ∧ W'.heap[Bk]? = W.heap[Bk]?
theorem kk_t {n₀ Bk : Nat} {A B C : World} (h : KK n₀ Bk A B) (k : KK n₀ Bk B C) : KK n₀ Bk A C := ⟨h.1.trans k.1, k.2.trans h.2⟩
theorem kk_b {n₀ Bk : Nat} {w : World} (hn : n₀ ≤ w.heap.size) (hb : Bk < w.heap.size) (W : World) (l : Nat) (o o' : Obj) (hl : w.heap.size ≤ l) (h : W.heap[l]? = some o) (h1 : o.isCells = false) (h2 : o.isWalk = false) : KK n₀ Bk W (W.putObj l o') :=
  ⟨belowK_b hn W l o o' hl h h1 h2, World.putObj_heap_other (by omega)⟩
theorem kk_low {n₀ Bk : Nat} {W W' : World} (h : Below n₀ W W') (hb : Bk < n₀) : KK n₀ Bk W W' := ⟨h, h.block Bk hb⟩
theorem kk_cell {n₀ Bk : Nat} {W W' : World} (h : KK n₀ Bk W W') {v : Value} (hc : W.cell? ⟨Bk, 0, none⟩ = some v) : W'.cell? ⟨Bk, 0, none⟩ = some v := (World.cell?_of_block h.2).trans hc

theorem below_any {a b : World} (h : Below a.heap.size a b) : a.grownBy b none := ⟨h.os, h.tape, h.output, h.size, fun j hj _ => h.block j hj⟩

set_option maxRecDepth 100000 in
set_option maxHeartbeats 4000000 in
theorem kind1_in (w0 : World) (F : Fence) (n : Nat) (h50 : F.fn 50) (hro : F.round = none) (hn : 1 ≤ n) (l Bl Bk n₀ : Nat) (v : Value) (k : Int) (es : List (FA w0)) (J Jx : List (FA w0) → World → Prop) (W : World) (hJ : AbidesFrom W.heap.size J)
    (hY : ∀ pre x W1, J pre W1 → pre.length < es.length → YieldAt F (n - 1) Try.prog l #[x.1.agg] W1 fun e W' => (e = .returned (.bool true) ∧ J (pre ++ [x]) W' ∧ KK n₀ Bk W1 W') ∨ (e = .returned (.bool false) ∧ Jx (pre ++ [x]) W'))
    (hl : W.cell? ⟨Bl, 0, none⟩ = some v) (hk : W.cell? ⟨Bk, 0, none⟩ = some (.int .i64 k)) (hS : Sl W (· < n₀) 7 v es.length ((es.map (·.1)).flatMap FE.cells)) (h0 : J [] W) (hn0 : n₀ ≤ W.heap.size) :
    CallsIn F n Try.prog 50 #[.func (.yield l) #[] #[], .pointer (some ⟨Bl, 0, none⟩), .pointer (some ⟨Bk, 0, none⟩)] W fun e W' => (∃ v, e = .returned v) ∧
      ((∃ ys, ys = es.filter (kin k) ∧ J ys W') ∨ (∃ pre, pre <+: es.filter (kin k) ∧ Jx pre W')) := by
  have hS' := hS
  obtain ⟨hlen, A, c, rfl, h1, h2, -, -⟩ := hS
  unfold maxLen at h2
  refine callsIn_of_wp Try.func50 rfl h50 ?_ hro
  simp only [Try.ntmps50, List.size_toArray, List.length_cons, List.length_nil, Nat.reduceAdd, Nat.reduceSub, Array.replicate_succ, Array.replicate_zero, List.push_toArray, List.append_toArray, List.nil_append, List.cons_append]
  gi_wp2
  gi_loopw [8] (fun i wr => ∃ m : Nat, m ≤ es.length ∧ i = .int .i64 m ∧ J ((es.take m).filter (kin k)) wr ∧ Below n₀ W wr ∧ wr.cell? ⟨Bk, 0, none⟩ = some (.int .i64 k)) (fun i _ => es.length - (intOf i).toNat)
  case atStart => exact ⟨0, Nat.zero_le _, rfl, by simpa using h0, Below.refl _ _, hk⟩
  case round =>
    obtain ⟨m, hm, rfl, hJs, hb, hk1⟩ := hrel
    by_cases hlt : m < es.length
    · obtain ⟨b, o, rfl, -, -, c0, c1, c2, c3, c4, c5, c6⟩ := row_at (es := es.map (·.1)) (w := wr) (F := (· < n₀)) (n := es.length) (c := c) (by rw [List.length_map]; exact Sl.belowB hS' (by decide) hb) m (by simpa using hlt)
      have hsn : es.take (m + 1) = es.take m ++ [es[m]] := take_snoc es m hlt
      have hpre : (es.take m).filter (kin k) <+: es.filter (kin k) := (List.take_prefix m es).filter _
      have hpre' : (es.take (m + 1)).filter (kin k) <+: es.filter (kin k) := (List.take_prefix (m + 1) es).filter _
      have hlm : ((es.take m).filter (kin k)).length ≤ m := Nat.le_trans (List.length_filter_le _ _) (by simp; omega)
      rw [hsn, List.filter_append] at hpre'
      simp only [List.getElem_map] at c0 c1 c2 c3 c4 c5 c6
      generalize es[m] = y at *
      obtain ⟨⟨x, vb⟩, hy⟩ := y
      obtain ⟨Ab, cb, hvb, -, -, -, -⟩ := Bs.open_ hy.1
      dsimp only at hvb c0 c1 c2 c3 c4 c5 c6
      subst hvb
      have hbb := (Below.refl _ wr).alloc (Nat.le_refl _) (.cells #[.int .i64 x.kind, .int .i64 x.node, .int .i64 x.frm, .int .u32 (x.number : Nat), .string ⟨x.name.toArray⟩, .int .i64 x.code, .slice Ab x.bytes.length cb] 26)
      have hJ1 := hJ _ wr _ none hJs (below_any hbb) (fun r e => by cases e)
      have hk2 := fun o => cell_al hk1 o
      by_cases hq : x.kind = k
      · have hd : (x.kind == k) = true := by simp [hq]
        have hkin : kin k ⟨(x, .slice Ab x.bytes.length cb), hy⟩ = true := hd
        obtain ⟨fn, tmps, assign, body, hyl, hR⟩ := hY _ ⟨(x, .slice Ab x.bytes.length cb), hy⟩ _ hJ1 (by omega)
        dsimp only [FE.agg, FE.cells, Fact.cells] at hyl
        clear hY hS' hJs hpre hq
        have HJ := Lib.hid hJ
        clear hJ
        gi_wp2
        refine hR.mono ?_
        rintro e W3 (⟨rfl, hJ3, hk3⟩ | ⟨rfl, hJx3⟩)
        · gi_wp2
          go_roundw
          case rel =>
            refine ⟨m + 1, by omega, by simp, ?_, (hb.trans (hbb.mono (by have := hb.size; omega))).trans hk3.1, kk_cell hk3 (hk2 _)⟩
            rw [hsn, List.filter_append, List.filter_cons_of_pos hkin]
            exact hJ3
          case measure => simp [intOf]; omega
        · gi_wp2
          refine bodyPost_ret (results_none rfl _ _ _) rfl ?_
          rw [List.filter_cons_of_pos hkin] at hpre'
          exact ⟨⟨_, rfl⟩, .inr ⟨_, hpre', hJx3⟩⟩
      · have hd : (x.kind == k) = false := by simp [hq]
        have hkin : ¬ kin k ⟨(x, .slice Ab x.bytes.length cb), hy⟩ = true := by unfold kin; simp [hq]
        clear hY hS' hq
        gi_wp2
        refine ⟨fun _ h => (by cases h), ?_⟩
        gi_wp2
        go_roundw
        case rel =>
          refine ⟨m + 1, by omega, by simp, ?_, hb.trans (hbb.mono (by have := hb.size; omega)), hk2 _⟩
          rw [hsn, List.filter_append, List.filter_cons_of_neg hkin]
          simpa using hJ1
        case measure => simp [intOf]; omega
    · obtain rfl : m = es.length := by omega
      rw [List.take_length] at hJs
      gi_wp2
      go_end0
      exact ⟨⟨_, rfl⟩, .inl ⟨_, rfl, hJs⟩⟩

end Go.Proofs.Ytfdijgdojejimaa
