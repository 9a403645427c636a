/- Steps inside a drawn region: append onto a row of the call's own, of bytes and of a string. No condition beyond sizes. -/
import Derived.Test.YtjgobljclodpfaaG2
import Derived.Test.YtjgobljclodpfaaOct2
namespace Go.Proofs.Ytjgobljclodpfaa.G
open Go.RowKit K L
set_option linter.unusedVariables false

theorem row_fresh {w w' : World} {base : Nat} {e k n : Nat} {v : Value} {xs : List Value} (h : w.ownsRow base e k v n xs) (hb : Below w.heap.size w w') : w'.ownsRow base e k v n xs :=
  h.kept (w' := w') (row := some w.heap.size) (grown_below_any hb _) (by
    cases ho : v.ownBlock with
    | none => exact .inl rfl
    | some b => refine .inr fun e => ?_
                have := (h.lt b ho).2
                cases e
                omega)
where
  grown_below_any {a b : World} (h : Below a.heap.size a b) (row : Option Nat) : a.grownBy b row := ⟨h.os, h.tape, h.output, h.size, fun j hj _ => h.block j hj⟩
theorem ob_fresh {w w' : World} {base e : Nat} {v : Value} {xs : List UInt8} (h : Ob w base e v xs) (hb : Below w.heap.size w w') : Ob w' base e v xs := row_fresh h hb

/-- A string's bytes onto a row of the call's own. -/
theorem run_app_str {P : Program} {w : World} {t u e : Nat} (E : Elem P t e 1 1 (.int .u8 0)) (hu : P.underlying u = some .string) (ty : TypeId) (base : Nat) {v : Value} {xs ys : List UInt8}
    (hown : Ob w base e v xs) (hb : xs.length + ys.length ≤ 1073741824) (hbase : base ≤ w.heap.size) :
    ∃ v' w', (Builtin.append_ #[t, u] ty #[v, .string ⟨ys.toArray⟩]).run P w = .ok v' w' ∧ Ob w' base e v' (xs ++ ys) ∧ w.grownBy w' v.ownBlock ∧ (v'.ownBlock = v.ownBlock ∨ ∀ g, v'.ownBlock = some g → w.heap.size ≤ g) := by
  obtain ⟨i, hi, hz, hs, hb'⟩ := info_parts E.info
  have hsz : (⟨ys.toArray⟩ : ByteArray).size = ys.length := by simp [ByteArray.size]
  have hmap : ((⟨ys.toArray⟩ : ByteArray).data.map fun b => Value.int .u8 b.toNat) = (bvs ys).toArray := by simp [bvs, bv]
  have hex : (⟨ys.toArray⟩ : ByteArray).extract 0 ys.length = ⟨ys.toArray⟩ := by rw [← hsz]; exact ByteArray.extract_zero_size
  have hf : ∀ w : World, (Builtin.firstCells 1 ys.length (.string ⟨ys.toArray⟩)).run P w = .ok (bvs ys).toArray w := by
    intro w
    simp only [Builtin.firstCells, hex, hmap, Sem.run_pure]
  have hzc : (Value.int IntKind.u8 0).cells = #[.int .u8 0] := rfl
  have hlen : (bvs xs ++ bvs ys).length = (xs.length + ys.length) * 1 := by simp [bvs]
  have goal2 : ∀ {w' : World} {v' : Value}, w'.ownsRow base e 1 v' (xs.length + ys.length) (bvs xs ++ bvs ys) → Ob w' base e v' (xs ++ ys) := fun h => Ob.more h rfl
  have grown : ∀ (cap : Nat), xs.length + ys.length ≤ cap → cap ≤ maxLen → ∀ (row : Option Nat),
      (w.drew.alloc (.cells ((bvs xs).toArray ++ (bvs ys).toArray ++ Builtin.zeroCells #[.int .u8 0] (cap - (xs.length + ys.length))) e)).ownsRow base e 1
        (.slice (some ⟨w.heap.size, 0, none⟩) (xs.length + ys.length) cap) (xs.length + ys.length) (bvs xs ++ bvs ys) ∧
      w.grownBy (w.drew.alloc (.cells ((bvs xs).toArray ++ (bvs ys).toArray ++ Builtin.zeroCells #[.int .u8 0] (cap - (xs.length + ys.length))) e)) row := by
    intro cap hge hcm row
    refine ⟨⟨hlen, .inr ⟨w.heap.size, _, _, rfl, hbase, heap_alloc_new w.drew _, hge, hcm, ?_, ?_⟩⟩, ⟨rfl, rfl, rfl, by simp, fun k hk _ => heap_alloc_old w.drew _ hk⟩⟩
    · simp only [Array.size_append, List.size_toArray, size_zeroCells, bvs_len]; simp; omega
    · simp only [Array.toList_append, List.append_assoc]
      rw [← List.append_assoc, ← hlen]
      exact List.take_left
  have h63 : xs.length + ys.length ≤ maxLen := by simp only [maxLen]; omega
  rcases hown.2 with ⟨rfl, hn0⟩ | ⟨g, cap, cur, rfl, hbg, hg, hnc, hcm, hcs, htake⟩
  · obtain rfl : xs = [] := List.eq_nil_of_length_eq_zero hn0
    by_cases hm : ys = []
    · subst hm
      refine ⟨.slice none 0 0, w, ?_, Ob.nil _ _ _, ⟨rfl, rfl, rfl, Nat.le_refl _, fun _ _ _ => rfl⟩, .inl rfl⟩
      simp [Builtin.append_, run_underlying E.ut, run_underlying hu, sizeOf, typeInfo, hi, Builtin.lenOf, Builtin.firstCells, ByteArray.size]
    · have hy : 0 < ys.length := by cases ys <;> simp at hm ⊢
      have hr := run_append_nil_string (P := P) w t u ty e i _ E.ut hu hi hz ⟨ys.toArray⟩ (by omega) (by omega) (by rw [hsz, hb']; simp at hb; omega)
      rw [hmap, hsz] at hr
      have hgr := grown (grownCap w ys.length 0 e) (by simpa using grownCap_ge w ys.length 0 e) (grownCap_le_maxLen w ys.length 0 e (by simpa using h63)) (Value.ownBlock (.slice none 0 0))
      simp only [List.length_nil, Nat.zero_add, bvs, List.map_nil, List.nil_append, Array.empty_append] at hgr
      rw [hzc] at hr
      refine ⟨_, _, hr, ?_, hgr.2, .inr fun g hg => by cases hg; exact Nat.le_refl _⟩
      exact goal2 (by simpa [bvs] using hgr.1)
  · by_cases hroom : xs.length + ys.length ≤ cap
    · have hst := run_storeCells_at P g (xs.length * 1) e (bvs ys) 0 cur w hg (by simp [bvs]; omega) (one_bvs ys)
      simp only [Nat.add_zero] at hst
      refine ⟨.slice (some ⟨g, 0, none⟩) (xs.length + ys.length) cap, w.setRow g (cur.toList.take (xs.length * 1) ++ bvs ys ++ cur.toList.drop (xs.length * 1 + (bvs ys).length)).toArray, ?_, goal2 ⟨hlen, .inr ⟨g, cap, _, rfl, hbg, setRow_heap w g cur _ e _ hg, hroom, hcm, ?_, ?_⟩⟩, ⟨rfl, rfl, rfl, by simp, fun k _ hk => setRow_other w g k _ (fun e => hk (by simp [Value.ownBlock, e]))⟩, .inl rfl⟩
      · simp [Builtin.append_, run_underlying E.ut, run_underlying hu, sizeOf, typeInfo, hi, hs, Builtin.lenOf, hsz, hroom, hf, Addr.add_lit]
        simp at hst
        simp [hst]
      · simp only [List.size_toArray, List.length_append, List.length_take, List.length_drop, Array.length_toList, bvs_len]
        omega
      · have : cur.toList.take (xs.length * 1) = bvs xs := htake
        rw [this, ← hlen]
        exact List.take_left
    · have holds : ∀ j u, (bvs xs)[j]? = some u → w.cell? ((⟨g, 0, none⟩ : Addr).add j) = some u := hown.cells (g := g) rfl
      have h63' : ¬ (9223372036854775807 < ((xs.length : Int) + (ys.length : Int))) := by omega
      have hfit := growslice_fits (need := xs.length + ys.length) (old := cap) (bytes := i.bytes) (by omega) (by rw [hb']; omega)
      have h48' : ¬ (281474976710656 < Builtin.nextslicecap (xs.length + ys.length) cap * i.bytes) := by omega
      have hfo := run_firstCells_some (P := P) w.drew 1 xs.length ⟨g, 0, none⟩ xs.length cap (bvs xs) (by simp [bvs]) (by simpa using holds)
      have hgr := grown (grownCap w (xs.length + ys.length) cap e) (grownCap_ge w _ cap e) (grownCap_le_maxLen w _ cap e h63) (Value.ownBlock (.slice (some ⟨g, 0, none⟩) xs.length cap))
      refine ⟨_, _, ?_, goal2 hgr.1, hgr.2, .inr fun g hg => by cases hg; exact Nat.le_refl _⟩
      simp [Builtin.append_, run_underlying E.ut, run_underlying hu, sizeOf, typeInfo, zeroValue, hi, hz, hs, Builtin.lenOf, hsz, hroom, h63', h48', Question.forced, hf, hfo, newRow, grownCap]
      congr 2
      apply Array.ext'
      simp [List.append_assoc, hzc]

section
variable {P : Program} {o : Oper} {a : Act} {w : World} {K : Act → World → Prop} {Q : Exit → Act → World → Prop}
/-- Bytes onto a row of the call's own, as a step. -/
theorem st_app {t e : Nat} (E : Elem P t e 1 1 (.int .u8 0)) (s x : Operand) (ho : o.op = .call { callee := .builtin .append, args := #[s, x], argTypes := #[t, t] }) (base : Nat) {F : Nat → Prop} {v vx : Value} {xs ys : List UInt8}
    (hown : Ob w base e v xs) (hsrc : Bs w F vx ys) (hs : a.eval s = v) (hx : a.eval x = vx) (hb : xs.length + ys.length ≤ 1073741824) (hbase : base ≤ w.heap.size)
    (h : ∀ v' w', Ob w' base e v' (xs ++ ys) → w.grownBy w' v.ownBlock → K (a.put o.dst v') w') : o.wp P a w K Q := by
  obtain ⟨v', w', hr, h2, h3⟩ := run_app E o.type base hown hsrc (one_bvs ys) hb (by decide) hbase
  unfold Oper.wp execOp
  simp only [ho, resolve, invoke, builtin, Sem.run_bind, Sem.run_pure, Result.andThen_ok, List.map_toArray, List.map_cons, List.map_nil, hs, hx, hr]
  exact h v' w' (Ob.more h2 rfl) h3
/-- .. a string's. -/
theorem st_app_str {t u e : Nat} (E : Elem P t e 1 1 (.int .u8 0)) (hu : P.underlying u = some .string) (s x : Operand) (ho : o.op = .call { callee := .builtin .append, args := #[s, x], argTypes := #[t, u] }) (base : Nat) {v : Value} {xs ys : List UInt8}
    (hown : Ob w base e v xs) (hs : a.eval s = v) (hx : a.eval x = .string ⟨ys.toArray⟩) (hb : xs.length + ys.length ≤ 1073741824) (hbase : base ≤ w.heap.size)
    (h : ∀ v' w', Ob w' base e v' (xs ++ ys) → w.grownBy w' v.ownBlock → K (a.put o.dst v') w') : o.wp P a w K Q := by
  obtain ⟨v', w', hr, h2, h3, -⟩ := run_app_str E hu o.type base hown hb hbase
  unfold Oper.wp execOp
  simp only [ho, resolve, invoke, builtin, Sem.run_bind, Sem.run_pure, Result.andThen_ok, List.map_toArray, List.map_cons, List.map_nil, hs, hx, hr]
  exact h v' w' h2 h3
end

end Go.Proofs.Ytjgobljclodpfaa.G
