/- Rows of elements of several cells, turned in place: copies, deletions, what is laid at the end. No condition. -/
import Derived.Test.YtjgobljclodpfaaEl
import Derived.Laws.CopyRow
import Derived.Lib.AppendZerosOnto
import Derived.Lib.AppendZeros
namespace Go.Proofs.Ytjgobljclodpfaa.K
open Go Go.RowKit
set_option linter.unusedVariables false
set_option linter.unusedSimpArgs false

/-- A row, by its block. -/
theorem own_row {w : World} {base e k n g cap : Nat} {cur : Array Value} {xs : List Value} (hg : w.heap[g]? = some (.cells cur e (0, 0))) (hb : base ≤ g) (hn : n ≤ cap) (hc : cap ≤ maxLen) (hs : cur.size = cap * k) (hl : xs.length = n * k) (ht : cur.toList.take (n * k) = xs) :
    w.ownsRow base e k (.slice (some ⟨g, 0, none⟩) n cap) n xs := ⟨hl, .inr ⟨g, cap, cur, rfl, hb, hg, hn, hc, hs, ht⟩⟩
theorem own_open {w : World} {base e k n g cap : Nat} {xs : List Value} (h : w.ownsRow base e k (.slice (some ⟨g, 0, none⟩) n cap) n xs) :
    ∃ cur : Array Value, w.heap[g]? = some (.cells cur e (0, 0)) ∧ base ≤ g ∧ n ≤ cap ∧ cap ≤ maxLen ∧ cur.size = cap * k ∧ xs.length = n * k ∧ cur.toList.take (n * k) = xs := by
  obtain ⟨hl, ⟨h, -⟩ | ⟨g', cap', cur, hv, hb, hg, hn, hc, hs, ht⟩⟩ := h
  · cases h
  · cases hv
    exact ⟨cur, hg, hb, hn, hc, hs, hl, ht⟩

/-- cs laid over a row from place o on. -/
def lay (cur : Array Value) (o : Nat) (cs : List Value) : Array Value := (cur.toList.take o ++ cs ++ cur.toList.drop (o + cs.length)).toArray
theorem lay_size {cur : Array Value} {o : Nat} {cs : List Value} (h : o + cs.length ≤ cur.size) : (lay cur o cs).size = cur.size := by
  simp only [lay, List.size_toArray, List.length_append, List.length_take, List.length_drop, Array.length_toList]; omega
theorem lay_list {cur : Array Value} {o : Nat} {cs : List Value} : (lay cur o cs).toList = cur.toList.take o ++ cs ++ cur.toList.drop (o + cs.length) := by simp [lay]

theorem below_row {w : World} {g : Nat} (cs : Array Value) : w.grownBy (w.setRow g cs) (some g) := ⟨rfl, rfl, rfl, by simp, fun j _ hne => setRow_other w g j cs (fun e => hne (by rw [e]))⟩

section
variable {P : Program} {t e k bytes : Nat} {z : Value}

theorem at_row {w : World} {g o : Nat} {cur : Array Value} {e' : TypeId} (hg : w.heap[g]? = some (.cells cur e' (0, 0))) (cs : List Value) (h : ∀ j v, cs[j]? = some v → cur.toList[o + j]? = some v) : ∀ j v, cs[j]? = some v → w.cell? ((⟨g, o, none⟩ : Addr).add j) = some v := by
  intro j v hv
  have hadd : (⟨g, o, none⟩ : Addr).add j = ⟨g, o + j, none⟩ := by unfold Addr.add; split <;> simp_all
  rw [hadd]
  simpa [World.cell?, hg] using h j v hv

/-- copy(d, s), d within a row. -/
theorem run_copyk (E : Elem P t e k bytes z) (w : World) (ty : TypeId) (g o dLen dCap : Nat) (a : Addr) (sLen sCap m : Nat) (cur : Array Value) (e' : TypeId) (cs : List Value)
    (hg : w.heap[g]? = some (.cells cur e' (0, 0))) (hm : m = Nat.min sLen dLen) (hn : cs.length = m * k)
    (hsrc : ∀ j v, cs[j]? = some v → w.cell? (a.add j) = some v) (hfit : o + cs.length ≤ cur.size) (h1 : ∀ v ∈ cs, v.oneCell' = true) :
    (Builtin.copy_ #[t, t] ty #[.slice (some ⟨g, o, none⟩) dLen dCap, .slice (some a) sLen sCap]).run P w = .ok (goInt m) (w.setRow g (lay cur o cs)) := by
  obtain ⟨i, hi, hz, hs, hb⟩ := info_parts E.info
  have hl := run_loadCells_list (P := P) w a cs hsrc
  have hst := run_storeCells_at P g o e' cs 0 cur w hg (by simpa using hfit) h1
  simp only [Nat.add_zero] at hst
  subst hm
  rw [hn] at hl
  simp [Builtin.copy_, run_underlying E.ut, Builtin.lenOf, Builtin.firstCells, sizeOf, typeInfo, hi, hs, hl, hst, lay, hn]

/-- append(s[:i], x...) within the row's room. -/
theorem run_appk (E : Elem P t e k bytes z) (w : World) (ty : TypeId) (g n cap : Nat) (a : Addr) (m c : Nat) (cur : Array Value) (e' : TypeId) (cs : List Value)
    (hg : w.heap[g]? = some (.cells cur e' (0, 0))) (hn : cs.length = m * k)
    (hsrc : ∀ j v, cs[j]? = some v → w.cell? (a.add j) = some v) (hroom : n + m ≤ cap) (hfit : n * k + cs.length ≤ cur.size) (h1 : ∀ v ∈ cs, v.oneCell' = true) :
    (Builtin.append_ #[t, t] ty #[.slice (some ⟨g, 0, none⟩) n cap, .slice (some a) m c]).run P w = .ok (.slice (some ⟨g, 0, none⟩) (n + m) cap) (w.setRow g (lay cur (n * k) cs)) := by
  obtain ⟨i, hi, hz, hs, hb⟩ := info_parts E.info
  have hl := run_firstCells_some (P := P) w k m a m c cs hn hsrc
  have hst := run_storeCells_at P g (n * k) e' cs 0 cur w hg (by simpa using hfit) h1
  have hadd : (⟨g, 0, none⟩ : Addr).add (n * k) = ⟨g, n * k, none⟩ := by unfold Addr.add; split <;> simp_all
  simp only [Nat.add_zero] at hst
  simp [Builtin.append_, run_underlying E.ut, sizeOf, typeInfo, hi, hs, Builtin.lenOf, hroom, hl, hadd, hst, lay]

/-- clear(s), s within a row. -/
theorem run_cleark (E : Elem P t e k bytes z) (w : World) (ty : TypeId) (g o m c : Nat) (cur : Array Value) (e' : TypeId) (hm : 0 < m)
    (hg : w.heap[g]? = some (.cells cur e' (0, 0))) (hfit : o + m * k ≤ cur.size) (h1 : ∀ v ∈ (Builtin.zeroCells z.cells m).toList, v.oneCell' = true) :
    (Builtin.clear_ #[t] ty #[.slice (some ⟨g, o, none⟩) m c]).run P w = .ok (.tuple #[]) (w.setRow g (lay cur o (Builtin.zeroCells z.cells m).toList)) := by
  obtain ⟨i, hi, hz, hs, hb⟩ := info_parts E.info
  have hzl : (Builtin.zeroCells z.cells m).toList.length = m * k := by simp [size_zeroCells, E.zs]
  have hst := run_storeCells_at P g o e' (Builtin.zeroCells z.cells m).toList 0 cur w hg (by rw [hzl]; omega) h1
  simp only [Nat.add_zero] at hst
  obtain ⟨m', rfl⟩ : ∃ m', m = m' + 1 := ⟨m - 1, by omega⟩
  simp [Builtin.clear_, run_underlying E.ut, zeroValue, typeInfo, hi, hz, hst, lay]

end

section
variable {P : Program} {w w' : World} {o : Oper} {a : Act} {K : Act → World → Prop} {Q : Exit → Act → World → Prop}
theorem wp_copy2 (d s : Operand) (t t' : TypeId) (ho : o.op = .call { callee := .builtin .copy, args := #[d, s], argTypes := #[t, t'] }) (v u : Value) (hd : a.eval d = v) (hs : a.eval s = u) {v' : Value}
    (hr : (Builtin.copy_ #[t, t'] o.type #[v, u]).run P w = .ok v' w') (h : K (a.put o.dst v') w') : o.wp P a w K Q := by
  unfold Oper.wp execOp
  simp only [ho, resolve, invoke, builtin, Sem.run_bind, Sem.run_pure, Result.andThen_ok, List.map_toArray, List.map_cons, List.map_nil, hd, hs, hr]
  exact h
theorem wpList_copy2 {ops : Array Oper} {rest : List Oper} (hgd : o.guard = none) (d s : Operand) (t t' : TypeId) (ho : o.op = .call { callee := .builtin .copy, args := #[d, s], argTypes := #[t, t'] }) (v u : Value) (hd : a.eval d = v) (hs : a.eval s = u) {v' : Value}
    (hr : (Builtin.copy_ #[t, t'] o.type #[v, u]).run P w = .ok v' w') (h : wpList P ops Q rest (a.put o.dst v') w') : wpList P ops Q (o :: rest) a w :=
  wpList_plain hgd fun _ hK => wp_copy2 d s t t' ho v u hd hs hr (hK _ _ h)
theorem wp_clear2 (s : Operand) (t : TypeId) (ho : o.op = .call { callee := .builtin .clear, args := #[s], argTypes := #[t] }) (u : Value) (hs : a.eval s = u) {v' : Value}
    (hr : (Builtin.clear_ #[t] o.type #[u]).run P w = .ok v' w') (h : K (a.put o.dst v') w') : o.wp P a w K Q := by
  unfold Oper.wp execOp
  simp only [ho, resolve, invoke, builtin, Sem.run_bind, Sem.run_pure, Result.andThen_ok, List.map_toArray, List.map_cons, List.map_nil, hs, hr]
  exact h
theorem wpList_clear2 {ops : Array Oper} {rest : List Oper} (hgd : o.guard = none) (s : Operand) (t : TypeId) (ho : o.op = .call { callee := .builtin .clear, args := #[s], argTypes := #[t] }) (u : Value) (hs : a.eval s = u) {v' : Value}
    (hr : (Builtin.clear_ #[t] o.type #[u]).run P w = .ok v' w') (h : wpList P ops Q rest (a.put o.dst v') w') : wpList P ops Q (o :: rest) a w :=
  wpList_plain hgd fun _ hK => wp_clear2 s t ho u hs hr (hK _ _ h)
end

/-- What insertion leaves of a row: the elements ahead of the place, the new ones, those from the place on. -/
theorem ins_list {k n i : Nat} {xs news cur : List Value} (hn : i ≤ n) (hl : xs.length = n * k) (hnew : news.length = k) (hcur : (n + 1) * k ≤ cur.length) (ht : cur.take (n * k) = xs) :
    ∃ rest, (((cur.take ((i + 1) * k) ++ xs.drop (i * k) ++ cur.drop ((i + 1) * k + (xs.drop (i * k)).length)).take (i * k) ++ news ++ (cur.take ((i + 1) * k) ++ xs.drop (i * k) ++ cur.drop ((i + 1) * k + (xs.drop (i * k)).length)).drop (i * k + news.length)) = xs.take (i * k) ++ news ++ xs.drop (i * k) ++ rest) := by
  have hik : i * k ≤ n * k := Nat.mul_le_mul_right _ hn
  have hi1 : (i + 1) * k = i * k + k := Nat.succ_mul _ _
  have hn1 : (n + 1) * k = n * k + k := Nat.succ_mul _ _
  refine ⟨cur.drop ((i + 1) * k + (xs.drop (i * k)).length), ?_⟩
  have h1 : (cur.take ((i + 1) * k) ++ xs.drop (i * k) ++ cur.drop ((i + 1) * k + (xs.drop (i * k)).length)).take (i * k) = xs.take (i * k) := by
    rw [List.append_assoc, List.take_append_of_le_length (by rw [List.length_take]; omega), List.take_take, ← ht, List.take_take, Nat.min_eq_left (by omega), Nat.min_eq_left hik]
  have h2 : (cur.take ((i + 1) * k) ++ xs.drop (i * k) ++ cur.drop ((i + 1) * k + (xs.drop (i * k)).length)).drop (i * k + news.length) = xs.drop (i * k) ++ cur.drop ((i + 1) * k + (xs.drop (i * k)).length) := by
    rw [List.append_assoc, List.drop_append, List.length_take, List.drop_of_length_le (by rw [List.length_take]; omega), Nat.min_eq_left (by omega), show i * k + news.length - (i + 1) * k = 0 from by omega, List.nil_append, List.drop_zero]
  rw [h1, h2]
  simp [List.append_assoc]

theorem ins_list2 {k n i : Nat} {xs news cur : List Value} (hn : i ≤ n) (hl : xs.length = n * k) (hnew : news.length = k) (hcur : (n + 1) * k ≤ cur.length) (ht : cur.take (i * k) = xs.take (i * k)) :
    ∃ rest, (((cur.take (i * k) ++ news ++ cur.drop (i * k + news.length)).take ((i + 1) * k) ++ xs.drop (i * k) ++ (cur.take (i * k) ++ news ++ cur.drop (i * k + news.length)).drop ((i + 1) * k + (xs.drop (i * k)).length)) = xs.take (i * k) ++ news ++ xs.drop (i * k) ++ rest) := by
  have hik : i * k ≤ n * k := Nat.mul_le_mul_right _ hn
  have hi1 : (i + 1) * k = i * k + k := Nat.succ_mul _ _
  have hn1 : (n + 1) * k = n * k + k := Nat.succ_mul _ _
  have h1 : (cur.take (i * k) ++ news ++ cur.drop (i * k + news.length)).take ((i + 1) * k) = xs.take (i * k) ++ news := by
    rw [ht, List.take_append_of_le_length (by simp only [List.length_append, List.length_take]; omega), List.take_of_length_le (by simp only [List.length_append, List.length_take]; omega)]
  exact ⟨_, by rw [h1]⟩

end Go.Proofs.Ytjgobljclodpfaa.K
