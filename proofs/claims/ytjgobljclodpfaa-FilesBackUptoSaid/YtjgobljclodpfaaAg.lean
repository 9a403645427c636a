/- Aggregates of many cells, in operations of a walk: variables made, written, built of two parts, laid alone in a row. No condition. -/
import Derived.Test.YtjgobljclodpfaaEl
import Derived.Test.YtjgobljclodpfaaG
import Derived.Deep.MidRow
import Derived.Deep.WholeRow
import Derived.WalkKit
namespace Go.Proofs.Ytjgobljclodpfaa.K
open Go Go.RowKit
set_option linter.unusedVariables false
set_option linter.unusedSimpArgs false

theorem cell_in {w : World} {b : Nat} {cs : Array Value} {e : TypeId} (h : w.heap[b]? = some (.cells cs e (0, 0))) (j : Nat) : w.cell? ⟨b, j, none⟩ = cs[j]? := cell_of_row w b j cs e _ h
theorem frozen_in {w : World} {b : Nat} {cs : Array Value} {e : TypeId} (h : w.heap[b]? = some (.cells cs e (0, 0))) (j : Nat) : w.frozen? ⟨b, j, none⟩ = false := frozen_of_row w b j cs e h

theorem upd_setRow (w : World) (g : Nat) (cs : Array Value) : Upd (· = g) w (w.setRow g cs) := ⟨rfl, rfl, rfl, by rw [size_setRow]; exact Nat.le_refl _, fun b _ hn => setRow_other w g b cs hn⟩

section
variable {P : Program}

/-- A variable of many cells is made. -/
theorem wl_alloc {ops : Array Oper} {rest : List Oper} {op : Oper} {a : Act} {w : World} {Q : Exit → Act → World → Prop} (hgd : op.guard = none) (ty : TypeId) (ho : op.op = .alloc ty) {z : Array Value} (hz : ∀ w, (zeroValue ty).run P w = .ok (.agg z) w)
    (h : wpList P ops Q rest (a.put op.dst (.pointer (some ⟨w.heap.size, 0, none⟩))) (w.alloc (.cells z ty))) : wpList P ops Q (op :: rest) a w :=
  wpList_plain hgd fun K hK => by
    unfold Oper.wp execOp
    simp only [ho, Instr.alloc, newVar, newRow, Value.cells, Sem.run_bind, Sem.run_pure, Result.andThen_ok, hz, run_newObj_alloc]
    exact hK _ _ h

/-- .. and written as a whole, before anything else is made. -/
theorem wl_store_new {ops : Array Oper} {rest : List Oper} {op : Oper} {a : Act} {w : World} {Q : Exit → Act → World → Prop} (hgd : op.guard = none) (ty : TypeId) (x y : Operand) (ho : op.op = .store ty x y) (c c' : Array Value) (t : TypeId)
    (hx : a.eval x = .pointer (some ⟨w.heap.size, 0, none⟩)) (hy : a.eval y = .agg c') (hi : (P.info? ty).map (·.size) = some c'.size) (hs : c.size = c'.size) (h1 : c'.all (·.oneCell') = true)
    (h : wpList P ops Q rest (a.put op.dst undef) (w.alloc (.cells c' t))) : wpList P ops Q (op :: rest) a (w.alloc (.cells c t)) :=
  wpList_plain hgd fun K hK => by
    have hr := run_storeVar_row (P := P) (w.alloc (.cells c t)) w.heap.size t ty c c' (heap_alloc_last w _) hi hs h1
    rw [World.setRow_alloc_new] at hr
    unfold Oper.wp execOp
    simp only [ho, hx, hy, Instr.storeAt, Instr.sureAddr, Sem.run_bind, Sem.run_pure, Result.andThen_ok, hr]
    exact hK _ _ h

/-- A whole variable is written, wherever it lies. -/
theorem wl_store_row {ops : Array Oper} {rest : List Oper} {op : Oper} {a : Act} {w : World} {Q : Exit → Act → World → Prop} (hgd : op.guard = none) (ty : TypeId) (x y : Operand) (ho : op.op = .store ty x y) (b : Nat) (c c' : Array Value) (t : TypeId) (hc : w.heap[b]? = some (.cells c t (0, 0)))
    (hx : a.eval x = .pointer (some ⟨b, 0, none⟩)) (hy : a.eval y = .agg c') (hi : (P.info? ty).map (·.size) = some c'.size) (hs : c.size = c'.size) (h1 : c'.all (·.oneCell') = true)
    (h : wpList P ops Q rest (a.put op.dst undef) (w.setRow b c')) : wpList P ops Q (op :: rest) a w :=
  wpList_plain hgd fun K hK => by
    have hr := run_storeVar_row (P := P) w b t ty c c' hc hi hs h1
    unfold Oper.wp execOp
    simp only [ho, hx, hy, Instr.storeAt, Instr.sureAddr, Sem.run_bind, Sem.run_pure, Result.andThen_ok, hr]
    exact hK _ _ h

/-- A composite value is built, said by its run. -/
theorem wl_build {ops : Array Oper} {rest : List Oper} {op : Oper} {a : Act} {w : World} {Q : Exit → Act → World → Prop} (hgd : op.guard = none) (t : TypeId) (parts : Array (Nat × Operand)) (ho : op.op = .build t parts) {vs : Array (Nat × Value)} (hv : (parts.map fun (i, x) => (i, a.eval x)) = vs) {v : Value}
    (hr : ∀ w, (Instr.build t vs).run P w = .ok v w) (h : wpList P ops Q rest (a.put op.dst v) w) : wpList P ops Q (op :: rest) a w :=
  wpList_plain hgd fun K hK => by
    unfold Oper.wp execOp
    simp only [ho, hv, Sem.run_bind, Sem.run_pure, Result.andThen_ok, hr]
    exact hK _ _ h
theorem wl_buildSlice {ops : Array Oper} {rest : List Oper} {op : Oper} {a : Act} {w : World} {Q : Exit → Act → World → Prop} (hgd : op.guard = none) (t : TypeId) (n : Nat) (parts : Array (Nat × Operand)) (ho : op.op = .buildSlice t n parts) {vs : Array (Nat × Value)} (hv : (parts.map fun (i, x) => (i, a.eval x)) = vs) {v : Value} {w' : World}
    (hr : (Instr.buildSlice t n vs).run P w = .ok v w') (h : wpList P ops Q rest (a.put op.dst v) w') : wpList P ops Q (op :: rest) a w :=
  wpList_plain hgd fun K hK => by
    unfold Oper.wp execOp
    simp only [ho, hv, Sem.run_bind, Sem.run_pure, Result.andThen_ok, hr]
    exact hK _ _ h

theorem fold_set (l : List Value) : ∀ (k : Nat) (cs : Array Value) (off : Nat), off + k + l.length ≤ cs.size →
    ((l.zipIdx k).foldl (fun (cs : Array Value) (p : Value × Nat) => cs.setIfInBounds (off + p.2) p.1) cs).toList = cs.toList.take (off + k) ++ l ++ cs.toList.drop (off + k + l.length) := by
  induction l with
  | nil => intro k cs off h; simp
  | cons x l ih =>
    intro k cs off h
    simp only [List.length_cons] at h
    rw [List.zipIdx_cons, List.foldl_cons, ih (k + 1) _ off (by rw [Array.size_setIfInBounds]; omega)]
    rw [Array.toList_setIfInBounds]
    have hk : off + k < cs.toList.length := by simp; omega
    rw [show off + (k + 1) = off + k + 1 from by omega, List.take_set, List.take_succ_eq_append_getElem hk, List.drop_set_of_lt (by omega)]
    rw [List.set_append_right _ _ (by simp; omega)]
    simp only [List.length_take, show off + k - min (off + k) cs.toList.length = 0 from by omega, List.set_cons_zero, List.append_assoc, List.cons_append, List.nil_append, List.length_cons]
    rw [show off + k + 1 + l.length = off + k + (l.length + 1) from by omega]

theorem fold_set0 (xs : Array Value) (cs : Array Value) (off : Nat) (h : off + xs.size ≤ cs.size) :
    (xs.zipIdx.foldl (fun (cs : Array Value) (p : Value × Nat) => cs.setIfInBounds (off + p.2) p.1) cs).toList = cs.toList.take off ++ xs.toList ++ cs.toList.drop (off + xs.size) := by
  have := fold_set xs.toList 0 cs off (by simpa using h)
  rw [← Array.foldl_toList, Array.toList_zipIdx]
  simpa using this

/-- Two parts fill a struct: one cell, and all that follows. -/
theorem fill_two (place : Nat → Option (Nat × Nat)) (z : Array Value) (n : Nat) (hz : z.size = n + 1) (x : Value) (hx : x.cells = #[x]) (ys : Array Value) (hy : ys.size = n) (h0 : place 0 = some (0, 1)) (h1 : place 1 = some (1, n)) :
    Instr.fill place z [(0, x), (1, .agg ys)] = some (x :: ys.toList).toArray := by
  obtain ⟨C, hC⟩ : ∃ C, #[x].zipIdx.foldl (fun (cs : Array Value) (p : Value × Nat) => cs.setIfInBounds (0 + p.2) p.1) z = C := ⟨_, rfl⟩
  have h2 := fold_set0 #[x] z 0 (by simp; omega)
  rw [hC] at h2
  have hs : C.size = n + 1 := by rw [← hC]; simp [hz]
  have h3 := fold_set0 ys C 1 (by rw [hs, hy]; omega)
  obtain ⟨D, hD⟩ : ∃ D, ys.zipIdx.foldl (fun (cs : Array Value) (p : Value × Nat) => cs.setIfInBounds (1 + p.2) p.1) C = D := ⟨_, rfl⟩
  rw [hD] at h3
  have e1 : Instr.fill place C [(1, .agg ys)] = some D := by
    have hc : (decide ((Value.agg ys).cells.size ≠ n) || decide (1 + (Value.agg ys).cells.size > C.size)) = false := by
      show (decide (ys.size ≠ n) || decide (1 + ys.size > C.size)) = false
      rw [hy, hs]; simp only [ne_eq, not_true_eq_false, decide_false, Bool.false_or, decide_eq_false_iff_not]; omega
    unfold Instr.fill
    rw [h1]
    simp only [hc]
    show Instr.fill place (ys.zipIdx.foldl (fun (cs : Array Value) (p : Value × Nat) => cs.setIfInBounds (1 + p.2) p.1) C) [] = some D
    rw [hD]; rfl
  have hc : (decide (x.cells.size ≠ 1) || decide (0 + x.cells.size > z.size)) = false := by rw [hx, hz]; simp
  unfold Instr.fill
  rw [h0]
  simp only [hc]
  show Instr.fill place (x.cells.zipIdx.foldl (fun (cs : Array Value) (p : Value × Nat) => cs.setIfInBounds (0 + p.2) p.1) z) [(1, .agg ys)] = _
  rw [hx, hC, e1]
  congr 1
  apply Array.toList_inj.1
  have hl : z.toList.length = n + 1 := by simpa using hz
  rw [h3, h2]
  simp [hy, hl]
  omega

/-- One part fills a row of one. -/
theorem fill_one (z : Array Value) (n : Nat) (hz : z.size = n) (ys : Array Value) (hy : ys.size = n) : Instr.fill (fun i => some (i * n, n)) z [(0, .agg ys)] = some ys := by
  have hc : (decide ((Value.agg ys).cells.size ≠ n) || decide (0 * n + (Value.agg ys).cells.size > z.size)) = false := by
    show (decide (ys.size ≠ n) || decide (0 * n + ys.size > z.size)) = false
    rw [hy, hz]; simp
  unfold Instr.fill
  simp only [hc]
  show some (ys.zipIdx.foldl (fun (cs : Array Value) (p : Value × Nat) => cs.setIfInBounds (0 * n + p.2) p.1) z) = some ys
  congr 1
  apply Array.toList_inj.1
  have := fold_set0 ys z 0 (by omega)
  rw [Nat.zero_mul]
  refine this.trans ?_
  have hl : z.toList.length = n := by simpa using hz
  simp [hy, hl]

theorem zero_of {t : TypeId} {v : Value} (h : (P.info? t).map (·.zero) = some (some v)) : ∀ w, (zeroValue t).run P w = .ok v w := by
  cases hq : P.info? t with
  | none => simp [hq] at h
  | some i =>
    simp [hq] at h
    exact fun w => by simp [zeroValue, typeInfo, hq, h]
theorem size_of {t : TypeId} {n : Nat} (h : (P.info? t).map (·.size) = some n) : ∀ w, (sizeOf t).run P w = .ok n w := by
  cases hq : P.info? t with
  | none => simp [hq] at h
  | some i =>
    simp [hq] at h
    exact fun w => by simp [sizeOf, typeInfo, hq, h]

/-- A struct of two fields is built: one cell, and an aggregate. -/
theorem run_build_two {t : TypeId} {fields : Array Field} {f0 f1 : Field} (hu : P.underlying t = some (.struct fields)) (hf : fields = #[f0, f1]) {z : Array Value} {n : Nat} (hz : ∀ w, (zeroValue t).run P w = .ok (.agg z) w) (hzs : z.size = n + 1)
    (h0 : f0.offset = 0) (h1 : f1.offset = 1) (s0 : ∀ w, (sizeOf f0.type).run P w = .ok 1 w) (s1 : ∀ w, (sizeOf f1.type).run P w = .ok n w) (x : Value) (hx : x.cells = #[x]) (ys : Array Value) (hy : ys.size = n) (w : World) :
    (Instr.build t #[(0, x), (1, .agg ys)]).run P w = .ok (.agg (x :: ys.toList).toArray) w := by
  subst hf
  unfold Instr.build
  simp only [Sem.run_bind, hz, Result.andThen_ok, run_underlying hu, Value.cells]
  have hm : ((#[f0, f1] : Array Field).mapM fun (f : Field) => (do pure (f.offset, ← sizeOf f.type) : Sem (Nat × Nat))).run P w = .ok #[(0, 1), (1, n)] w := by
    rw [Array.mapM_eq_mapM_toList]
    simp [Sem.run_bind, s0, s1, h0, h1]
  rw [hm]
  simp only [Result.andThen_ok]
  rw [fill_two (fun i => (#[(0, 1), (1, n)] : Array (Nat × Nat))[i]?) z n hzs x hx ys hy rfl rfl]
  rfl

/-- A row of one aggregate. -/
theorem run_row_one {t e : TypeId} (hu : P.underlying t = some (.slice e)) {z : Array Value} {n : Nat} (hz : ∀ w, (zeroValue e).run P w = .ok (.agg z) w) (hzs : z.size = n) (hs : ∀ w, (sizeOf e).run P w = .ok n w) (hn : 0 < n) (hn2 : n ≤ 16777216) (ys : Array Value) (hy : ys.size = n) (w : World) :
    (Instr.buildSlice t 1 #[(0, .agg ys)]).run P w = .ok (.slice (some ⟨w.heap.size, 0, none⟩) 1 1) (w.alloc (.cells ys e)) := by
  unfold Instr.buildSlice
  simp only [Sem.run_bind, run_underlying hu, Result.andThen_ok, hs, Nat.one_mul]
  rw [if_neg (by omega), if_neg (by omega)]
  simp only [Sem.run_bind, hz, Result.andThen_ok, Value.cells, Sem.run_pure]
  rw [fill_one _ n (by simp) ys hy]
  simp only [newRow, Sem.run_bind, run_newObj_alloc, Sem.run_pure, Result.andThen_ok]

/-- A load of an aggregate, as one operation of a drawn region. -/
theorem ex_load {o : Oper} {a : Act} {w : World} (ty : TypeId) (x : Operand) (ho : o.op = .load ty x) (b p : Nat) (hx : a.eval x = .pointer (some ⟨b, p, none⟩)) (cs : List Value) (d : TypeDesc) (hc : w.rangeAt b p cs) (hu : P.underlying ty = some d) (hd : d.isRow = true) (hi : (P.info? ty).map (·.size) = some cs.length) :
    (execOp a.eval o).run P w = .ok (.value (.agg cs.toArray)) w := by
  unfold execOp
  simp only [ho, hx, Instr.loadAt, Instr.sureAddr, Sem.run_bind, Sem.run_pure, Result.andThen_ok, run_loadVar_mid w b p ty cs d hc hu hd hi]
theorem ex_build {o : Oper} {a : Act} {w w' : World} (t : TypeId) (parts : Array (Nat × Operand)) (ho : o.op = .build t parts) {vs : Array (Nat × Value)} (hv : (parts.map fun (i, x) => (i, a.eval x)) = vs) {v : Value} (hr : (Instr.build t vs).run P w = .ok v w') :
    (execOp a.eval o).run P w = .ok (.value v) w' := by
  unfold execOp
  simp only [ho, hv, Sem.run_bind, Sem.run_pure, Result.andThen_ok, hr]
theorem ex_buildSlice {o : Oper} {a : Act} {w w' : World} (t : TypeId) (n : Nat) (parts : Array (Nat × Operand)) (ho : o.op = .buildSlice t n parts) {vs : Array (Nat × Value)} (hv : (parts.map fun (i, x) => (i, a.eval x)) = vs) {v : Value} (hr : (Instr.buildSlice t n vs).run P w = .ok v w') :
    (execOp a.eval o).run P w = .ok (.value v) w' := by
  unfold execOp
  simp only [ho, hv, Sem.run_bind, Sem.run_pure, Result.andThen_ok, hr]

/-- Two results that lie in cells. -/
theorem results_two {fn : Func} {p q : Tmp} {tp tq : TypeId} (h : fn.results = #[.cell p tp, .cell q tq]) (tmps : Array Value) (w : World) {x y : Addr} {u v : Value}
    (hp : tmps.getD p undef = .pointer (some x)) (hq : tmps.getD q undef = .pointer (some y)) (h1 : (loadVar tp x).run P w = .ok u w) (h2 : (loadVar tq y).run P w = .ok v w) : (results fn tmps).run P w = .ok (.tuple #[u, v]) w := by
  have hp' : tmps[p]?.getD undef = .pointer (some x) := by simpa using hp
  have hq' : tmps[q]?.getD undef = .pointer (some y) := by simpa using hq
  unfold results
  rw [h]
  simp [Array.mapM_eq_mapM_toList, hp', hq', asAddr, Sem.run_bind, h1, h2]

/-- A whole element of an own row is written. -/
theorem wl_store_mid {ops : Array Oper} {rest : List Oper} {op : Oper} {a : Act} {w : World} {Q : Exit → Act → World → Prop} (hgd : op.guard = none) (ty : TypeId) (x y : Operand) (ho : op.op = .store ty x y) (b p : Nat) (c : Array Value)
    (hx : a.eval x = .pointer (some ⟨b, p, none⟩)) (hy : a.eval y = .agg c) (ht : w.there b p c.size) (hi : (P.info? ty).map (·.size) = some c.size) (h1 : c.all (·.oneCell') = true)
    (h : wpList P ops Q rest (a.put op.dst undef) (w.setCells b p c.toList)) : wpList P ops Q (op :: rest) a w := wpList_store_mid hgd ty x y ho b p c hx hy ht hi h1 h

theorem toList_setCells (b : Nat) : ∀ (vs : List Value) (p : Nat) (w : World) (cur : Array Value) (t : TypeId), w.heap[b]? = some (.cells cur t (0, 0)) → p + vs.length ≤ cur.size →
    ∃ cur', (w.setCells b p vs).heap[b]? = some (.cells cur' t (0, 0)) ∧ cur'.size = cur.size ∧ cur'.toList = cur.toList.take p ++ vs ++ cur.toList.drop (p + vs.length)
  | [], p, w, cur, t, h, hp => ⟨cur, h, rfl, by simp⟩
  | v :: vs, p, w, cur, t, h, hp => by
    simp only [List.length_cons] at hp
    obtain ⟨cur', h1, h2, h3⟩ := toList_setCells b vs (p + 1) (w.setCell ⟨b, p, none⟩ v) (cur.setIfInBounds p v) t (heap_setCell_same w b p _ _ _ h) (by rw [Array.size_setIfInBounds]; omega)
    refine ⟨cur', h1, by rw [h2, Array.size_setIfInBounds], ?_⟩
    have hk : p < cur.toList.length := by simp; omega
    rw [h3, Array.toList_setIfInBounds, List.take_set, List.take_succ_eq_append_getElem hk, List.drop_set_of_lt (by omega), List.set_append_right _ _ (by simp; omega)]
    simp only [List.length_take, show p - min p cur.toList.length = 0 from by omega, List.set_cons_zero, List.append_assoc, List.cons_append, List.nil_append, List.length_cons]
    rw [show p + 1 + vs.length = p + (vs.length + 1) from by omega]
theorem setCells_other (b : Nat) : ∀ (vs : List Value) (p : Nat) (w : World) (k : Nat), k ≠ b → (w.setCells b p vs).heap[k]? = w.heap[k]?
  | [], p, w, k, h => rfl
  | v :: vs, p, w, k, h => (setCells_other b vs (p + 1) _ k h).trans (heap_setCell_other w ⟨b, p, none⟩ k v h)
theorem setCells_size (b : Nat) : ∀ (vs : List Value) (p : Nat) (w : World), (w.setCells b p vs).heap.size = w.heap.size
  | [], p, w => rfl
  | v :: vs, p, w => (setCells_size b vs (p + 1) _).trans (World.size_setCell _ _ _)
theorem setCells_upd {S : Nat → Prop} (b : Nat) (hb : S b) : ∀ (vs : List Value) (p : Nat) (w : World), Upd S w (w.setCells b p vs)
  | [], p, w => Upd.refl _ _
  | v :: vs, p, w => ((Upd.refl S w).setCell ⟨b, p, none⟩ v (fun _ => hb)).trans (setCells_upd b hb vs (p + 1) _) (fun _ _ h => h)

theorem fm_set {α : Type} {f : α → List Value} {k : Nat} : ∀ (es : List α) (hk : ∀ a ∈ es, (f a).length = k) (i : Nat) (x : α), i < es.length →
    (es.flatMap f).take (i * k) ++ f x ++ (es.flatMap f).drop (i * k + k) = (es.set i x).flatMap f
  | [], _, i, x, h => by simp at h
  | e :: es, hk, 0, x, h => by
    have he := hk e (List.mem_cons_self ..)
    simp only [Nat.zero_mul, List.take_zero, List.nil_append, List.set_cons_zero, List.flatMap_cons, Nat.zero_add]
    rw [List.drop_append, he, List.drop_of_length_le (by omega), Nat.sub_self, List.drop_zero, List.nil_append]
  | e :: es, hk, i + 1, x, h => by
    have he := hk e (List.mem_cons_self ..)
    have ih := fm_set es (fun a ha => hk a (List.mem_cons_of_mem _ ha)) i x (by simpa using h)
    simp only [List.set_cons_succ, List.flatMap_cons]
    rw [← ih, Nat.succ_mul, List.take_append, he, List.take_of_length_le (by omega), show i * k + k - k = i * k from by omega, List.drop_append, he, List.drop_of_length_le (by omega), show i * k + k + k - k = i * k + k from by omega]
    simp only [List.nil_append, List.append_assoc]

/-- An own row, one whole element of which was written. -/
theorem own_set {α : Type} {f : α → List Value} {k base e n : Nat} {w : World} {c g : Nat} {es : List α} (hk : ∀ a ∈ es, (f a).length = k) (h : w.ownsRow base e k (.slice (some ⟨g, 0, none⟩) n c) n (es.flatMap f)) (hn : n = es.length) (i : Nat) (hi : i < es.length) (x : α) (hx : (f x).length = k) :
    (w.setCells g (i * k) (f x)).ownsRow base e k (.slice (some ⟨g, 0, none⟩) n c) n ((es.set i x).flatMap f) := by
  subst hn
  obtain ⟨hl, ⟨h0, _⟩ | ⟨g', cap, cur, he, hb, hg, hnc, hcm, hcs, htake⟩⟩ := h
  · cases h0
  · cases he
    have hik : i * k + k ≤ es.length * k := by rw [← Nat.succ_mul]; exact Nat.mul_le_mul_right _ (by omega)
    have hik2 : es.length * k ≤ c * k := Nat.mul_le_mul_right _ hnc
    obtain ⟨cur', h1, h2, h3⟩ := toList_setCells g (f x) (i * k) w cur e hg (by rw [hx, hcs]; omega)
    have hL : (es.set i x).flatMap f = (cur.toList.take (es.length * k)).take (i * k) ++ f x ++ (cur.toList.take (es.length * k)).drop (i * k + k) := by rw [htake]; exact (fm_set es hk i x hi).symm
    have hlen : cur.toList.length = c * k := by simpa using hcs
    refine ⟨?_, .inr ⟨g, c, cur', rfl, hb, h1, hnc, hcm, by rw [h2, hcs], ?_⟩⟩
    · rw [hL]; simp [hx]; omega
    · rw [h3, hL, hx, List.take_take, List.drop_take, Nat.min_eq_left (by omega)]
      rw [List.take_append, List.take_of_length_le (by simp [hx]; omega)]
      congr 1
      simp [hx]
      congr 1
      omega
end

end Go.Proofs.Ytjgobljclodpfaa.K
