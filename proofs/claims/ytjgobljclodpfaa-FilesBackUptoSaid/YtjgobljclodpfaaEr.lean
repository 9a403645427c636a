/- Aggregates and rows, with the frame out of sight: boxed, stored whole, laid in a row, appended. No condition. -/
import Derived.Test.YtjgobljclodpfaaEm
namespace Go.Proofs.Ytjgobljclodpfaa.E
open Go Go.RowKit K
set_option linter.unusedVariables false
set_option linter.unusedSimpArgs false

section
variable {P : Program} {n : Nat} {D : List Deferred} {L : Slots} {w : World} {Q : Exit → Act → World → Prop} {ops : Array Oper} {rest : List Oper} {d : Nat} {ty t u : TypeId} {pos : String} {after : Array Edge} {x y z : Operand} {v vx vy vz : Value} {w' : World} {Os Zs : List Ass} {a b c : Ass}

/-- A value is laid into a variable of its own. -/
theorem WR.box {cs : Array Value} (hx : evo L x = some v) (hv : v.cells = cs) (hd : Nat.blt d n = true)
    (h : ∀ w', Below w.heap.size w w' → Box w' w.heap.size cs.toList → w'.heap.size = w.heap.size + 1 → WR P n D ops rest ((d, .pointer (some ⟨w.heap.size, 0, none⟩)) :: L) w' Q) :
    WR P n D ops (⟨some d, .box t x, ty, pos, after, none⟩ :: rest) L w Q := by
  refine .val (w' := w.alloc (.cells cs t)) hd (fun a ha => ?_) (h _ (below_al (Below.refl _ _) _) ⟨t, by rw [Array.toArray_toList]; exact heap_alloc_last _ _⟩ (size_alloc _ _))
  unfold execOp
  simp only [ha.ev hx, Instr.box, newVar, newRow, hv, Sem.run_bind, Sem.run_pure, Result.andThen_ok, run_newObj_alloc]
/-- A variable is made, its type told. -/
theorem WR.allocT {z : Array Value} [Z : Zer P t z] (hd : Nat.blt d n = true) (h : ∀ w', Below w.heap.size w w' → w'.heap[w.heap.size]? = some (.cells z t (0, 0)) → WR P n D ops rest ((d, .pointer (some ⟨w.heap.size, 0, none⟩)) :: L) w' Q) :
    WR P n D ops (⟨some d, .alloc t, ty, pos, after, none⟩ :: rest) L w Q := by
  obtain ⟨zv, hz, hzc⟩ := Z.h w
  refine .val (w' := w.alloc (.cells z t)) hd (fun a ha => ?_) (h _ (below_al (Below.refl _ _) _) (heap_alloc_last _ _))
  unfold execOp
  simp only [Instr.alloc, newVar, newRow, Sem.run_bind, Sem.run_pure, Result.andThen_ok, hz, run_newObj_alloc, hzc]
/-- A variable is written as a whole. -/
theorem WR.storeAgg {b k : Nat} {cs cs' : List Value} [S : Siz P t k] (hb : Box w b cs) (hx : evo L x = some (.pointer (some ⟨b, 0, none⟩))) (hy : evo L y = some (.agg cs'.toArray)) (hk : cs.length = k) (hk' : cs'.length = k) (h1 : ∀ u ∈ cs', u.oneCell' = true)
    (h : ∀ w', Upd (· = b) w w' → Box w' b cs' → w'.heap.size = w.heap.size → WR P n D ops rest L w' Q) : WR P n D ops (⟨none, .store t x y, ty, pos, after, none⟩ :: rest) L w Q := by
  obtain ⟨e, hh⟩ := hb
  have hr := run_storeVar_row (P := P) w b e t cs.toArray cs'.toArray hh (by rw [S.h]; simp [hk']) (by simp [hk, hk']) (all_oneCell_toArray h1)
  refine .skip (w' := w.setRow b cs'.toArray) (fun a ha => ?_) (h _ (upd_setRow _ _ _) ⟨e, setRow_heap _ _ _ _ _ _ hh⟩ (size_setRow _ _ _))
  unfold execOp
  simp only [ha.ev hx, ha.ev hy, Instr.storeAt, Instr.sureAddr, Sem.run_bind, Sem.run_pure, Result.andThen_ok, hr]
theorem WR.buildRun {parts : Array (Nat × Operand)} {vs : Array (Nat × Value)} (hv : ∀ a, Fr n D L a → (parts.map fun (i, x) => (i, a.eval x)) = vs) (hd : Nat.blt d n = true) (hr : (Instr.build t vs).run P w = .ok v w) (h : WR P n D ops rest ((d, v) :: L) w Q) :
    WR P n D ops (⟨some d, .build t parts, ty, pos, after, none⟩ :: rest) L w Q := .val hd (fun a ha => ex_build t parts rfl (hv a ha) hr) h
theorem parts_of {a : Act} (ha : Fr n D L a) : ∀ {ps : List (Nat × Operand)} {vs : List (Nat × Value)}, ps.map (fun p => (p.1, evo L p.2)) = vs.map (fun p => (p.1, some p.2)) → (ps.toArray.map fun (i, x) => (i, a.eval x)) = vs.toArray := by
  intro ps vs h
  rw [List.map_toArray]
  congr 1
  induction ps generalizing vs with
  | nil => cases vs with
    | nil => rfl
    | cons v vs => cases h
  | cons p ps ih => cases vs with
    | nil => cases h
    | cons v vs =>
      simp only [List.map_cons, List.cons.injEq, Prod.mk.injEq] at h ⊢
      exact ⟨Prod.ext h.1.1 (ha.ev h.1.2), ih h.2⟩
theorem WR.buildL {ps : List (Nat × Operand)} {vs : List (Nat × Value)} (hv : ps.map (fun p => (p.1, evo L p.2)) = vs.map (fun p => (p.1, some p.2))) (hd : Nat.blt d n = true) (hr : (Instr.build t vs.toArray).run P w = .ok v w) (h : WR P n D ops rest ((d, v) :: L) w Q) :
    WR P n D ops (⟨some d, .build t ps.toArray, ty, pos, after, none⟩ :: rest) L w Q := WR.buildRun (fun a ha => parts_of ha hv) hd hr h
theorem WR.buildSliceL {m : Nat} {ps : List (Nat × Operand)} {vs : List (Nat × Value)} (hv : ps.map (fun p => (p.1, evo L p.2)) = vs.map (fun p => (p.1, some p.2))) (hd : Nat.blt d n = true) (hr : (Instr.buildSlice t m vs.toArray).run P w = .ok v w') (h : WR P n D ops rest ((d, v) :: L) w' Q) :
    WR P n D ops (⟨some d, .buildSlice t m ps.toArray, ty, pos, after, none⟩ :: rest) L w Q := .val hd (fun a ha => ex_buildSlice t m ps.toArray rfl (parts_of ha hv) hr) h
theorem WR.buildSliceRun {m : Nat} {parts : Array (Nat × Operand)} {vs : Array (Nat × Value)} (hv : ∀ a, Fr n D L a → (parts.map fun (i, x) => (i, a.eval x)) = vs) (hd : Nat.blt d n = true) (hr : (Instr.buildSlice t m vs).run P w = .ok v w') (h : WR P n D ops rest ((d, v) :: L) w' Q) :
    WR P n D ops (⟨some d, .buildSlice t m parts, ty, pos, after, none⟩ :: rest) L w Q := .val hd (fun a ha => ex_buildSlice t m parts rfl (hv a ha) hr) h
/-- '[]T{}'. -/
theorem run_row_none {e k : Nat} (hu : P.underlying t = some (.slice e)) (hs : (P.info? e).map (·.size) = some k) (hz : ∃ v, (P.info? e).map (·.zero) = some (some v)) (w : World) : (Instr.buildSlice t 0 #[]).run P w = .ok (.slice (some ⟨w.heap.size, 0, none⟩) 0 0) (w.alloc (.cells #[] e)) := by
  obtain ⟨v, hz⟩ := hz
  have hs' : ∀ w, (sizeOf e).run P w = .ok k w := size_of hs
  have hz' : ∀ w, (zeroValue e).run P w = .ok v w := K.zero_of hz
  unfold Instr.buildSlice
  simp [Sem.run_bind, run_underlying hu, hs', hz', Instr.fill, newRow]
  rw [show Array.range 0 = #[] from rfl, Array.map_empty]
theorem WR.row0 {e k bytes : Nat} {zv : Value} (El : Elem P t e k bytes zv) (hd : Nat.blt d n = true)
    (h : ∀ w', Below w.heap.size w w' → w'.ownsRow w.heap.size e k (.slice (some ⟨w.heap.size, 0, none⟩) 0 0) 0 [] → w'.heap.size = w.heap.size + 1 → WR P n D ops rest ((d, .slice (some ⟨w.heap.size, 0, none⟩) 0 0) :: L) w' Q) :
    WR P n D ops (⟨some d, .buildSlice t 0 #[], ty, pos, after, none⟩ :: rest) L w Q := by
  obtain ⟨i, hi, hz, hs, hb'⟩ := info_parts El.info
  refine .val hd (fun a ha => ex_buildSlice t 0 #[] rfl (vs := #[]) (by simp) (run_row_none El.ut (k := k) (by rw [hi]; simp [hs]) ⟨zv, by rw [hi]; simp [hz]⟩ w)) (h _ (below_al (Below.refl _ _) _) ⟨by simp, .inr ⟨w.heap.size, 0, #[], rfl, Nat.le_refl _, heap_alloc_last _ _, Nat.le_refl _, by simp [maxLen], by simp, by simp⟩⟩ (size_alloc _ _))

/-- 'append' onto a row without room: what was there stays. -/
theorem run_app0o {e k bytes : Nat} {zv : Value} (El : Elem P t e k bytes zv) (ty : TypeId) (b : Nat) {base : Nat} {F : Nat → Prop} {m : Nat} {news : List Value} (hown : w.ownsRow base e k (.slice (some ⟨b, 0, none⟩) 0 0) 0 [])
    (hsrc : K.Sl w F k vx m news) (h1 : ∀ u ∈ news, u.oneCell' = true) (hb : m ≤ 1073741824) (hby : bytes ≤ 65536) (hB : base ≤ w.heap.size) :
    ∃ v' w', (Builtin.append_ #[t, t] ty #[.slice (some ⟨b, 0, none⟩) 0 0, vx]).run P w = .ok v' w' ∧ w'.ownsRow base e k v' m news ∧ Below w.heap.size w w' := by
  obtain ⟨i, hi, hz, hs, hb'⟩ := info_parts El.info
  have hbb : (0 + m) * bytes ≤ 140737488355328 := Nat.le_trans (Nat.mul_le_mul (by omega : 0 + m ≤ 1073741824) hby) (by decide)
  by_cases hm : 0 < m
  · obtain ⟨hl, A, c, rfl, hmc, hcm, hnil, hat⟩ := hsrc
    obtain ⟨ad, rfl, hf, hat⟩ := hat hm
    obtain ⟨v', w', a, b', c'⟩ := run_append_arg_grows (P := P) (w := w) t ty e i zv k bytes El.ut hi hz hs hb' El.zs El.pos ⟨b, 0, none⟩ 0 0 [] (by simp) (fun j u hu => by simp at hu) ad m c news hl hat (by omega) (by simp only [maxLen]; omega) hbb
    rw [Nat.zero_add, List.nil_append] at b'
    refine ⟨v', w', a, ?_, ⟨c'.os, c'.tape, c'.output, c'.size, fun j hj => c'.block j hj (by simp)⟩⟩
    obtain ⟨q1, q2 | ⟨g, cap, cur, he, hbg, hr⟩⟩ := b'
    · exact ⟨q1, .inl q2⟩
    · exact ⟨q1, .inr ⟨g, cap, cur, he, Nat.le_trans hB hbg, hr⟩⟩
  · obtain rfl : m = 0 := by omega
    obtain rfl : news = [] := List.eq_nil_of_length_eq_zero (by simpa using hsrc.1)
    obtain ⟨v', w', hr, _, hb2⟩ := run_app0 El ty b 0 hsrc h1 hb hby
    obtain ⟨hl, A, c, rfl, hmc, hcm, hnil, hat⟩ := hsrc
    have hsr : Src P i.size t (.slice A 0 c) 0 [] w := by
      cases A with
      | none => obtain rfl : c = 0 := hnil rfl
                exact Src.ofNil w El.ut 0
      | some ad => exact Src.ofSlice w El.ut ad 0 c [] (by simp) (fun j u hu => by simp at hu) (fun u hu => by cases hu)
    have hr2 := run_append_room_src (P := P) w t t ty e i El.ut hi b 0 0 0 _ 0 [] hsr (by omega) (fun j hj => by simp at hj) (fun j hj => by simp at hj)
    exact ⟨_, w, hr2, hown, Below.refl _ _⟩
theorem WR.app0 {e k bytes : Nat} {zv : Value} (El : Elem P t e k bytes zv) {b base : Nat} {F : Nat → Prop} {m : Nat} {news : List Value} (hx : evo L x = some (.slice (some ⟨b, 0, none⟩) 0 0)) (hy : evo L y = some vy) (hd : Nat.blt d n = true) (hown : w.ownsRow base e k (.slice (some ⟨b, 0, none⟩) 0 0) 0 [])
    (hsrc : K.Sl w F k vy m news) (h1 : ∀ u ∈ news, u.oneCell' = true) (hb : m ≤ 1073741824) (hby : bytes ≤ 65536) (hB : base ≤ w.heap.size)
    (h : ∀ v' w', w'.ownsRow base e k v' m news → Below w.heap.size w w' → WR P n D ops rest ((d, v') :: L) w' Q) : WR P n D ops (⟨some d, .call { callee := .builtin .append, args := #[x, y], argTypes := #[t, t] }, ty, pos, after, none⟩ :: rest) L w Q := by
  obtain ⟨v', w', hr, h2, h3⟩ := run_app0o El ty b hown hsrc h1 hb hby hB
  exact .builtin2 (w := w) hx hy hd (fun cs => by rw [BigFrame.builtin_append]; simp only [Sem.run_bind, hr, Result.andThen_ok, Sem.run_pure]) (h v' w' h2 h3)
/-- 'append' onto a row of the walk's own. -/
theorem WR.app {e k bytes : Nat} {zv : Value} (El : Elem P t e k bytes zv) {base : Nat} {F : Nat → Prop} {i m : Nat} {xs news : List Value} (hx : evo L x = some vx) (hy : evo L y = some vy) (hd : Nat.blt d n = true) (hown : w.ownsRow base e k vx i xs)
    (hsrc : K.Sl w F k vy m news) (h1 : ∀ u ∈ news, u.oneCell' = true) (hb : i + m ≤ 1073741824) (hby : bytes ≤ 65536) (hB : base ≤ w.heap.size)
    (h : ∀ v' w', w'.ownsRow base e k v' (i + m) (xs ++ news) → Upd (fun b => vx.ownBlock = some b) w w' → (∀ g, v'.ownBlock = some g → vx.ownBlock = some g ∨ w.heap.size ≤ g) → WR P n D ops rest ((d, v') :: L) w' Q) : WR P n D ops (⟨some d, .call { callee := .builtin .append, args := #[x, y], argTypes := #[t, t] }, ty, pos, after, none⟩ :: rest) L w Q := by
  obtain ⟨v', w', hr, h2, h3, h4⟩ := run_app2 El ty base hown hsrc h1 hb hby hB
  exact .builtin2 (w := w) hx hy hd (fun cs => by rw [BigFrame.builtin_append]; simp only [Sem.run_bind, hr, Result.andThen_ok, Sem.run_pure]) (h v' w' h2 ((Upd.of_grown h3).mono fun b _ hb => hb.symm) (fun g hg => by rcases h4 with h4 | h4; exact .inl (h4 ▸ hg); exact .inr (h4 g hg)))

/-- 'make([]T, m)'. -/
theorem WR.makeN {e k bytes m : Nat} {zv : Value} {kl kc : IntKind} (El : Elem P t e k bytes zv) (hx : evo L x = some (.int kl (m : Nat))) (hy : evo L y = some (.int kc (m : Nat))) (hd : Nat.blt d n = true) (hm : m ≤ 4294967296) (hby : bytes ≤ 65536)
    (h : ∀ w', Below w.heap.size w w' → w'.ownsRow w.heap.size e k (.slice (some ⟨w.heap.size, 0, none⟩) m m) m (madeCells zv.cells (m * k)).toList → WR P n D ops rest ((d, .slice (some ⟨w.heap.size, 0, none⟩) m m) :: L) w' Q) :
    WR P n D ops (⟨some d, .makeSlice t x y, ty, pos, after, none⟩ :: rest) L w Q := by
  obtain ⟨i, hi, hz', hs, hb'⟩ := info_parts El.info
  have hbb : bytes * m ≤ 281474976710656 := by rw [Nat.mul_comm]; exact Nat.le_trans (Nat.mul_le_mul hm hby) (by decide)
  obtain ⟨w', hr, ho, hg⟩ := run_make_full (P := P) w w.heap.size t e i zv k El.ut hi hz' hs kl kc m (by rw [hb']; exact hbb) (by simp only [maxLen]; omega) (Nat.le_refl _)
  exact .val hd (fun a ha => by simp only [execOp, ha.ev hx, ha.ev hy, hr, Sem.run_bind, Sem.run_pure, Result.andThen_ok]) (h w' ⟨hg.os, hg.tape, hg.output, hg.size, fun b hb => hg.block b hb (by simp)⟩ ho)

/-- Results that lie in cells. -/
theorem Ends.doneR {e : Exit} (he : e = .ret ∨ e = .normal) {fn : Func} {R : Ending → World → Prop} {v : Value} (hr : ∀ a, Fr n [] L a → (results fn a.tmps).run P w = .ok v w) (h : R (.returned v) w) : Ends n [] e L w (bodyPost P fn R) := Ends.done he hr h
theorem run_results1 {fn : Func} {p : Tmp} {tp : TypeId} {ad : Addr} {u : Value} (hf : fn.results = #[.cell p tp]) {a : Act} (hp : a.tmps.getD p undef = .pointer (some ad)) (h1 : (loadVar tp ad).run P w = .ok u w) : (results fn a.tmps).run P w = .ok u w := by
  have hp' : a.tmps[p]?.getD undef = .pointer (some ad) := by simpa using hp
  unfold results
  rw [hf]
  simp [Array.mapM_eq_mapM_toList, hp', asAddr, Sem.run_bind, h1]
theorem Ends.retC {fn : Func} {R : Ending → World → Prop} {p : Nat} {tp : TypeId} {ad : Addr} {v : Value} (hf : fn.results = #[.cell p tp]) (hp : look L p = some (.pointer (some ad))) (h1 : (loadVar tp ad).run P w = .ok v w) (h : R (.returned v) w) : Ends n [] .ret L w (bodyPost P fn R) :=
  Ends.done (.inl rfl) (fun a ha => run_results1 hf (ha.getD hp) h1) h
theorem run_results2 {fn : Func} {p q : Tmp} {tp : TypeId} {ad : Addr} {u v : Value} (hf : fn.results = #[.cell p tp, .tmp q]) {a : Act} (hp : a.tmps.getD p undef = .pointer (some ad)) (hq : a.tmps.getD q undef = v) (h1 : (loadVar tp ad).run P w = .ok u w) : (results fn a.tmps).run P w = .ok (.tuple #[u, v]) w := by
  have hp' : a.tmps[p]?.getD undef = .pointer (some ad) := by simpa using hp
  have hq' : a.tmps[q]?.getD undef = v := by simpa using hq
  unfold results
  rw [hf]
  simp [Array.mapM_eq_mapM_toList, hp', hq', asAddr, Sem.run_bind, h1]
theorem Ends.retCT {fn : Func} {R : Ending → World → Prop} {p q : Nat} {tp : TypeId} {ad : Addr} {u v : Value} (hf : fn.results = #[.cell p tp, .tmp q]) (hp : look L p = some (.pointer (some ad))) (hq : look L q = some v) (h1 : (loadVar tp ad).run P w = .ok u w) (h : R (.returned (.tuple #[u, v])) w) : Ends n [] .ret L w (bodyPost P fn R) :=
  Ends.done (.inl rfl) (fun a ha => run_results2 hf (ha.getD hp) (ha.getD hq) h1) h
theorem run_results3 {fn : Func} {p q s : Tmp} {tp tq : TypeId} {ad ae : Addr} {u v z : Value} (hf : fn.results = #[.cell p tp, .cell q tq, .tmp s]) {a : Act} (hp : a.tmps.getD p undef = .pointer (some ad)) (hq : a.tmps.getD q undef = .pointer (some ae)) (hs : a.tmps.getD s undef = z) (h1 : (loadVar tp ad).run P w = .ok u w) (h2 : (loadVar tq ae).run P w = .ok v w) :
    (results fn a.tmps).run P w = .ok (.tuple #[u, v, z]) w := by
  have hp' : a.tmps[p]?.getD undef = .pointer (some ad) := by simpa using hp
  have hq' : a.tmps[q]?.getD undef = .pointer (some ae) := by simpa using hq
  have hs' : a.tmps[s]?.getD undef = z := by simpa using hs
  unfold results
  rw [hf]
  simp [Array.mapM_eq_mapM_toList, hp', hq', hs', asAddr, Sem.run_bind, h1, h2]
theorem Ends.retCCT {fn : Func} {R : Ending → World → Prop} {p q s : Nat} {tp tq : TypeId} {ad ae : Addr} {u v z : Value} (hf : fn.results = #[.cell p tp, .cell q tq, .tmp s]) (hp : look L p = some (.pointer (some ad))) (hq : look L q = some (.pointer (some ae))) (hs : look L s = some z) (h1 : (loadVar tp ad).run P w = .ok u w) (h2 : (loadVar tq ae).run P w = .ok v w)
    (h : R (.returned (.tuple #[u, v, z])) w) : Ends n [] .ret L w (bodyPost P fn R) :=
  Ends.done (.inl rfl) (fun a ha => run_results3 hf (ha.getD hp) (ha.getD hq) (ha.getD hs) h1 h2) h
/-- A whole box is read. -/
theorem Box.load {b k : Nat} {cs : List Value} [U : Rw P t] [S : Siz P t k] (h : Box w b cs) (hk : cs.length = k) : (loadVar t ⟨b, 0, none⟩).run P w = .ok (.agg cs.toArray) w := by
  obtain ⟨dd, hu, hr⟩ := U.h
  exact run_loadVar_mid w b 0 t cs dd h.range hu hr (by rw [S.h, hk])
end

end Go.Proofs.Ytjgobljclodpfaa.E
