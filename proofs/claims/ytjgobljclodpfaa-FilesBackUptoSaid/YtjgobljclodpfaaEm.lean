/- Rows of the walk's own, with the frame out of sight: made, written, read. No condition. -/
import Derived.Test.YtjgobljclodpfaaM
namespace Go.Proofs.Ytjgobljclodpfaa.E
open Go Go.RowKit K
set_option linter.unusedVariables false
set_option linter.unusedSimpArgs false

theorem own_zero {w : World} {base e k n : Nat} {v : Value} {xs : List Value} (h : w.ownsRow base e k v n xs) : w.ownsRow 0 e k v n xs := by
  obtain ⟨hl, h | ⟨g, cap, cur, he, hb, hr⟩⟩ := h
  · exact ⟨hl, .inl h⟩
  · exact ⟨hl, .inr ⟨g, cap, cur, he, Nat.zero_le _, hr⟩⟩

section
variable {P : Program} {n : Nat} {D : List Deferred} {L : Slots} {w : World} {Q : Exit → Act → World → Prop} {ops : Array Oper} {rest : List Oper} {d : Nat} {ty t u : TypeId} {pos : String} {after : Array Edge} {x y z : Operand} {v vx vy vz : Value} {w' : World} {Os Zs : List Ass} {a b c : Ass}

theorem Mem.newRow {base e k m : Nat} {v : Value} {xs : List Value} (M : Mem w Os Zs) (hb : Below w.heap.size w w') (h : w'.ownsRow base e k v m xs) (hB : w.heap.size ≤ base) : Mem w' (aRow e k v m xs :: Os) Zs :=
  M.new hb (F := fun b => v.ownBlock = some b) ⟨fun _ => Iff.rfl, own_zero h⟩ fun b hb => Nat.le_trans hB (World.ownsRow.lt h b hb).1
theorem Mem.row {e k m : Nat} {v : Value} {xs : List Value} (M : Mem w (aRow e k v m xs :: Os) Zs) : w.ownsRow 0 e k v m xs := by obtain ⟨_, h⟩ := M.get; exact h.2
/-- Two apart, as one. -/
def aSep (a b : Ass) : Ass := ⟨fun w F => ∃ F1 F2, a.p w F1 ∧ b.p w F2 ∧ (∀ x, F2 x → ¬ F1 x) ∧ ∀ x, F x ↔ F1 x ∨ F2 x, fun {w F} ⟨F1, F2, h1, h2, _, h4⟩ x hx => ((h4 x).1 hx).elim (a.bnd h1 x) (b.bnd h2 x),
  fun {w w' F} ⟨F1, F2, h1, h2, h3, h4⟩ hs => ⟨F1, F2, a.stab h1 (hs.mono fun x hx => (h4 x).2 (.inl hx)), b.stab h2 (hs.mono fun x hx => (h4 x).2 (.inr hx)), h3, h4⟩⟩
theorem Mem.split (M : Mem w (aSep a b :: Os) Zs) : Mem w (a :: b :: Os) Zs := by
  obtain ⟨G, h1, h2, F, ⟨F1, F2, f1, f2, f3, f4⟩, hd, h3⟩ := M
  exact ⟨G, h1, h2, F1, f1, fun x hx => hd x ((f4 x).2 (.inl hx)), F2, f2, fun x hx hG => hG.elim (hd x ((f4 x).2 (.inr hx))) (f3 x hx), h3.imp fun x hx => hx.elim (fun h => h.elim .inl (fun h => .inr ((f4 x).2 (.inl h)))) (fun h => .inr ((f4 x).2 (.inr h)))⟩
/-- The row is another one now, in its block or a new one. -/
theorem Mem.setRow {e k m m' : Nat} {v v' : Value} {xs xs' : List Value} (M : Mem w (aRow e k v m xs :: Os) Zs) (hu : Upd (fun b => v.ownBlock = some b) w w') (h : w'.ownsRow 0 e k v' m' xs') (hv : ∀ b, v'.ownBlock = some b → v.ownBlock = some b ∨ w.heap.size ≤ b) : Mem w' (aRow e k v' m' xs' :: Os) Zs := by
  obtain ⟨F, hF, hM⟩ := M.take
  exact hM (hu.mono fun b _ hb => (hF.1 b).2 hb) (F' := fun b => v'.ownBlock = some b) ⟨fun _ => Iff.rfl, h⟩ fun b hb => (hv b hb).imp (fun h => (hF.1 b).2 h) (fun h => h)
/-- The row is read alone from now on. -/
theorem Mem.rowSl {e k m : Nat} {v : Value} {xs : List Value} (M : Mem w (aRow e k v m xs :: Os) Zs) (hk : 0 < k) : Mem w (zSl k v m xs :: Os) Zs :=
  M.say fun F hF => ⟨hk, (Sl.of_row hF.2).imp (fun b _ hb => (hF.1 b).2 hb) hk, fun b hb => by have := (hF.1 b).1 hb; exact (World.ownsRow.lt hF.2 b this).2⟩
theorem Mem.sl {k m : Nat} {v : Value} {xs : List Value} (M : Mem w Os Zs) (j : Nat) (hz : Zs[j]? = some (zSl k v m xs)) : ∃ F, K.Sl w F k v m xs := by obtain ⟨F, _, h, _⟩ := M.z j hz; exact ⟨F, h⟩

/-- The first is turned, by what reads one that nobody writes. -/
theorem Mem.takez {z : Ass} (M : Mem w (a :: Os) Zs) (k : Nat) (hz : Zs[k]? = some z) : ∃ F E, a.p w F ∧ z.p w E ∧ (∀ b, E b → ¬ F b) ∧ ∀ {w' : World} {a' : Ass} {F' : Nat → Prop}, Upd F w w' → a'.p w' F' → (∀ b, F' b → F b ∨ w.heap.size ≤ b) → Mem w' (a' :: Os) Zs := by
  obtain ⟨G, h1, h2, F, hF, hd, h3⟩ := M
  obtain ⟨E, hE, hEG⟩ := h2 z (List.mem_of_getElem? hz)
  refine ⟨F, E, hF, hE, fun b hb hFb => hd b hFb (hEG b hb), fun {w' a' F'} hu hF' hs => ⟨G, fun b hG => Nat.lt_of_lt_of_le (h1 b hG) hu.size, fun z hz => ?_, F', hF', fun b hb hG => ?_, ?_⟩⟩
  · obtain ⟨E, hE, hEG⟩ := h2 z hz
    exact ⟨E, z.stab hE (Stays.of_upd hu fun b hb => ⟨z.bnd hE b hb, fun hFb => hd b hFb (hEG b hb)⟩), hEG⟩
  · rcases hs b hb with h | h
    · exact hd b h hG
    · have := h1 b hG; omega
  · have h4 := h3.fresh (hu.mono fun b _ hb => .inr hb : Upd (fun b => G b ∨ F b) w w')
    exact h4.imp fun b hb => hb.elim (fun h => .inl (.inl h)) (fun h => (hs b h).elim (fun h => .inl (.inr h)) .inr)

/-- 'make([]T, m)' of elements of one cell. -/
theorem WR.make {e bytes m : Nat} {zv : Value} {kl kc : IntKind} (El : Elem P t e 1 bytes zv) (hz : zv.cells = #[zv]) (hx : evo L x = some (.int kl (m : Nat))) (hy : evo L y = some (.int kc (m : Nat))) (hd : Nat.blt d n = true) (hm : m ≤ 1073741824) (hby : bytes ≤ 65536)
    (h : ∀ w', Below w.heap.size w w' → w'.ownsRow w.heap.size e 1 (.slice (some ⟨w.heap.size, 0, none⟩) m m) m (List.replicate m zv) → WR P n D ops rest ((d, .slice (some ⟨w.heap.size, 0, none⟩) m m) :: L) w' Q) :
    WR P n D ops (⟨some d, .makeSlice t x y, ty, pos, after, none⟩ :: rest) L w Q := by
  obtain ⟨i, hi, hz', hs, hb'⟩ := info_parts El.info
  have hbb : bytes * m ≤ 281474976710656 := by rw [Nat.mul_comm]; exact Nat.le_trans (Nat.mul_le_mul hm hby) (by decide)
  obtain ⟨w', hr, ho, hg⟩ := run_make_full (P := P) w w.heap.size t e i zv 1 El.ut hi hz' hs kl kc m (by rw [hb']; exact hbb) (by simp only [maxLen]; omega) (Nat.le_refl _)
  rw [hz, Nat.mul_one, toList_madeCells_one] at ho
  exact .val hd (fun a ha => by simp only [execOp, ha.ev hx, ha.ev hy, hr, Sem.run_bind, Sem.run_pure, Result.andThen_ok]) (h w' ⟨hg.os, hg.tape, hg.output, hg.size, fun b hb => hg.block b hb (by simp)⟩ ho)

theorem fm_one (xs : List Value) : xs.flatMap (fun v => [v]) = xs := by induction xs <;> simp_all
/-- An element of an own row of single cells is written. -/
theorem WR.storeRow {e k m c g j : Nat} {xs : List Value} [S : Siz P t k] (M : Mem w (aRow e 1 (.slice (some ⟨g, 0, none⟩) m c) m xs :: Os) Zs) (hx : evo L x = some (.pointer (some ⟨g, j, none⟩))) (hy : evo L y = some v) (hk : k = 1) (h1 : v.oneCell' = true) (hj : j < xs.length)
    (h : ∀ w', Mem w' (aRow e 1 (.slice (some ⟨g, 0, none⟩) m c) m (xs.set j v) :: Os) Zs → WR P n D ops rest L w' Q) : WR P n D ops (⟨none, .store t x y, ty, pos, after, none⟩ :: rest) L w Q := by
  have hr := M.row
  have hm : m = xs.length := by have := hr.1; omega
  have ho := own_set (f := fun v => [v]) (k := 1) (fun _ _ => rfl) (by rw [fm_one]; exact hr) hm j hj v rfl
  rw [fm_one, Nat.mul_one] at ho
  have h1c : v.cells = #[v] := by cases v <;> first | rfl | cases h1
  have hcell : w.there g j #[v].size := by
    intro i hi
    obtain rfl : i = 0 := by simpa using hi
    obtain ⟨_, ⟨h0, _⟩ | ⟨g', cap, cur, he, hb, hg, hnc, hcm, hcs, ht⟩⟩ := hr
    · cases h0
    · cases he
      have hlt : j < cur.size := by rw [hcs]; omega
      exact ⟨by rw [Nat.add_zero, cell_in hg]; simp [hlt], by rw [Nat.add_zero]; exact frozen_in hg j⟩
  refine .skip (w' := w.setCells g j [v]) (fun a ha => ?_) (h _ (M.setRow (setCells_upd (S := fun b => (Value.slice (some ⟨g, 0, none⟩) m c).ownBlock = some b) g rfl _ _ _) ho fun b hb => .inl hb))
  have hrun := run_storeVar_mid (P := P) w g j t #[v] hcell (by rw [S.h, hk]; rfl) (by simp [h1])
  unfold execOp
  simp only [ha.ev hx, ha.ev hy, Instr.storeAt, Instr.sureAddr, Sem.run_bind, Sem.run_pure, Result.andThen_ok, store_cells t ⟨g, j, none⟩ h1c, hrun]
end

end Go.Proofs.Ytjgobljclodpfaa.E
