/- A flight appended to a row of flights. No condition beyond sizes. -/
import Derived.Test.YtibmcpbkialbnaaLk4b
namespace Go.Proofs.Ytibmcpbkialbnaa
open Go.RowKit K L E
set_option linter.unusedVariables false
set_option linter.unusedSimpArgs false

theorem Try.elF : Elem Try.prog 43 24 4 48 (.agg #[.int .i64 0, .int .i64 0, .int .i64 0, .slice none 0 0]) := ⟨Try.underlying43, by kernel_rfl, rfl, by decide⟩
/-- A row of flights, laid open and shut. -/
theorem E.Mem.fl {w : World} {v : Value} {fs : List PF} {Os Zs : List Ass} (M : Mem w (aFl v fs :: Os) Zs) : ∃ vs : List Value, vs.length = fs.length ∧ Mem w (aLr 24 4 v fs.length (List.zipWith PF.cells fs vs).flatten :: (List.zipWith (fun v (f : PF) => aBy v f.bytes) vs fs ++ Os)) Zs := by
  obtain ⟨vs, M⟩ := M.ex
  obtain ⟨hl, M⟩ := M.cond
  exact ⟨vs, hl, M.split.under1 fun M => M.unall⟩
theorem E.Mem.mkFl {w : World} {v : Value} {fs : List PF} {Os Zs : List Ass} (vs : List Value) (hl : vs.length = fs.length) (M : Mem w (aLr 24 4 v fs.length (List.zipWith PF.cells fs vs).flatten :: (List.zipWith (fun v (f : PF) => aBy v f.bytes) vs fs ++ Os)) Zs) : Mem w (aFl v fs :: Os) Zs :=
  Mem.mkEx (f := fun vs : List Value => _) vs (Mem.mkIf hl (M.under1 fun M => M.all).join)
theorem zero_f (w : World) : (zeroValue 24).run Try.prog w = .ok (.agg #[.int .i64 0, .int .i64 0, .int .i64 0, .slice none 0 0]) w := by kernel_rfl
theorem row_fl (cs : List Value) (hc : cs.length = 4) (w : World) : (Instr.buildSlice 43 1 #[(0, .agg cs.toArray)]).run Try.prog w = .ok (.slice (some ⟨w.heap.size, 0, none⟩) 1 1) (w.alloc (.cells cs.toArray 24)) :=
  run_row_one (n := 4) Try.underlying43 zero_f rfl (size_of (by kernel_rfl)) (by decide) (by decide) _ (by rw [List.size_toArray, hc]) w
theorem sl_one (w : World) (t : TypeId) (cs : List Value) {k B : Nat} (hk : cs.length = k) (hB : B ≤ w.heap.size) : K.Sl (w.alloc (.cells cs.toArray t)) (B ≤ ·) k (.slice (some ⟨w.heap.size, 0, none⟩) 1 1) 1 cs :=
  ⟨by omega, _, 1, rfl, Nat.le_refl _, by decide, (fun h => by cases h), fun _ => ⟨_, rfl, hB, fun j u hu => by
    rw [Addr.add_lit, Nat.zero_add, cell_in (heap_alloc_last _ _)]; simpa using hu⟩⟩
theorem app_fl {w : World} {v vb vx : Value} {fs : List PF} {f : PF} {F : Nat → Prop} {Os Zs : List Ass} (M : Mem w (aFl v fs :: aBy vb f.bytes :: Os) Zs) (hx : Sl w F 4 vx 1 (f.cells vb)) (h1 : vb.oneCell' = true) (hb : fs.length + 1 ≤ 1073741824) (ty : TypeId) :
    ∃ v' w', (Builtin.append_ #[43, 43] ty #[v, vx]).run Try.prog w = .ok v' w' ∧ Mem w' (aFl v' (fs ++ [f]) :: Os) Zs ∧ Upd (fun b => v.ownBlock = some b) w w' := by
  obtain ⟨vs, hl, M⟩ := M.fl
  obtain ⟨v', w', hr, ho, hu, hv⟩ := run_lapp Try.elF ty M.lrow hx (by intro u hu; simp [PF.cells] at hu; rcases hu with rfl | rfl | rfl | rfl <;> first | rfl | exact h1) hb (by decide)
  refine ⟨v', w', hr, E.Mem.mkFl (vs ++ [vb]) (by simp [hl]) ?_, hu⟩
  have M2 := M.setLRow hu ho hv
  have e1 : (List.zipWith PF.cells (fs ++ [f]) (vs ++ [vb])).flatten = (List.zipWith PF.cells fs vs).flatten ++ f.cells vb := by
    rw [List.zipWith_append hl.symm]; simp
  have e2 : List.zipWith (fun v (f : PF) => aBy v f.bytes) (vs ++ [vb]) (fs ++ [f]) = List.zipWith (fun v (f : PF) => aBy v f.bytes) vs fs ++ [aBy vb f.bytes] := by
    rw [List.zipWith_append hl]; rfl
  rw [e1, e2, List.length_append, List.length_singleton, List.append_assoc]
  exact M2

end Go.Proofs.Ytibmcpbkialbnaa
