/- Layer 12's laws: what kind of op. No condition. -/
import Derived.Test.YtibmcpbkialbnaaLkJ
namespace Go.Proofs.Ytibmcpbkialbnaa
open Go.RowKit K L E
open Go.Maps (Keyed)
set_option linter.unusedVariables false
set_option linter.unusedSimpArgs false

def kindArr : Value := .agg #[.int .i64 0, .int .i64 0, .int .i64 0, .int .i64 1, .int .i64 2, .int .i64 3, .int .i64 4]
theorem build_kind (w : World) : (Instr.build 79 #[(0, .int .i64 0), (1, .int .i64 0), (2, .int .i64 0), (3, .int .i64 1), (4, .int .i64 2), (5, .int .i64 3), (6, .int .i64 4)]).run Try.prog w = .ok kindArr w := by kernel_rfl
theorem index_kind (j : Nat) (h : j < 7) (w : World) : (Instr.index 79 kindArr (.int .u64 (j : Nat))).run Try.prog w = .ok (.int .i64 (kindAt j : Nat)) w := by
  rcases (by omega : j = 0 ∨ j = 1 ∨ j = 2 ∨ j = 3 ∨ j = 4 ∨ j = 5 ∨ j = 6) with rfl | rfl | rfl | rfl | rfl | rfl | rfl <;> kernel_rfl
theorem kind_any (e : OE) (h1 : e.2.oneCell' = true) (w : World) : Calls Try.prog 23 #[.agg e.cells.toArray] w fun r w' => r = .returned (.int .i64 (kindOf e.1.kind : Nat)) ∧ Below w.heap.size w w' := by
  refine enter Try.func23 rfl Try.ntmps23 rfl rfl ?_
  (repeat (first | (refine WR.id ?_; first | refine WR.nil ?_ | refine WR.s ?_ | refine WR.g ?_) | (refine W.id ?_; first | refine W.seq fun _ _ => ?_ | refine W.region ?_ | refine W.s ?_ | refine W.e ?_) | (refine Ends.id ?_; first | refine Ends.seq (by assumption) ?_ | refine Ends.s ?_)))
  refine WR.box rfl (cs := e.cells.toArray) rfl rfl fun w1 hb1 hx1 hs1 => ?_
  have hB : Box w1 w.heap.size e.cells := by simpa using hx1
  (repeat (first | (refine WR.id ?_; first | refine WR.nil ?_ | refine WR.s ?_ | refine WR.g ?_) | (refine W.id ?_; first | refine W.seq fun _ _ => ?_ | refine W.region ?_ | refine W.s ?_ | refine W.e ?_) | (refine Ends.id ?_; first | refine Ends.seq (by assumption) ?_ | refine Ends.s ?_)))
  refine WR.buildRun (vs := #[(0, .int .i64 0), (1, .int .i64 0), (2, .int .i64 0), (3, .int .i64 1), (4, .int .i64 2), (5, .int .i64 3), (6, .int .i64 4)]) (fun a ha => by rw [List.map_toArray]; rfl) (by rfl) (build_kind _) ?_
  (repeat (first | (refine WR.id ?_; first | refine WR.nil ?_ | refine WR.s ?_ | refine WR.g ?_) | (refine W.id ?_; first | refine W.seq fun _ _ => ?_ | refine W.region ?_ | refine W.s ?_ | refine W.e ?_) | (refine Ends.id ?_; first | refine Ends.seq (by assumption) ?_ | refine Ends.s ?_)))
  have hw0 : 0 ≤ IntKind.u64.wrap e.1.kind := by simp [IntKind.wrap, IntKind.bits, IntKind.signed]; omega
  obtain ⟨m, hm⟩ : ∃ m : Nat, IntKind.u64.wrap e.1.kind = m := ⟨(IntKind.u64.wrap e.1.kind).toNat, by omega⟩
  rw [hm]
  refine WR.rem m 7 (by decide) rfl rfl rfl ?_
  refine WR.val (v := .int .i64 (kindAt (m % 7) : Nat)) (w' := w1) rfl (fun a ha => by
    have h1 := ha.ev (x := .tmp 3) rfl
    have h2 := ha.ev (x := .tmp 7) rfl
    generalize a.eval = ev at h1 h2 ⊢
    unfold execOp
    simp only [h1, h2, Sem.run_bind, index_kind (m % 7) (Nat.mod_lt _ (by decide)), Result.andThen_ok, Sem.run_pure]) ?_
  (repeat (first | (refine WR.id ?_; first | refine WR.nil ?_ | refine WR.s ?_ | refine WR.g ?_) | (refine W.id ?_; first | refine W.seq fun _ _ => ?_ | refine W.region ?_ | refine W.s ?_ | refine W.e ?_) | (refine Ends.id ?_; first | refine Ends.seq (by assumption) ?_ | refine Ends.s ?_)))
  refine Ends.ret1 rfl rfl ⟨?_, hb1⟩
  unfold kindOf
  rw [hm]
  rfl
theorem run_eql2 (a b c d : Int) (w : World) : (binOp .eql 53 (kv (a, b)) (kv (c, d))).run Try.prog w = .ok (.bool (decide ((a, b) = (c, d)))) w := by
  have hk : Try.prog.cellsOf 3 = 1 := by kernel_rfl
  have hs : ∀ w, (sizeOf 3).run Try.prog w = .ok 1 w := size_of (by kernel_rfl)
  have ha : ∀ w, (isAgg 3).run Try.prog w = .ok false w := fun w => by kernel_rfl
  obtain ⟨i, hi, -⟩ := info_parts Try.elInt.info
  have he : ∀ (x y : Int) w, (Op.equalIn 9999 3 (.int .i64 x) (.int .i64 y)).run Try.prog w = .ok (x == y) w := fun x y w => run_equalIn_int w 9998 _ _ _ _ _ Try.underlying3
  have h := run_equalIn_array (P := Try.prog) (w := w) 9999 (t := 53) (e := 3) (n := 2) #[.int .i64 a, .int .i64 b] #[.int .i64 c, .int .i64 d] Try.underlying53 hi
  show (binOp .eql 53 (.agg #[.int .i64 a, .int .i64 b]) (.agg #[.int .i64 c, .int .i64 d])).run Try.prog w = _
  rw [run_eql_struct, h, show List.range 2 = [0, 1] from rfl, hk]
  simp only [Op.eqItems, Sem.run_bind, part, ha, Result.andThen_ok]
  simp [he, Result.andThen]
  by_cases h1 : a = c <;> by_cases h2 : b = d <;> simp [h1, h2, he, Result.andThen]
/-- Rows of bytes, each in a block of its own. -/
def aBss (v : Value) (bss : List (List UInt8)) : Ass := aEx fun vs : List Value => aIf (vs.length = bss.length) (aSep (aLr 22 1 v bss.length vs) (aAll (List.zipWith aBy vs bss)))
theorem E.Mem.bss {w : World} {v : Value} {bss : List (List UInt8)} {Os Zs : List Ass} (M : Mem w (aBss v bss :: Os) Zs) : ∃ vs : List Value, vs.length = bss.length ∧ Mem w (aLr 22 1 v bss.length vs :: (List.zipWith aBy vs bss ++ Os)) Zs := by
  obtain ⟨vs, M⟩ := M.ex
  obtain ⟨hl, M⟩ := M.cond
  exact ⟨vs, hl, M.split.under1 fun M => M.unall⟩
theorem E.Mem.mkBss {w : World} {v : Value} {bss : List (List UInt8)} {Os Zs : List Ass} (vs : List Value) (hl : vs.length = bss.length) (M : Mem w (aLr 22 1 v bss.length vs :: (List.zipWith aBy vs bss ++ Os)) Zs) : Mem w (aBss v bss :: Os) Zs :=
  Mem.mkEx (f := fun vs : List Value => _) vs (Mem.mkIf hl (M.under1 fun M => M.all).join)
theorem aBss_nil (w : World) : (aBss (.slice none 0 0) []).p w (fun _ => False) := ⟨[], rfl, fun _ => False, fun _ => False, ⟨fun b => ⟨fun h => h.elim, fun h => by cases h⟩, rfl, .inl ⟨rfl, rfl⟩⟩, fun _ h => h, fun _ h => h.elim, fun _ => ⟨fun h => h.elim, fun h => h.elim id id⟩⟩
theorem E.Mem.nilBss {w : World} {Os Zs : List Ass} (M : Mem w Os Zs) : Mem w (aBss (.slice Option.none 0 0) [] :: Os) Zs := M.new (Below.refl _ _) (aBss_nil w) (fun x h => h.elim)
theorem Try.elBs : Elem Try.prog 55 22 1 24 (.slice none 0 0) := ⟨Try.underlying55, by kernel_rfl, rfl, by decide⟩
/-- One more row of bytes. -/
theorem WR.bssApp {P0 : Program} {n : Nat} {D : List Deferred} {L : Slots} {w : World} {Q : Exit → Act → World → Prop} {ops : Array Oper} {rest : List Oper} {d : Nat} {ty : TypeId} {pos : String} {after : Array Edge} {x y : Operand} {vx vy vb : Value} {bss : List (List UInt8)} {bs : List UInt8} {F : Nat → Prop} {Os Zs : List Ass}
    (M : Mem w (aBss vx bss :: aBy vb bs :: Os) Zs) (hx : evo L x = some vx) (hy : evo L y = some vy) (hd : Nat.blt d n = true) (hs : K.Sl w F 1 vy 1 [vb]) (h1 : vb.oneCell' = true) (hb : bss.length + 1 ≤ 1073741824)
    (h : ∀ A c w', Mem w' (aBss (.slice A (bss.length + 1) c) (bss ++ [bs]) :: Os) Zs → WR Try.prog n D ops rest ((d, .slice A (bss.length + 1) c) :: L) w' Q) : WR Try.prog n D ops (⟨some d, .call { callee := .builtin .append, args := #[x, y], argTypes := #[55, 55] }, ty, pos, after, none⟩ :: rest) L w Q := by
  obtain ⟨vs, hl, M⟩ := M.bss
  refine WR.lapp Try.elBs M hx hy hd hs (by intro u hu; obtain rfl := List.mem_singleton.1 hu; exact h1) hb (by decide) fun A c w' M => h A c w' ?_
  refine E.Mem.mkBss (vs ++ [vb]) (by simp [hl]) ?_
  rw [List.zipWith_append hl, List.length_append, List.length_singleton, List.append_assoc]
  exact M
theorem WRI.bssApp {ρ : Option Nat} {M0 n : Nat} {D : List Deferred} {L : Slots} {w : World} {Q : Exit → Act → World → Prop} {ops : Array Oper} {rest : List Oper} {d : Nat} {ty : TypeId} {pos : String} {after : Array Edge} {x y : Operand} {vx vy vb : Value} {bss : List (List UInt8)} {bs : List UInt8} {F : Nat → Prop} {Os Zs : List Ass}
    (M : Mem w (aBss vx bss :: aBy vb bs :: Os) Zs) (hx : evo L x = some vx) (hy : evo L y = some vy) (hd : Nat.blt d n = true) (hs : K.Sl w F 1 vy 1 [vb]) (h1 : vb.oneCell' = true) (hb : bss.length + 1 ≤ 1073741824)
    (h : ∀ A c w', Mem w' (aBss (.slice A (bss.length + 1) c) (bss ++ [bs]) :: Os) Zs → WRI ρ M0 Try.prog n D ops rest ((d, .slice A (bss.length + 1) c) :: L) w' Q) : WRI ρ M0 Try.prog n D ops (⟨some d, .call { callee := .builtin .append, args := #[x, y], argTypes := #[55, 55] }, ty, pos, after, none⟩ :: rest) L w Q := by
  obtain ⟨vs, hl, M⟩ := M.bss
  refine WRI.lapp Try.elBs M hx hy hd hs (by intro u hu; obtain rfl := List.mem_singleton.1 hu; exact h1) hb (by decide) fun A c w' M => h A c w' ?_
  refine E.Mem.mkBss (vs ++ [vb]) (by simp [hl]) ?_
  rw [List.zipWith_append hl, List.length_append, List.length_singleton, List.append_assoc]
  exact M

end Go.Proofs.Ytibmcpbkialbnaa
