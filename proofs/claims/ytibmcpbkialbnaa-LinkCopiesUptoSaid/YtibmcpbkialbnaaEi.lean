/- The engine in a round of a range over a function, and in an iterator; printed by genxei.py. No condition. -/
import Derived.Test.YtibmcpbkialbnaaMf
import Derived.Test.YtibmcpbkialbnaaMp
import Derived.RangeFuncNested
import Derived.RangeFuncBound
import Derived.RangeFuncLeaves
namespace Go.Proofs.Ytibmcpbkialbnaa.E
open Go Go.RowKit K
open Go.Maps (Keyed)
set_option linter.unusedVariables false
set_option linter.unusedSimpArgs false

def FW (ρ : Option Nat) : Fence := { Fence.wide with round := ρ }
structure WI (ρ : Option Nat) (M0 : Nat) (P : Program) (n : Nat) (D : List Deferred) (c : Code) (L : Slots) (w : World) (Q : Exit → Act → World → Prop) : Prop where
  go : ∀ a, Fr n D L a → c.wpIn (FW ρ) M0 P Q a w
structure WRI (ρ : Option Nat) (M0 : Nat) (P : Program) (n : Nat) (D : List Deferred) (ops : Array Oper) (l : List Oper) (L : Slots) (w : World) (Q : Exit → Act → World → Prop) : Prop where
  go : ∀ a, Fr n D L a → wpListIn (FW ρ) M0 P ops Q l a w
structure KontI (ρ : Option Nat) (M0 : Nat) (K : Act → World → Prop) (P : Program) (n : Nat) (D : List Deferred) (y : Code) (Q : Exit → Act → World → Prop) : Prop where
  go : ∀ L w, WI ρ M0 P n D y L w Q → ∀ a, Fr n D L a → K a w
theorem fw_depth {ρ : Option Nat} {n : Nat} : (FW ρ).depth.isSome = true → 1 ≤ n := fun h => by cases h
theorem callsIn_fw {ρ : Option Nat} {M0 : Nat} {P : Program} {f : FuncId} {args : Array Value} {w : World} {R : Ending → World → Prop} (h : Calls P f args w R) : CallsIn (FW ρ) M0 P f args w R := (callsIn_wide (n := M0)).2 h

section
variable {ρ : Option Nat} {M0 : Nat} {P : Program} {n : Nat} {D : List Deferred} {L : Slots} {w : World} {Q : Exit → Act → World → Prop} {ops : Array Oper} {rest : List Oper}
theorem WI.seq {x y : Code} (h : ∀ K : Act → World → Prop, KontI ρ M0 K P n D y Q → WI ρ M0 P n D x L w (Exit.then K Q)) : WI ρ M0 P n D (.seq x y) L w Q :=
  ⟨fun a ha => wpIn_seq ((h (y.wpIn (FW ρ) M0 P Q) ⟨fun L w hw a ha => hw.go a ha⟩).go a ha)⟩
theorem Ends.seqI {y : Code} {K : Act → World → Prop} (hK : KontI ρ M0 K P n D y Q) (h : WI ρ M0 P n D y L w Q) : Ends n D .normal L w (Exit.then K Q) := ⟨fun a ha => hK.go L w h a ha⟩
theorem WI.region {id : Nat} {l : List Oper} (h : WRI ρ M0 P n D l.toArray l L w Q) : WI ρ M0 P n D (.region id l.toArray false) L w Q := ⟨fun a ha => wpIn_region_lit (h.go a ha)⟩
theorem WRI.nil (h : Ends n D .normal L w Q) : WRI ρ M0 P n D ops [] L w Q := ⟨fun a ha => wpListIn_nil (h.go a ha)⟩
theorem WRI.guard_yes {dst : Option Tmp} {op : Op} {ty : TypeId} {pos : String} {after : Array Edge} {j : Nat} {b : Bool} {s : Nat} (hs : (ops[j]?).bind (·.dst) = some s) (hv : look L s = some (.bool b))
    (h : WRI ρ M0 P n D ops (⟨dst, op, ty, pos, after, none⟩ :: rest) L w Q) : WRI ρ M0 P n D ops (⟨dst, op, ty, pos, after, some (j, b)⟩ :: rest) L w Q := by
  refine ⟨fun a ha => ?_⟩
  have h1 := h.go a ha
  unfold wpListIn at h1 ⊢
  rw [if_pos (by simp [Region.wanted])] at h1
  have hy : yielded ops a.tmps j = some b := by unfold yielded; rw [hs]; simp [ha.vals s _ hv]
  rw [if_pos (by simp [Region.wanted, hy])]
  exact h1
theorem WRI.guard_no {d : Nat} {op : Op} {ty : TypeId} {pos : String} {after : Array Edge} {j : Nat} {b : Bool} {s : Nat} {v : Value} (hs : (ops[j]?).bind (·.dst) = some s) (hv : look L s = some v) (hne : v ≠ .bool b) (hd : Nat.blt d n = true)
    (h : WRI ρ M0 P n D ops rest ((d, undef) :: L) w Q) : WRI ρ M0 P n D ops (⟨some d, op, ty, pos, after, some (j, b)⟩ :: rest) L w Q := by
  refine ⟨fun a ha => ?_⟩
  unfold wpListIn
  rw [if_neg (wanted_no ha rfl hs hv hne)]
  exact ⟨fun _ _ => trivial, h.go _ (ha.put hd undef)⟩
theorem WRI.guard_no0 {op : Op} {ty : TypeId} {pos : String} {after : Array Edge} {j : Nat} {b : Bool} {s : Nat} {v : Value} (hs : (ops[j]?).bind (·.dst) = some s) (hv : look L s = some v) (hne : v ≠ .bool b)
    (h : WRI ρ M0 P n D ops rest L w Q) : WRI ρ M0 P n D ops (⟨none, op, ty, pos, after, some (j, b)⟩ :: rest) L w Q := by
  refine ⟨fun a ha => ?_⟩
  unfold wpListIn
  rw [if_neg (wanted_no ha rfl hs hv hne)]
  exact ⟨fun _ _ => trivial, h.go _ (ha.put_none undef)⟩
theorem not_defer {o : Oper} {ev : Operand → Value} {nx : Next} {w' : World} (h : (execOp ev o).run P w = .ok nx w') (hn : ∀ d, nx ≠ .defer d) : ∀ c, o.op ≠ .defer c := by
  intro c hc
  unfold execOp at h
  rw [hc] at h
  simp only [Sem.run_bind] at h
  cases hr : (resolve ev c o.type).run P w with
  | ok d w2 => rw [hr] at h; simp only [Result.andThen_ok, Sem.run_pure] at h; cases h; exact hn _ rfl
  | halt x w2 => rw [hr] at h; cases h
theorem sem_at {o : Oper} {ev : Operand → Value} {nx : Next} {w' : World} (h : (execOp ev o).run P w = .ok nx w') (hn : ∀ d, nx ≠ .defer d) : (o.semAt (FW ρ).round ev).run P w = .ok nx w' := by
  rw [Oper.semAt_eq _ _ _ (not_defer h hn)]; exact h
theorem WRI.val {d : Nat} {op : Op} {ty : TypeId} {pos : String} {after : Array Edge} {v : Value} {w' : World} (hd : Nat.blt d n = true) (hr : ∀ a, Fr n D L a → (execOp a.eval ⟨some d, op, ty, pos, after, none⟩).run P w = .ok (.value v) w')
    (h : WRI ρ M0 P n D ops rest ((d, v) :: L) w' Q) : WRI ρ M0 P n D ops (⟨some d, op, ty, pos, after, none⟩ :: rest) L w Q :=
  ⟨fun a ha => wpListIn_plain rfl fun K hK => ⟨fun _ _ => trivial, by rw [sem_at (hr a ha) (fun d h => by cases h)]; exact hK _ _ (h.go _ (ha.put hd v))⟩⟩
theorem WRI.skip {op : Op} {ty : TypeId} {pos : String} {after : Array Edge} {w' : World} (hr : ∀ a, Fr n D L a → (execOp a.eval ⟨none, op, ty, pos, after, none⟩).run P w = .ok .skip w')
    (h : WRI ρ M0 P n D ops rest L w' Q) : WRI ρ M0 P n D ops (⟨none, op, ty, pos, after, none⟩ :: rest) L w Q :=
  ⟨fun a ha => wpListIn_plain rfl fun K hK => ⟨fun _ _ => trivial, by rw [sem_at (hr a ha) (fun d h => by cases h)]; exact hK _ _ (h.go _ (ha.put_none undef))⟩⟩
theorem evs {xs : Array Operand} {vs : Array Value} {a : Act} (ha : Fr n D L a) (hx : xs.toList.map (evo L) = vs.toList.map some) : xs.map a.eval = vs := by
  apply Array.toList_inj.1
  rw [Array.toList_map]
  generalize xs.toList = l at *
  generalize vs.toList = m at *
  induction l generalizing m with
  | nil => cases m <;> simp_all
  | cons x l ih =>
    cases m with
    | nil => simp at hx
    | cons v m => simp only [List.map_cons, List.cons.injEq] at hx ⊢; exact ⟨ha.ev hx.1, ih m hx.2⟩
theorem WRI.call {d : Nat} {ty : TypeId} {pos : String} {after : Array Edge} {f : FuncId} {xs : Array Operand} {ats : Array TypeId} [E : Ent P f] {vs : Array Value} {R : Ending → World → Prop} (hx : xs.toList.map (evo L) = vs.toList.map some) (hd : Nat.blt d n = true) (hc : Calls P f vs w R)
    (h : ∀ e w', R e w' → ∃ v, e = .returned v ∧ WRI ρ M0 P n D ops rest ((d, v) :: L) w' Q) : WRI ρ M0 P n D ops (⟨some d, .call { callee := .value (.func f), args := xs, argTypes := ats }, ty, pos, after, none⟩ :: rest) L w Q :=
  ⟨fun a ha => wpListIn_plain rfl fun K hK => ⟨fun _ _ => trivial, by
    have hr : (execOp a.eval ⟨some d, .call { callee := .value (.func f), args := xs, argTypes := ats }, ty, pos, after, none⟩).run P w = .ok (.enter f vs) w := by
      rw [execOp_call_go, evs ha hx, show (#[] ++ vs ++ #[] : Array Value) = vs by simp, E.h]
    rw [sem_at hr (fun d h => by cases h)]
    refine ⟨fw_depth, (callsIn_fw hc).mono fun e w' he => ?_⟩
    obtain ⟨v, rfl, hk⟩ := h e w' he
    exact hK _ _ (hk.go _ (ha.put hd v))⟩⟩
theorem WRI.call0 {ty : TypeId} {pos : String} {after : Array Edge} {f : FuncId} {xs : Array Operand} {ats : Array TypeId} [E : Ent P f] {vs : Array Value} {R : Ending → World → Prop} (hx : xs.toList.map (evo L) = vs.toList.map some) (hc : Calls P f vs w R)
    (h : ∀ e w', R e w' → ∃ v, e = .returned v ∧ WRI ρ M0 P n D ops rest L w' Q) : WRI ρ M0 P n D ops (⟨none, .call { callee := .value (.func f), args := xs, argTypes := ats }, ty, pos, after, none⟩ :: rest) L w Q :=
  ⟨fun a ha => wpListIn_plain rfl fun K hK => ⟨fun _ _ => trivial, by
    have hr : (execOp a.eval ⟨none, .call { callee := .value (.func f), args := xs, argTypes := ats }, ty, pos, after, none⟩).run P w = .ok (.enter f vs) w := by
      rw [execOp_call_go, evs ha hx, show (#[] ++ vs ++ #[] : Array Value) = vs by simp, E.h]
    rw [sem_at hr (fun d h => by cases h)]
    refine ⟨fw_depth, (callsIn_fw hc).mono fun e w' he => ?_⟩
    obtain ⟨v, rfl, hk⟩ := h e w' he
    exact hK _ _ (hk.go _ (ha.put_none v))⟩⟩
/-- A loop: X is what a round starts from. -/
theorem WI.loop {X : Type} {body : Code} (LI : X → Slots) (J : X → World → Prop) (m : X → Nat) (x0 : X) (hk : Keeps L (LI x0)) (h0 : J x0 w)
    (round : ∀ x w, J x w → ∀ K : Act → World → Prop, (∀ x' L' w', Keeps L' (LI x') → J x' w' → m x' < m x → ∀ a, Fr n D L' a → K a w') → WI ρ M0 P n D body (LI x) w (Exit.then K Q)) : WI ρ M0 P n D (.loop body) L w Q := by
  refine ⟨fun a ha => ?_⟩
  classical
  let G : Nat → Act → World → Prop := fun k a w => ∃ x, Fr n D (LI x) a ∧ J x w ∧ m x = k
  let I : Act → World → Prop := fun a w => ∃ k, G k a w
  have least : ∀ a w, I a w → ∃ k, G k a w ∧ ∀ j, G j a w → k ≤ j := fun a w hI => by
    obtain ⟨k, hk⟩ := hI
    induction k using Nat.strongRecOn with
    | _ k ih =>
      by_cases h : ∃ j, j < k ∧ G j a w
      · obtain ⟨j, hj, hg⟩ := h; exact ih j hj hg
      · exact ⟨k, hk, fun j hj => Nat.le_of_not_lt fun hlt => h ⟨j, hlt, hj⟩⟩
  let mu : Act → World → Nat := fun a w => if h : I a w then Classical.choose (least a w h) else 0
  refine wpIn_loop I mu ⟨_, x0, ha.keep hk, h0, rfl⟩ fun a w hI => ?_
  have hmu : mu a w = Classical.choose (least a w hI) := dif_pos hI
  obtain ⟨x, hF, hJ, hm⟩ : G (mu a w) a w := by rw [hmu]; exact (Classical.choose_spec (least a w hI)).1
  refine (round x w hJ (fun a' w' => I a' w' ∧ mu a' w' < mu a w) ?_).go a hF
  intro x' L' w' hk' hJ' hlt a' ha'
  have hG : G (m x') a' w' := ⟨x', ha'.keep hk', hJ', rfl⟩
  have hI' : I a' w' := ⟨_, hG⟩
  refine ⟨hI', ?_⟩
  have : mu a' w' = Classical.choose (least a' w' hI') := dif_pos hI'
  rw [this, ← hm]
  exact Nat.lt_of_le_of_lt ((Classical.choose_spec (least a' w' hI')).2 _ hG) hlt
/-- A piece of code, and what follows it: the slots LC x and J x w stand between them. -/
theorem WI.cut {X : Type} (LC : X → Slots) (J : X → World → Prop) {x y : Code}
    (h1 : ∀ K : Act → World → Prop, (∀ z L' w', Keeps L' (LC z) → J z w' → ∀ a, Fr n D L' a → K a w') → WI ρ M0 P n D x L w (Exit.then K Q))
    (h2 : ∀ z w', J z w' → WI ρ M0 P n D y (LC z) w' Q) : WI ρ M0 P n D (.seq x y) L w Q :=
  ⟨fun a ha => wpIn_seq (wpIn_mono ((h1 (fun a' w' => ∃ z, Fr n D (LC z) a' ∧ J z w') (fun z L' w' hk hJ a' ha' => ⟨z, ha'.keep hk, hJ⟩)).go a ha) (fun e a' w' he => by
    cases e <;> first | (obtain ⟨z, hF, hJ⟩ := he; exact (h2 z w' hJ).go a' hF) | exact he))⟩
theorem WI.toW {c : Code} (h : WI none M0 P n D c L w Q) : W P n D c L w Q := ⟨fun a ha => (wpIn_wide (n := M0)).1 (h.go a ha)⟩
theorem W.toI {c : Code} (h : W P n D c L w Q) : WI none M0 P n D c L w Q := ⟨fun a ha => (wpIn_wide (n := M0)).2 (h.go a ha)⟩
section ops
variable {d : Nat} {ty t u : TypeId} {pos : String} {after : Array Edge} {x y z : Operand} {v vx vy vz : Value} {w' : World} {Os Zs : List Ass} {a b c : Ass}
theorem WI.id {c : Code} (h : WI ρ M0 P n D c L w Q) : WI ρ M0 P n D c L w Q := h
theorem WRI.id {l : List Oper} (h : WRI ρ M0 P n D ops l L w Q) : WRI ρ M0 P n D ops l L w Q := h
theorem WI.cond_true {c : Operand} {x y : Code} (hc : evo L c = some (.bool true)) (h : WI ρ M0 P n D x L w Q) : WI ρ M0 P n D (.cond c x y) L w Q := ⟨fun a ha => wpIn_cond_true (ha.ev hc) (h.go a ha)⟩
theorem WI.cond_false {c : Operand} {x y : Code} (hc : evo L c = some (.bool false)) (h : WI ρ M0 P n D y L w Q) : WI ρ M0 P n D (.cond c x y) L w Q := ⟨fun a ha => wpIn_cond_false (ha.ev hc) (h.go a ha)⟩
theorem WI.cond {c : Operand} {x y : Code} {t : Bool} (hc : evo L c = some (.bool t)) (h1 : t = true → WI ρ M0 P n D x L w Q) (h2 : t = false → WI ρ M0 P n D y L w Q) : WI ρ M0 P n D (.cond c x y) L w Q := by
  cases t with
  | true => exact WI.cond_true hc (h1 rfl)
  | false => exact WI.cond_false hc (h2 rfl)
theorem WI.condP {c : Operand} {x y : Code} {p : Prop} [Decidable p] (hc : evo L c = some (.bool (decide p))) (h1 : p → WI ρ M0 P n D x L w Q) (h2 : ¬ p → WI ρ M0 P n D y L w Q) : WI ρ M0 P n D (.cond c x y) L w Q :=
  WI.cond hc (fun h => h1 (of_decide_eq_true h)) (fun h => h2 (of_decide_eq_false h))
theorem WI.block {id : Nat} {c : Code} (h : WI ρ M0 P n D c L w (Exit.inBlock id Q)) : WI ρ M0 P n D (.block id c) L w Q := ⟨fun a ha => wpIn_block (h.go a ha)⟩
theorem WI.ret (h : Ends n D .ret L w Q) : WI ρ M0 P n D .ret L w Q := ⟨fun a ha => wpIn_ret (h.go a ha)⟩
theorem WI.skip (h : Ends n D .normal L w Q) : WI ρ M0 P n D .skip L w Q := ⟨fun a ha => wpIn_skip (h.go a ha)⟩
theorem WI.exit {id : Nat} (h : Ends n D (.exit id) L w Q) : WI ρ M0 P n D (.exit id) L w Q := ⟨fun a ha => wpIn_exit (h.go a ha)⟩
theorem WI.label {l : Nat} (h : Ends n D .normal L w Q) : WI ρ M0 P n D (.label l) L w Q := ⟨fun a ha => wpIn_label (h.go a ha)⟩
theorem WI.keep {c : Code} {r : Slots} (hk : Keeps L r) (h : WI ρ M0 P n D c r w Q) : WI ρ M0 P n D c L w Q := ⟨fun a ha => h.go a (ha.keep hk)⟩
theorem WRI.keep {l : List Oper} {r : Slots} (hk : Keeps L r) (h : WRI ρ M0 P n D ops l r w Q) : WRI ρ M0 P n D ops l L w Q := ⟨fun a ha => h.go a (ha.keep hk)⟩
theorem WRI.sv {op : Op} (hv : Val P L op ty w v) (hd : Nat.blt d n = true) (h : WRI ρ M0 P n D ops rest ((d, v) :: L) w Q) : WRI ρ M0 P n D ops (⟨some d, op, ty, pos, after, none⟩ :: rest) L w Q := .val hd (fun a ha => hv.run ha) h
theorem WRI.move (hx : evo L x = some v) (hd : Nat.blt d n = true) (h : WRI ρ M0 P n D ops rest ((d, v) :: L) w Q) : WRI ρ M0 P n D ops (⟨some d, .move x, ty, pos, after, none⟩ :: rest) L w Q := .sv (Vx.move hx) hd h
theorem WRI.assign (hx : evo L x = some v) (hd : Nat.blt d n = true) (h : WRI ρ M0 P n D ops rest ((d, v) :: L) w Q) : WRI ρ M0 P n D ops (⟨some d, .assign x, ty, pos, after, none⟩ :: rest) L w Q := .sv (Vx.assign hx) hd h
theorem WRI.pick_t (hx : evo L x = some (.bool true)) (hy : evo L y = some v) (hd : Nat.blt d n = true) (h : WRI ρ M0 P n D ops rest ((d, v) :: L) w Q) : WRI ρ M0 P n D ops (⟨some d, .pick x y z, ty, pos, after, none⟩ :: rest) L w Q := .sv (Vx.pick_t hx hy) hd h
theorem WRI.pick_f (hx : evo L x = some (.bool false)) (hz : evo L z = some v) (hd : Nat.blt d n = true) (h : WRI ρ M0 P n D ops rest ((d, v) :: L) w Q) : WRI ρ M0 P n D ops (⟨some d, .pick x y z, ty, pos, after, none⟩ :: rest) L w Q := .sv (Vx.pick_f hx hz) hd h
theorem WRI.pick_or {p q : Bool} (hx : evo L x = some (.bool p)) (hz : evo L z = some (.bool q)) (hd : Nat.blt d n = true) (h : WRI ρ M0 P n D ops rest ((d, .bool (p || q)) :: L) w Q) : WRI ρ M0 P n D ops (⟨some d, .pick x (.const (.bool true)) z, ty, pos, after, none⟩ :: rest) L w Q := .sv (Vx.pick_or hx hz) hd h
theorem WRI.pick_and {p q : Bool} (hx : evo L x = some (.bool p)) (hy : evo L y = some (.bool q)) (hd : Nat.blt d n = true) (h : WRI ρ M0 P n D ops rest ((d, .bool (p && q)) :: L) w Q) : WRI ρ M0 P n D ops (⟨some d, .pick x y (.const (.bool false)), ty, pos, after, none⟩ :: rest) L w Q := .sv (Vx.pick_and hx hy) hd h
theorem WRI.extract {i : Nat} {vs : List Value} (hx : evo L x = some (.tuple vs.toArray)) (hv' : nth vs i = some v) (hd : Nat.blt d n = true) (h : WRI ρ M0 P n D ops rest ((d, v) :: L) w Q) : WRI ρ M0 P n D ops (⟨some d, .extract x i, ty, pos, after, none⟩ :: rest) L w Q := .sv (Vx.extract hx hv') hd h
theorem WRI.bin {op : BinOp} (hx : evo L x = some vx) (hy : evo L y = some vy) (hd : Nat.blt d n = true) (hg : (eqGuard op t x y vx vy).run P w = .ok () w) (hr : (binOp op t vx vy).run P w = .ok v w) (h : WRI ρ M0 P n D ops rest ((d, v) :: L) w Q) : WRI ρ M0 P n D ops (⟨some d, .binOp op t x y u, ty, pos, after, none⟩ :: rest) L w Q := .sv (Vx.bin hx hy hg hr) hd h
theorem WRI.lss {k : IntKind} {i j : Int} (hx : evo L x = some (.int k i)) (hy : evo L y = some (.int k j)) (hd : Nat.blt d n = true) (h : WRI ρ M0 P n D ops rest ((d, .bool (decide (i < j))) :: L) w Q) : WRI ρ M0 P n D ops (⟨some d, .binOp .lss t x y u, ty, pos, after, none⟩ :: rest) L w Q := .sv (Vx.lss hx hy) hd h
theorem WRI.leq {k : IntKind} {i j : Int} (hx : evo L x = some (.int k i)) (hy : evo L y = some (.int k j)) (hd : Nat.blt d n = true) (h : WRI ρ M0 P n D ops rest ((d, .bool (decide (i ≤ j))) :: L) w Q) : WRI ρ M0 P n D ops (⟨some d, .binOp .leq t x y u, ty, pos, after, none⟩ :: rest) L w Q := .sv (Vx.leq hx hy) hd h
theorem WRI.gtr {k : IntKind} {i j : Int} (hx : evo L x = some (.int k i)) (hy : evo L y = some (.int k j)) (hd : Nat.blt d n = true) (h : WRI ρ M0 P n D ops rest ((d, .bool (decide (j < i))) :: L) w Q) : WRI ρ M0 P n D ops (⟨some d, .binOp .gtr t x y u, ty, pos, after, none⟩ :: rest) L w Q := .sv (Vx.gtr hx hy) hd h
theorem WRI.geq {k : IntKind} {i j : Int} (hx : evo L x = some (.int k i)) (hy : evo L y = some (.int k j)) (hd : Nat.blt d n = true) (h : WRI ρ M0 P n D ops rest ((d, .bool (decide (j ≤ i))) :: L) w Q) : WRI ρ M0 P n D ops (⟨some d, .binOp .geq t x y u, ty, pos, after, none⟩ :: rest) L w Q := .sv (Vx.geq hx hy) hd h
theorem WRI.eql {k : IntKind} {i j : Int} (hx : evo L x = some (.int k i)) (hy : evo L y = some (.int k j)) (hd : Nat.blt d n = true) (h : WRI ρ M0 P n D ops rest ((d, .bool (decide (i = j))) :: L) w Q) : WRI ρ M0 P n D ops (⟨some d, .binOp .eql t x y u, ty, pos, after, none⟩ :: rest) L w Q := .sv (Vx.eql hx hy) hd h
theorem WRI.neq {k : IntKind} {i j : Int} (hx : evo L x = some (.int k i)) (hy : evo L y = some (.int k j)) (hd : Nat.blt d n = true) (h : WRI ρ M0 P n D ops rest ((d, .bool (decide (i ≠ j))) :: L) w Q) : WRI ρ M0 P n D ops (⟨some d, .binOp .neq t x y u, ty, pos, after, none⟩ :: rest) L w Q := .sv (Vx.neq hx hy) hd h
theorem WRI.lss_t {k : IntKind} {i j : Int} (hx : evo L x = some (.int k i)) (hy : evo L y = some (.int k j)) (hd : Nat.blt d n = true) (hp : i < j) (h : WRI ρ M0 P n D ops rest ((d, .bool true) :: L) w Q) : WRI ρ M0 P n D ops (⟨some d, .binOp .lss t x y u, ty, pos, after, none⟩ :: rest) L w Q := .sv (Vx.lss_t hx hy hp) hd h
theorem WRI.lss_f {k : IntKind} {i j : Int} (hx : evo L x = some (.int k i)) (hy : evo L y = some (.int k j)) (hd : Nat.blt d n = true) (hp : ¬ (i < j)) (h : WRI ρ M0 P n D ops rest ((d, .bool false) :: L) w Q) : WRI ρ M0 P n D ops (⟨some d, .binOp .lss t x y u, ty, pos, after, none⟩ :: rest) L w Q := .sv (Vx.lss_f hx hy hp) hd h
theorem WRI.leq_t {k : IntKind} {i j : Int} (hx : evo L x = some (.int k i)) (hy : evo L y = some (.int k j)) (hd : Nat.blt d n = true) (hp : i ≤ j) (h : WRI ρ M0 P n D ops rest ((d, .bool true) :: L) w Q) : WRI ρ M0 P n D ops (⟨some d, .binOp .leq t x y u, ty, pos, after, none⟩ :: rest) L w Q := .sv (Vx.leq_t hx hy hp) hd h
theorem WRI.leq_f {k : IntKind} {i j : Int} (hx : evo L x = some (.int k i)) (hy : evo L y = some (.int k j)) (hd : Nat.blt d n = true) (hp : ¬ (i ≤ j)) (h : WRI ρ M0 P n D ops rest ((d, .bool false) :: L) w Q) : WRI ρ M0 P n D ops (⟨some d, .binOp .leq t x y u, ty, pos, after, none⟩ :: rest) L w Q := .sv (Vx.leq_f hx hy hp) hd h
theorem WRI.gtr_t {k : IntKind} {i j : Int} (hx : evo L x = some (.int k i)) (hy : evo L y = some (.int k j)) (hd : Nat.blt d n = true) (hp : j < i) (h : WRI ρ M0 P n D ops rest ((d, .bool true) :: L) w Q) : WRI ρ M0 P n D ops (⟨some d, .binOp .gtr t x y u, ty, pos, after, none⟩ :: rest) L w Q := .sv (Vx.gtr_t hx hy hp) hd h
theorem WRI.gtr_f {k : IntKind} {i j : Int} (hx : evo L x = some (.int k i)) (hy : evo L y = some (.int k j)) (hd : Nat.blt d n = true) (hp : ¬ (j < i)) (h : WRI ρ M0 P n D ops rest ((d, .bool false) :: L) w Q) : WRI ρ M0 P n D ops (⟨some d, .binOp .gtr t x y u, ty, pos, after, none⟩ :: rest) L w Q := .sv (Vx.gtr_f hx hy hp) hd h
theorem WRI.geq_t {k : IntKind} {i j : Int} (hx : evo L x = some (.int k i)) (hy : evo L y = some (.int k j)) (hd : Nat.blt d n = true) (hp : j ≤ i) (h : WRI ρ M0 P n D ops rest ((d, .bool true) :: L) w Q) : WRI ρ M0 P n D ops (⟨some d, .binOp .geq t x y u, ty, pos, after, none⟩ :: rest) L w Q := .sv (Vx.geq_t hx hy hp) hd h
theorem WRI.geq_f {k : IntKind} {i j : Int} (hx : evo L x = some (.int k i)) (hy : evo L y = some (.int k j)) (hd : Nat.blt d n = true) (hp : ¬ (j ≤ i)) (h : WRI ρ M0 P n D ops rest ((d, .bool false) :: L) w Q) : WRI ρ M0 P n D ops (⟨some d, .binOp .geq t x y u, ty, pos, after, none⟩ :: rest) L w Q := .sv (Vx.geq_f hx hy hp) hd h
theorem WRI.eql_t {k : IntKind} {i j : Int} (hx : evo L x = some (.int k i)) (hy : evo L y = some (.int k j)) (hd : Nat.blt d n = true) (hp : i = j) (h : WRI ρ M0 P n D ops rest ((d, .bool true) :: L) w Q) : WRI ρ M0 P n D ops (⟨some d, .binOp .eql t x y u, ty, pos, after, none⟩ :: rest) L w Q := .sv (Vx.eql_t hx hy hp) hd h
theorem WRI.eql_f {k : IntKind} {i j : Int} (hx : evo L x = some (.int k i)) (hy : evo L y = some (.int k j)) (hd : Nat.blt d n = true) (hp : ¬ (i = j)) (h : WRI ρ M0 P n D ops rest ((d, .bool false) :: L) w Q) : WRI ρ M0 P n D ops (⟨some d, .binOp .eql t x y u, ty, pos, after, none⟩ :: rest) L w Q := .sv (Vx.eql_f hx hy hp) hd h
theorem WRI.neq_t {k : IntKind} {i j : Int} (hx : evo L x = some (.int k i)) (hy : evo L y = some (.int k j)) (hd : Nat.blt d n = true) (hp : i ≠ j) (h : WRI ρ M0 P n D ops rest ((d, .bool true) :: L) w Q) : WRI ρ M0 P n D ops (⟨some d, .binOp .neq t x y u, ty, pos, after, none⟩ :: rest) L w Q := .sv (Vx.neq_t hx hy hp) hd h
theorem WRI.neq_f {k : IntKind} {i j : Int} (hx : evo L x = some (.int k i)) (hy : evo L y = some (.int k j)) (hd : Nat.blt d n = true) (hp : ¬ (i ≠ j)) (h : WRI ρ M0 P n D ops rest ((d, .bool false) :: L) w Q) : WRI ρ M0 P n D ops (⟨some d, .binOp .neq t x y u, ty, pos, after, none⟩ :: rest) L w Q := .sv (Vx.neq_f hx hy hp) hd h
theorem WRI.add {i j : Int} (hx : evo L x = some (.int .i64 i)) (hy : evo L y = some (.int .i64 j)) (hd : Nat.blt d n = true) (h1 : -9223372036854775808 ≤ i + j) (h2 : i + j ≤ 9223372036854775807) (h : WRI ρ M0 P n D ops rest ((d, .int .i64 (i + j)) :: L) w Q) : WRI ρ M0 P n D ops (⟨some d, .binOp .add t x y u, ty, pos, after, none⟩ :: rest) L w Q := .sv (Vx.add hx hy h1 h2) hd h
theorem WRI.inc {i : Nat} (hx : evo L x = some (.int .i64 (i : Nat))) (hd : Nat.blt d n = true) (h1 : i < 9223372036854775807) (h : WRI ρ M0 P n D ops rest ((d, .int .i64 ((i + 1 : Nat) : Int)) :: L) w Q) : WRI ρ M0 P n D ops (⟨some d, .binOp .add t x (.const (.int .i64 1)) u, ty, pos, after, none⟩ :: rest) L w Q := .sv (Vx.inc hx h1) hd h
theorem WRI.sub {i j : Int} (hx : evo L x = some (.int .i64 i)) (hy : evo L y = some (.int .i64 j)) (hd : Nat.blt d n = true) (h1 : -9223372036854775808 ≤ i - j) (h2 : i - j ≤ 9223372036854775807) (h : WRI ρ M0 P n D ops rest ((d, .int .i64 (i - j)) :: L) w Q) : WRI ρ M0 P n D ops (⟨some d, .binOp .sub t x y u, ty, pos, after, none⟩ :: rest) L w Q := .sv (Vx.sub hx hy h1 h2) hd h
theorem WRI.mul {i j : Int} (hx : evo L x = some (.int .i64 i)) (hy : evo L y = some (.int .i64 j)) (hd : Nat.blt d n = true) (h1 : -9223372036854775808 ≤ i * j) (h2 : i * j ≤ 9223372036854775807) (h : WRI ρ M0 P n D ops rest ((d, .int .i64 (i * j)) :: L) w Q) : WRI ρ M0 P n D ops (⟨some d, .binOp .mul t x y u, ty, pos, after, none⟩ :: rest) L w Q := .sv (Vx.mul hx hy h1 h2) hd h
theorem WRI.seq {a b : ByteArray} (hx : evo L x = some (.string a)) (hy : evo L y = some (.string b)) (hd : Nat.blt d n = true) (h : WRI ρ M0 P n D ops rest ((d, .bool (a.toList == b.toList)) :: L) w Q) : WRI ρ M0 P n D ops (⟨some d, .binOp .eql t x y u, ty, pos, after, none⟩ :: rest) L w Q := .sv (Vx.seq hx hy) hd h
theorem WRI.neqB {a b : Bool} [U : Und P t .bool] (hx : evo L x = some (.bool a)) (hy : evo L y = some (.bool b)) (hd : Nat.blt d n = true) (h : WRI ρ M0 P n D ops rest ((d, .bool (a != b)) :: L) w Q) : WRI ρ M0 P n D ops (⟨some d, .binOp .neq t x y u, ty, pos, after, none⟩ :: rest) L w Q := .sv (Vx.neqB hx hy) hd h
theorem WRI.eqlB {a b : Bool} [U : Und P t .bool] (hx : evo L x = some (.bool a)) (hy : evo L y = some (.bool b)) (hd : Nat.blt d n = true) (h : WRI ρ M0 P n D ops rest ((d, .bool (a == b)) :: L) w Q) : WRI ρ M0 P n D ops (⟨some d, .binOp .eql t x y u, ty, pos, after, none⟩ :: rest) L w Q := .sv (Vx.eqlB hx hy) hd h
theorem WRI.un {op : UnOp} (hx : evo L x = some vx) (hd : Nat.blt d n = true) (hr : (Op.unary op vx).run P w = .ok v w) (h : WRI ρ M0 P n D ops rest ((d, v) :: L) w Q) : WRI ρ M0 P n D ops (⟨some d, .unOp op t x, ty, pos, after, none⟩ :: rest) L w Q := .sv (Vx.un hx hr) hd h
theorem WRI.not {b : Bool} (hx : evo L x = some (.bool b)) (hd : Nat.blt d n = true) (h : WRI ρ M0 P n D ops rest ((d, .bool (!b)) :: L) w Q) : WRI ρ M0 P n D ops (⟨some d, .unOp .not t x, ty, pos, after, none⟩ :: rest) L w Q := .sv (Vx.not hx) hd h
theorem WRI.not_dec {p : Prop} [Decidable p] (hx : evo L x = some (.bool (decide p))) (hd : Nat.blt d n = true) (h : WRI ρ M0 P n D ops rest ((d, .bool (decide (¬ p))) :: L) w Q) : WRI ρ M0 P n D ops (⟨some d, .unOp .not t x, ty, pos, after, none⟩ :: rest) L w Q := .sv (Vx.not_dec hx) hd h
theorem WRI.builtin1 {bi : Builtin} {ats : Array TypeId} (hx : evo L x = some vx) (hd : Nat.blt d n = true) (hr : ∀ cs, (builtin bi ats ty cs #[vx]).run P w = .ok (.value v) w) (h : WRI ρ M0 P n D ops rest ((d, v) :: L) w Q) : WRI ρ M0 P n D ops (⟨some d, .call { callee := .builtin bi, args := #[x], argTypes := ats }, ty, pos, after, none⟩ :: rest) L w Q := .sv (Vx.builtin1 hx hr) hd h
theorem WRI.builtin2 {bi : Builtin} {ats : Array TypeId} (hx : evo L x = some vx) (hy : evo L y = some vy) (hd : Nat.blt d n = true) (hr : ∀ cs, (builtin bi ats ty cs #[vx, vy]).run P w = .ok (.value v) w') (h : WRI ρ M0 P n D ops rest ((d, v) :: L) w' Q) :
    WRI ρ M0 P n D ops (⟨some d, .call { callee := .builtin bi, args := #[x, y], argTypes := ats }, ty, pos, after, none⟩ :: rest) L w Q :=
  .val hd (fun a ha => by rw [BigFrame.execOp_builtin]; simp only [List.map_toArray, List.map_cons, List.map_nil, ha.ev hx, ha.ev hy, hr]) h
theorem WRI.len {A : Option Addr} {k c : Nat} {e : TypeId} [U : Und P t (.slice e)] (hx : evo L x = some (.slice A k c)) (hd : Nat.blt d n = true) (h : WRI ρ M0 P n D ops rest ((d, .int .i64 (k : Nat)) :: L) w Q) : WRI ρ M0 P n D ops (⟨some d, .call { callee := .builtin .len, args := #[x], argTypes := #[t] }, ty, pos, after, none⟩ :: rest) L w Q := .sv (Vx.len hx) hd h
theorem WRI.lenS {s : ByteArray} [U : Und P t .string] (hx : evo L x = some (.string s)) (hd : Nat.blt d n = true) (h : WRI ρ M0 P n D ops rest ((d, .int .i64 (s.size : Nat)) :: L) w Q) : WRI ρ M0 P n D ops (⟨some d, .call { callee := .builtin .len, args := #[x], argTypes := #[t] }, ty, pos, after, none⟩ :: rest) L w Q := .sv (Vx.lenS hx) hd h
theorem WRI.ptrNil {p : Option Addr} {e : TypeId} [U : Und P t (.pointer e)] (hx : evo L x = some (.pointer p)) (hy : evo L y = some (.pointer none)) (hd : Nat.blt d n = true) (h : WRI ρ M0 P n D ops rest ((d, .bool p.isNone) :: L) w Q) : WRI ρ M0 P n D ops (⟨some d, .binOp .eql t x y u, ty, pos, after, none⟩ :: rest) L w Q := .sv (Vx.ptrNil hx hy) hd h
theorem WRI.ptrNilN {p : Option Addr} {e : TypeId} [U : Und P t (.pointer e)] (hx : evo L x = some (.pointer p)) (hy : evo L y = some (.pointer none)) (hd : Nat.blt d n = true) (h : WRI ρ M0 P n D ops rest ((d, .bool (!p.isNone)) :: L) w Q) : WRI ρ M0 P n D ops (⟨some d, .binOp .neq t x y u, ty, pos, after, none⟩ :: rest) L w Q := .sv (Vx.ptrNilN hx hy) hd h
theorem WRI.conv {k k' : IntKind} {i : Int} [U : Und P t (.int k)] [V : Und P u (.int k')] (hx : evo L x = some (.int k i)) (hd : Nat.blt d n = true) (h : WRI ρ M0 P n D ops rest ((d, .int k' (k'.wrap i)) :: L) w Q) : WRI ρ M0 P n D ops (⟨some d, .convert t u x, ty, pos, after, none⟩ :: rest) L w Q := .sv (Vx.conv hx) hd h
theorem WRI.bmax {k k' : IntKind} {i j : Int} (hx : evo L x = some (.int k i)) (hy : evo L y = some (.int k' j)) (hd : Nat.blt d n = true) (h : WRI ρ M0 P n D ops rest ((d, .int k (max i j)) :: L) w Q) : WRI ρ M0 P n D ops (⟨some d, .call { callee := .builtin .max, args := #[x, y], argTypes := #[t, u] }, ty, pos, after, none⟩ :: rest) L w Q := .sv (Vx.bmax hx hy) hd h
theorem WRI.bmin {k k' : IntKind} {i j : Int} (hx : evo L x = some (.int k i)) (hy : evo L y = some (.int k' j)) (hd : Nat.blt d n = true) (h : WRI ρ M0 P n D ops rest ((d, .int k (min i j)) :: L) w Q) : WRI ρ M0 P n D ops (⟨some d, .call { callee := .builtin .min, args := #[x, y], argTypes := #[t, u] }, ty, pos, after, none⟩ :: rest) L w Q := .sv (Vx.bmin hx hy) hd h
theorem WRI.rem {k : IntKind} (i j : Nat) (hj : 0 < j) (hx : evo L x = some (.int k (i : Nat))) (hy : evo L y = some (.int k (j : Nat))) (hd : Nat.blt d n = true) (h : WRI ρ M0 P n D ops rest ((d, .int k ((i % j : Nat) : Int)) :: L) w Q) : WRI ρ M0 P n D ops (⟨some d, .binOp .rem t x y u, ty, pos, after, none⟩ :: rest) L w Q := .sv (Vx.rem i j hj hx hy) hd h
theorem WRI.quo {k : IntKind} (i j : Nat) (hj : 0 < j) (hi : k.wrap ((i / j : Nat) : Int) = ((i / j : Nat) : Int)) (hx : evo L x = some (.int k (i : Nat))) (hy : evo L y = some (.int k (j : Nat))) (hd : Nat.blt d n = true) (h : WRI ρ M0 P n D ops rest ((d, .int k ((i / j : Nat) : Int)) :: L) w Q) : WRI ρ M0 P n D ops (⟨some d, .binOp .quo t x y u, ty, pos, after, none⟩ :: rest) L w Q := .sv (Vx.quo i j hj hi hx hy) hd h
theorem WRI.fieldAddr {i o b p : Nat} [F : Fld P t i o] (hx : evo L x = some (.pointer (some ⟨b, p, none⟩))) (hd : Nat.blt d n = true) (h : WRI ρ M0 P n D ops rest ((d, .pointer (some ⟨b, p + o, none⟩)) :: L) w Q) : WRI ρ M0 P n D ops (⟨some d, .fieldAddr t x i, ty, pos, after, none⟩ :: rest) L w Q := .sv (Vx.fieldAddr hx) hd h
theorem WRI.nilCheck {p : Addr} (hx : evo L x = some (.pointer (some p))) (hd : Nat.blt d n = true) (h : WRI ρ M0 P n D ops rest ((d, .pointer (some p)) :: L) w Q) : WRI ρ M0 P n D ops (⟨some d, .nilCheck x, ty, pos, after, none⟩ :: rest) L w Q := .sv (Vx.nilCheck hx) hd h
theorem WRI.indexAddr {e k b o len cap j : Nat} {kd : IntKind} [U : Und P t (.slice e)] [S : Siz P e k] (hx : evo L x = some (.slice (some ⟨b, o, none⟩) len cap)) (hy : evo L y = some (.int kd (j : Int))) (hd : Nat.blt d n = true) (hj : j < len) (h : WRI ρ M0 P n D ops rest ((d, .pointer (some ⟨b, o + j * k, none⟩)) :: L) w Q) : WRI ρ M0 P n D ops (⟨some d, .indexAddr t x y, ty, pos, after, none⟩ :: rest) L w Q := .sv (Vx.indexAddr hx hy hj) hd h
theorem WRI.indexArr {e k b o len j : Nat} {kd : IntKind} [U : Und P t (.array len e)] [S : Siz P e k] (hx : evo L x = some (.pointer (some ⟨b, o, none⟩))) (hy : evo L y = some (.int kd (j : Int))) (hd : Nat.blt d n = true) (hj : j < len) (h : WRI ρ M0 P n D ops rest ((d, .pointer (some ⟨b, o + j * k, none⟩)) :: L) w Q) : WRI ρ M0 P n D ops (⟨some d, .indexAddr t x y, ty, pos, after, none⟩ :: rest) L w Q := .sv (Vx.indexArr hx hy hj) hd h
theorem WRI.load {ad : Addr} [U : Sc P t] (hx : evo L x = some (.pointer (some ad))) (hc : w.cell? ad = some v) (hd : Nat.blt d n = true) (h : WRI ρ M0 P n D ops rest ((d, v) :: L) w Q) : WRI ρ M0 P n D ops (⟨some d, .load t x, ty, pos, after, none⟩ :: rest) L w Q := .sv (Vx.load hx hc) hd h
theorem WRI.loadRow {b o k : Nat} {cs : List Value} [U : Rw P t] [S : Siz P t k] (hx : evo L x = some (.pointer (some ⟨b, o, none⟩))) (hc : w.rangeAt b o cs) (hk : cs.length = k) (hd : Nat.blt d n = true) (h : WRI ρ M0 P n D ops rest ((d, .agg cs.toArray) :: L) w Q) : WRI ρ M0 P n D ops (⟨some d, .load t x, ty, pos, after, none⟩ :: rest) L w Q := .sv (Vx.loadRow hx hc hk) hd h
theorem WRI.loadBox {b k : Nat} {cs : List Value} [U : Rw P t] [S : Siz P t k] (hx : evo L x = some (.pointer (some ⟨b, 0, none⟩))) (hb : Box w b cs) (hk : cs.length = k) (hd : Nat.blt d n = true) (h : WRI ρ M0 P n D ops rest ((d, .agg cs.toArray) :: L) w Q) : WRI ρ M0 P n D ops (⟨some d, .load t x, ty, pos, after, none⟩ :: rest) L w Q := .sv (Vx.loadBox hx hb hk) hd h
theorem WRI.loadCell {b o : Nat} {cs : List Value} [U : Sc P t] (hx : evo L x = some (.pointer (some ⟨b, o, none⟩))) (hb : Box w b cs) (hv : cs[o]? = some v) (hd : Nat.blt d n = true) (h : WRI ρ M0 P n D ops rest ((d, v) :: L) w Q) : WRI ρ M0 P n D ops (⟨some d, .load t x, ty, pos, after, none⟩ :: rest) L w Q := .sv (Vx.loadCell hx hb hv) hd h
theorem WRI.alloc {z : Array Value} [Z : Zer P t z] (hd : Nat.blt d n = true) (h : ∀ w', Below w.heap.size w w' → Box w' w.heap.size z.toList → w'.heap.size = w.heap.size + 1 → WRI ρ M0 P n D ops rest ((d, .pointer (some ⟨w.heap.size, 0, none⟩)) :: L) w' Q) :
    WRI ρ M0 P n D ops (⟨some d, .alloc t, ty, pos, after, none⟩ :: rest) L w Q := by
  obtain ⟨zv, hz, hzc⟩ := Z.h w
  refine .val (w' := w.alloc (.cells z t)) hd (fun a ha => ?_) (h _ (below_al (Below.refl _ _) _) ⟨t, by rw [Array.toArray_toList]; exact heap_alloc_last _ _⟩ (size_alloc _ _))
  unfold execOp
  simp only [Instr.alloc, newVar, newRow, Sem.run_bind, Sem.run_pure, Result.andThen_ok, hz, run_newObj_alloc, hzc]
theorem WRI.allocStore {z c : Array Value} {ty' : TypeId} {pos' : String} {after' : Array Edge} [Z : Zer P t z] {k : Nat} [S : Siz P t k] (hd : Nat.blt d n = true) (hy : evo L y = some v) (hv : v.cells = c) (hk : c.size = k) (hz : z.size = k) (h1 : c.all (·.oneCell') = true)
    (hne : evo ((d, .pointer (some ⟨w.heap.size, 0, none⟩)) :: L) y = some v)
    (h : ∀ w', Below w.heap.size w w' → Box w' w.heap.size c.toList → w'.heap.size = w.heap.size + 1 → WRI ρ M0 P n D ops rest ((d, .pointer (some ⟨w.heap.size, 0, none⟩)) :: L) w' Q) :
    WRI ρ M0 P n D ops (⟨some d, .alloc t, ty, pos, after, none⟩ :: ⟨none, .store t (.tmp d) y, ty', pos', after', none⟩ :: rest) L w Q := by
  obtain ⟨zv, hzz, hzc⟩ := Z.h w
  refine .val (v := .pointer (some ⟨w.heap.size, 0, none⟩)) (w' := w.alloc (.cells z t)) hd (fun a ha => ?_) ?_
  · unfold execOp
    simp only [Instr.alloc, newVar, newRow, Sem.run_bind, Sem.run_pure, Result.andThen_ok, hzz, run_newObj_alloc, hzc]
  refine .skip (w' := w.alloc (.cells c t)) (fun a ha => ?_) (h _ (below_al (Below.refl _ _) _) ⟨t, by rw [Array.toArray_toList]; exact heap_alloc_last _ _⟩ (size_alloc _ _))
  have hp : a.eval (.tmp d) = .pointer (some ⟨w.heap.size, 0, none⟩) := ha.ev look_cons_eq
  have hr := run_storeVar_row (P := P) (w.alloc (.cells z t)) w.heap.size t t z c (heap_alloc_last w _) (by rw [S.h, hk]) (by rw [hz, hk]) h1
  rw [World.setRow_alloc_new] at hr
  unfold execOp
  simp only [hp, ha.ev hne, Instr.storeAt, Instr.sureAddr, Sem.run_bind, Sem.run_pure, Result.andThen_ok, store_cells t _ hv, hr]
theorem WRI.storeBox {b o : Nat} {cs : List Value} {k : Nat} [S : Siz P t k] (hb : Box w b cs) (hx : evo L x = some (.pointer (some ⟨b, o, none⟩))) (hy : evo L y = some v) (hk : k = 1) (h1 : v.oneCell' = true) (ho : o < cs.length)
    (h : ∀ w', Upd (· = b) w w' → Box w' b (cs.set o v) → w'.heap.size = w.heap.size → WRI ρ M0 P n D ops rest L w' Q) : WRI ρ M0 P n D ops (⟨none, .store t x y, ty, pos, after, none⟩ :: rest) L w Q := by
  obtain ⟨e, hh⟩ := hb
  have hc : (w.cell? ⟨b, o, none⟩) = some cs[o] := by rw [cell_in hh]; simp [ho]
  have h1c : v.cells = #[v] := by cases v <;> first | rfl | cases h1
  refine .skip (w' := w.setCell ⟨b, o, none⟩ v) (fun a ha => ?_) (h _ ((Upd.refl _ _).setCell _ _ (fun _ => rfl)) ⟨e, ?_⟩ (World.size_setCell _ _ _))
  · have hs : ∀ w, (sizeOf t).run P w = .ok 1 w := size_of (by rw [S.h, hk])
    unfold execOp
    simp only [ha.ev hx, ha.ev hy, Instr.storeAt, Instr.sureAddr, Sem.run_bind, Sem.run_pure, Result.andThen_ok]
    have ht : w.there b o #[v].size := fun j hj => by
      obtain rfl : j = 0 := by simpa using hj
      exact ⟨by rw [Nat.add_zero, hc]; rfl, by rw [Nat.add_zero]; exact frozen_in hh o⟩
    have hr := run_storeVar_mid (P := P) w b o t #[v] ht (by rw [S.h, hk]; rfl) (by simp [h1])
    rw [store_cells t ⟨b, o, none⟩ h1c, hr]; rfl
  · rw [heap_setCell_same w b o _ _ _ hh]; simp
--STEPS
theorem WRI.s {op : Op} (h : WRI ρ M0 P n D ops rest ((d, v) :: L) w Q) (hv : Val P L op ty w v := by first | (apply Vx.move; rfl) | (apply Vx.assign; rfl) | (apply Vx.idL; first | (apply Vx.loadCell; rfl; assumption; rfl) | (apply Vx.loadBox; rfl; assumption; rfl)) | (apply Vx.fieldAddr; rfl) | (apply Vx.extract; rfl; rfl) | (apply Vx.nilCheck; rfl) | (apply Vx.idP; first | (apply Vx.pick_t; rfl; rfl) | (apply Vx.pick_f; rfl; rfl) | (apply Vx.pick_or; rfl; rfl) | (apply Vx.pick_and; rfl; rfl)) | (apply Vx.idB; first | (apply Vx.eql_t; rfl; rfl; omega) | (apply Vx.eql_f; rfl; rfl; omega) | (apply Vx.eql; rfl; rfl) | (apply Vx.neq_t; rfl; rfl; omega) | (apply Vx.neq_f; rfl; rfl; omega) | (apply Vx.neq; rfl; rfl) | (apply Vx.lss_t; rfl; rfl; omega) | (apply Vx.lss_f; rfl; rfl; omega) | (apply Vx.lss; rfl; rfl) | (apply Vx.leq_t; rfl; rfl; omega) | (apply Vx.leq_f; rfl; rfl; omega) | (apply Vx.leq; rfl; rfl) | (apply Vx.gtr_t; rfl; rfl; omega) | (apply Vx.gtr_f; rfl; rfl; omega) | (apply Vx.gtr; rfl; rfl) | (apply Vx.geq_t; rfl; rfl; omega) | (apply Vx.geq_f; rfl; rfl; omega) | (apply Vx.geq; rfl; rfl) | (apply Vx.inc; rfl; omega) | (apply Vx.add; rfl; rfl; omega; omega) | (apply Vx.sub; rfl; rfl; omega; omega) | (apply Vx.ptrNil; rfl; rfl) | (apply Vx.ptrNilN; rfl; rfl) | (apply Vx.neqB; rfl; rfl) | (apply Vx.eqlB; rfl; rfl)) | (apply Vx.idC; first | (apply Vx.len; rfl) | (apply Vx.lenS; rfl) | (apply Vx.bmax; rfl; rfl) | (apply Vx.bmin; rfl; rfl)) | (apply Vx.idU; first | (apply Vx.not_dec; rfl) | (apply Vx.not; rfl)) | (apply Vx.conv; rfl)) (hd : Nat.blt d n = true := by rfl) : WRI ρ M0 P n D ops (⟨some d, op, ty, pos, after, none⟩ :: rest) L w Q := .sv hv hd h
theorem WRI.g {dst : Option Tmp} {op : Op} {g : Nat × Bool} {l2 : List Oper} {L2 : Slots} (h : WRI ρ M0 P n D ops l2 L2 w Q) (hs : WRI ρ M0 P n D ops l2 L2 w Q → WRI ρ M0 P n D ops (⟨dst, op, ty, pos, after, some g⟩ :: rest) L w Q := by intro h; first | exact WRI.guard_yes (by rfl) (by rfl) h | exact WRI.guard_no (by rfl) (by rfl) (by first | exact ne_tf | exact ne_ft | exact ne_ub) (by rfl) h | exact WRI.guard_no0 (by rfl) (by rfl) (by first | exact ne_tf | exact ne_ft | exact ne_ub) h) : WRI ρ M0 P n D ops (⟨dst, op, ty, pos, after, some g⟩ :: rest) L w Q := hs h
theorem WRI.gn {op : Op} {j : Nat} {b : Bool} {s : Nat} (h : WRI ρ M0 P n D ops rest ((d, undef) :: L) w Q) (hs : (ops[j]?).bind (·.dst) = some s := by rfl) (hv : look L s = some v := by rfl) (hne : v ≠ .bool b := by first | exact ne_tf | exact ne_ft | exact ne_ub) (hd : Nat.blt d n = true := by rfl) : WRI ρ M0 P n D ops (⟨some d, op, ty, pos, after, some (j, b)⟩ :: rest) L w Q := WRI.guard_no hs hv hne hd h
theorem WRI.gn0 {op : Op} {j : Nat} {b : Bool} {s : Nat} (h : WRI ρ M0 P n D ops rest L w Q) (hs : (ops[j]?).bind (·.dst) = some s := by rfl) (hv : look L s = some v := by rfl) (hne : v ≠ .bool b := by first | exact ne_tf | exact ne_ft | exact ne_ub) : WRI ρ M0 P n D ops (⟨none, op, ty, pos, after, some (j, b)⟩ :: rest) L w Q := WRI.guard_no0 hs hv hne h
theorem WI.s {c c2 : Code} {Q2 : Exit → Act → World → Prop} (h : WI ρ M0 P n D c2 L w Q2) (hs : WI ρ M0 P n D c2 L w Q2 → WI ρ M0 P n D c L w Q := by intro h; first | (apply WI.cond_true; rfl; exact h) | (apply WI.cond_false; rfl; exact h) | (apply WI.block; exact h)) : WI ρ M0 P n D c L w Q := hs h
theorem WI.e {c : Code} {e : Exit} (h : Ends n D e L w Q) (hs : Ends n D e L w Q → WI ρ M0 P n D c L w Q := by intro h; first | (apply WI.ret; exact h) | (apply WI.skip; exact h) | (apply WI.exit; exact h) | (apply WI.label; exact h)) : WI ρ M0 P n D c L w Q := hs h
theorem WRI.make {e bytes m : Nat} {zv : Value} {kl kc : IntKind} (El : Elem P t e 1 bytes zv) (hz : zv.cells = #[zv]) (hx : evo L x = some (.int kl (m : Nat))) (hy : evo L y = some (.int kc (m : Nat))) (hd : Nat.blt d n = true) (hm : m ≤ 1073741824) (hby : bytes ≤ 65536)
    (h : ∀ w', Below w.heap.size w w' → w'.ownsRow w.heap.size e 1 (.slice (some ⟨w.heap.size, 0, none⟩) m m) m (List.replicate m zv) → WRI ρ M0 P n D ops rest ((d, .slice (some ⟨w.heap.size, 0, none⟩) m m) :: L) w' Q) :
    WRI ρ M0 P n D ops (⟨some d, .makeSlice t x y, ty, pos, after, none⟩ :: rest) L w Q := by
  obtain ⟨i, hi, hz', hs, hb'⟩ := info_parts El.info
  have hbb : bytes * m ≤ 281474976710656 := by rw [Nat.mul_comm]; exact Nat.le_trans (Nat.mul_le_mul hm hby) (by decide)
  obtain ⟨w', hr, ho, hg⟩ := run_make_full (P := P) w w.heap.size t e i zv 1 El.ut hi hz' hs kl kc m (by rw [hb']; exact hbb) (by simp only [maxLen]; omega) (Nat.le_refl _)
  rw [hz, Nat.mul_one, toList_madeCells_one] at ho
  exact .val hd (fun a ha => by simp only [execOp, ha.ev hx, ha.ev hy, hr, Sem.run_bind, Sem.run_pure, Result.andThen_ok]) (h w' ⟨hg.os, hg.tape, hg.output, hg.size, fun b hb => hg.block b hb (by simp)⟩ ho)
theorem WRI.storeRow {e k m c g j : Nat} {xs : List Value} [S : Siz P t k] (M : Mem w (aRow e 1 (.slice (some ⟨g, 0, none⟩) m c) m xs :: Os) Zs) (hx : evo L x = some (.pointer (some ⟨g, j, none⟩))) (hy : evo L y = some v) (hk : k = 1) (h1 : v.oneCell' = true) (hj : j < xs.length)
    (h : ∀ w', Mem w' (aRow e 1 (.slice (some ⟨g, 0, none⟩) m c) m (xs.set j v) :: Os) Zs → WRI ρ M0 P n D ops rest L w' Q) : WRI ρ M0 P n D ops (⟨none, .store t x y, ty, pos, after, none⟩ :: rest) L w Q := by
  have hr := M.row
  have hm : m = xs.length := by have := hr.1; omega
  have ho := own_set (f := fun v => [v]) (k := 1) (fun _ _ => rfl) (by rw [fm_one]; exact hr) hm j hj v rfl
  rw [fm_one, Nat.mul_one] at ho
  have h1c : v.cells = #[v] := by cases v <;> first | rfl | cases h1
  have hcell : w.there g j #[v].size := by
    intro i hi
    obtain rfl : i = 0 := by simpa using hi
    obtain ⟨_, ⟨h0, _⟩ | ⟨g', cap, cur, he, hb, hg, hnc, hcm, hcs, ht⟩⟩ := hr
    · cases h0
    · cases he
      have hlt : j < cur.size := by rw [hcs]; omega
      exact ⟨by rw [Nat.add_zero, cell_in hg]; simp [hlt], by rw [Nat.add_zero]; exact frozen_in hg j⟩
  refine .skip (w' := w.setCells g j [v]) (fun a ha => ?_) (h _ (M.setRow (setCells_upd (S := fun b => (Value.slice (some ⟨g, 0, none⟩) m c).ownBlock = some b) g rfl _ _ _) ho fun b hb => .inl hb))
  have hrun := run_storeVar_mid (P := P) w g j t #[v] hcell (by rw [S.h, hk]; rfl) (by simp [h1])
  unfold execOp
  simp only [ha.ev hx, ha.ev hy, Instr.storeAt, Instr.sureAddr, Sem.run_bind, Sem.run_pure, Result.andThen_ok, store_cells t ⟨g, j, none⟩ h1c, hrun]
theorem WRI.box {cs : Array Value} (hx : evo L x = some v) (hv : v.cells = cs) (hd : Nat.blt d n = true)
    (h : ∀ w', Below w.heap.size w w' → Box w' w.heap.size cs.toList → w'.heap.size = w.heap.size + 1 → WRI ρ M0 P n D ops rest ((d, .pointer (some ⟨w.heap.size, 0, none⟩)) :: L) w' Q) :
    WRI ρ M0 P n D ops (⟨some d, .box t x, ty, pos, after, none⟩ :: rest) L w Q := by
  refine .val (w' := w.alloc (.cells cs t)) hd (fun a ha => ?_) (h _ (below_al (Below.refl _ _) _) ⟨t, by rw [Array.toArray_toList]; exact heap_alloc_last _ _⟩ (size_alloc _ _))
  unfold execOp
  simp only [ha.ev hx, Instr.box, newVar, newRow, hv, Sem.run_bind, Sem.run_pure, Result.andThen_ok, run_newObj_alloc]
theorem WRI.allocT {z : Array Value} [Z : Zer P t z] (hd : Nat.blt d n = true) (h : ∀ w', Below w.heap.size w w' → w'.heap[w.heap.size]? = some (.cells z t (0, 0)) → WRI ρ M0 P n D ops rest ((d, .pointer (some ⟨w.heap.size, 0, none⟩)) :: L) w' Q) :
    WRI ρ M0 P n D ops (⟨some d, .alloc t, ty, pos, after, none⟩ :: rest) L w Q := by
  obtain ⟨zv, hz, hzc⟩ := Z.h w
  refine .val (w' := w.alloc (.cells z t)) hd (fun a ha => ?_) (h _ (below_al (Below.refl _ _) _) (heap_alloc_last _ _))
  unfold execOp
  simp only [Instr.alloc, newVar, newRow, Sem.run_bind, Sem.run_pure, Result.andThen_ok, hz, run_newObj_alloc, hzc]
theorem WRI.storeAgg {b k : Nat} {cs cs' : List Value} [S : Siz P t k] (hb : Box w b cs) (hx : evo L x = some (.pointer (some ⟨b, 0, none⟩))) (hy : evo L y = some (.agg cs'.toArray)) (hk : cs.length = k) (hk' : cs'.length = k) (h1 : ∀ u ∈ cs', u.oneCell' = true)
    (h : ∀ w', Upd (· = b) w w' → Box w' b cs' → w'.heap.size = w.heap.size → WRI ρ M0 P n D ops rest L w' Q) : WRI ρ M0 P n D ops (⟨none, .store t x y, ty, pos, after, none⟩ :: rest) L w Q := by
  obtain ⟨e, hh⟩ := hb
  have hr := run_storeVar_row (P := P) w b e t cs.toArray cs'.toArray hh (by rw [S.h]; simp [hk']) (by simp [hk, hk']) (all_oneCell_toArray h1)
  refine .skip (w' := w.setRow b cs'.toArray) (fun a ha => ?_) (h _ (upd_setRow _ _ _) ⟨e, setRow_heap _ _ _ _ _ _ hh⟩ (size_setRow _ _ _))
  unfold execOp
  simp only [ha.ev hx, ha.ev hy, Instr.storeAt, Instr.sureAddr, Sem.run_bind, Sem.run_pure, Result.andThen_ok, hr]
theorem WRI.buildRun {parts : Array (Nat × Operand)} {vs : Array (Nat × Value)} (hv : ∀ a, Fr n D L a → (parts.map fun (i, x) => (i, a.eval x)) = vs) (hd : Nat.blt d n = true) (hr : (Instr.build t vs).run P w = .ok v w) (h : WRI ρ M0 P n D ops rest ((d, v) :: L) w Q) :
    WRI ρ M0 P n D ops (⟨some d, .build t parts, ty, pos, after, none⟩ :: rest) L w Q := .val hd (fun a ha => ex_build t parts rfl (hv a ha) hr) h
theorem WRI.buildSliceRun {m : Nat} {parts : Array (Nat × Operand)} {vs : Array (Nat × Value)} (hv : ∀ a, Fr n D L a → (parts.map fun (i, x) => (i, a.eval x)) = vs) (hd : Nat.blt d n = true) (hr : (Instr.buildSlice t m vs).run P w = .ok v w') (h : WRI ρ M0 P n D ops rest ((d, v) :: L) w' Q) :
    WRI ρ M0 P n D ops (⟨some d, .buildSlice t m parts, ty, pos, after, none⟩ :: rest) L w Q := .val hd (fun a ha => ex_buildSlice t m parts rfl (hv a ha) hr) h
theorem WRI.row0 {e k bytes : Nat} {zv : Value} (El : Elem P t e k bytes zv) (hd : Nat.blt d n = true)
    (h : ∀ w', Below w.heap.size w w' → w'.ownsRow w.heap.size e k (.slice (some ⟨w.heap.size, 0, none⟩) 0 0) 0 [] → w'.heap.size = w.heap.size + 1 → WRI ρ M0 P n D ops rest ((d, .slice (some ⟨w.heap.size, 0, none⟩) 0 0) :: L) w' Q) :
    WRI ρ M0 P n D ops (⟨some d, .buildSlice t 0 #[], ty, pos, after, none⟩ :: rest) L w Q := by
  obtain ⟨i, hi, hz, hs, hb'⟩ := info_parts El.info
  refine .val hd (fun a ha => ex_buildSlice t 0 #[] rfl (vs := #[]) (by simp) (run_row_none El.ut (k := k) (by rw [hi]; simp [hs]) ⟨zv, by rw [hi]; simp [hz]⟩ w)) (h _ (below_al (Below.refl _ _) _) ⟨by simp, .inr ⟨w.heap.size, 0, #[], rfl, Nat.le_refl _, heap_alloc_last _ _, Nat.le_refl _, by simp [maxLen], by simp, by simp⟩⟩ (size_alloc _ _))
theorem WRI.app0 {e k bytes : Nat} {zv : Value} (El : Elem P t e k bytes zv) {b base : Nat} {F : Nat → Prop} {m : Nat} {news : List Value} (hx : evo L x = some (.slice (some ⟨b, 0, none⟩) 0 0)) (hy : evo L y = some vy) (hd : Nat.blt d n = true) (hown : w.ownsRow base e k (.slice (some ⟨b, 0, none⟩) 0 0) 0 [])
    (hsrc : K.Sl w F k vy m news) (h1 : ∀ u ∈ news, u.oneCell' = true) (hb : m ≤ 1073741824) (hby : bytes ≤ 65536) (hB : base ≤ w.heap.size)
    (h : ∀ v' w', w'.ownsRow base e k v' m news → Below w.heap.size w w' → WRI ρ M0 P n D ops rest ((d, v') :: L) w' Q) : WRI ρ M0 P n D ops (⟨some d, .call { callee := .builtin .append, args := #[x, y], argTypes := #[t, t] }, ty, pos, after, none⟩ :: rest) L w Q := by
  obtain ⟨v', w', hr, h2, h3⟩ := run_app0o El ty b hown hsrc h1 hb hby hB
  exact .builtin2 (w := w) hx hy hd (fun cs => by rw [BigFrame.builtin_append]; simp only [Sem.run_bind, hr, Result.andThen_ok, Sem.run_pure]) (h v' w' h2 h3)
theorem WRI.app {e k bytes : Nat} {zv : Value} (El : Elem P t e k bytes zv) {base : Nat} {F : Nat → Prop} {i m : Nat} {xs news : List Value} (hx : evo L x = some vx) (hy : evo L y = some vy) (hd : Nat.blt d n = true) (hown : w.ownsRow base e k vx i xs)
    (hsrc : K.Sl w F k vy m news) (h1 : ∀ u ∈ news, u.oneCell' = true) (hb : i + m ≤ 1073741824) (hby : bytes ≤ 65536) (hB : base ≤ w.heap.size)
    (h : ∀ v' w', w'.ownsRow base e k v' (i + m) (xs ++ news) → Upd (fun b => vx.ownBlock = some b) w w' → (∀ g, v'.ownBlock = some g → vx.ownBlock = some g ∨ w.heap.size ≤ g) → WRI ρ M0 P n D ops rest ((d, v') :: L) w' Q) : WRI ρ M0 P n D ops (⟨some d, .call { callee := .builtin .append, args := #[x, y], argTypes := #[t, t] }, ty, pos, after, none⟩ :: rest) L w Q := by
  obtain ⟨v', w', hr, h2, h3, h4⟩ := run_app2 El ty base hown hsrc h1 hb hby hB
  exact .builtin2 (w := w) hx hy hd (fun cs => by rw [BigFrame.builtin_append]; simp only [Sem.run_bind, hr, Result.andThen_ok, Sem.run_pure]) (h v' w' h2 ((Upd.of_grown h3).mono fun b _ hb => hb.symm) (fun g hg => by rcases h4 with h4 | h4; exact .inl (h4 ▸ hg); exact .inr (h4 g hg)))
theorem WRI.makeN {e k bytes m : Nat} {zv : Value} {kl kc : IntKind} (El : Elem P t e k bytes zv) (hx : evo L x = some (.int kl (m : Nat))) (hy : evo L y = some (.int kc (m : Nat))) (hd : Nat.blt d n = true) (hm : m ≤ 4294967296) (hby : bytes ≤ 65536)
    (h : ∀ w', Below w.heap.size w w' → w'.ownsRow w.heap.size e k (.slice (some ⟨w.heap.size, 0, none⟩) m m) m (madeCells zv.cells (m * k)).toList → WRI ρ M0 P n D ops rest ((d, .slice (some ⟨w.heap.size, 0, none⟩) m m) :: L) w' Q) :
    WRI ρ M0 P n D ops (⟨some d, .makeSlice t x y, ty, pos, after, none⟩ :: rest) L w Q := by
  obtain ⟨i, hi, hz', hs, hb'⟩ := info_parts El.info
  have hbb : bytes * m ≤ 281474976710656 := by rw [Nat.mul_comm]; exact Nat.le_trans (Nat.mul_le_mul hm hby) (by decide)
  obtain ⟨w', hr, ho, hg⟩ := run_make_full (P := P) w w.heap.size t e i zv k El.ut hi hz' hs kl kc m (by rw [hb']; exact hbb) (by simp only [maxLen]; omega) (Nat.le_refl _)
  exact .val hd (fun a ha => by simp only [execOp, ha.ev hx, ha.ev hy, hr, Sem.run_bind, Sem.run_pure, Result.andThen_ok]) (h w' ⟨hg.os, hg.tape, hg.output, hg.size, fun b hb => hg.block b hb (by simp)⟩ ho)
end ops
section ops
variable {d : Nat} {ty t u : TypeId} {pos : String} {after : Array Edge} {x y z : Operand} {v vx vy vz : Value} {w' : World} {k : TypeId} {g : Nat}
theorem WRI.makeMap (hd : Nat.blt d n = true) (h : ∀ w', Below w.heap.size w w' → IsMap P k w' w.heap.size [] 0 → w'.heap.size = w.heap.size + 1 → WRI ρ M0 P n D ops rest ((d, .map (some w.heap.size)) :: L) w' Q) :
    WRI ρ M0 P n D ops (⟨some d, .makeMap t none, ty, pos, after, none⟩ :: rest) L w Q := by
  refine .val (w' := w.alloc (.map #[] 0)) hd (fun a ha => ?_) (h _ (below_al (Below.refl _ _) _) ⟨heap_alloc_new _ _, MapKept.stamped_empty 0, by simp⟩ (size_alloc _ _))
  unfold execOp
  simp only [Instr.makeMap, Sem.run_bind, Sem.run_pure, Result.andThen_ok, run_newObj_alloc]
  simp [Sem.run_bind, run_newObj_alloc, Result.andThen]
theorem WRI.lookup (hx : evo L x = some vx) (hy : evo L y = some vy) (hr : (Instr.lookup t vx vy false).run P w = .ok v w) (hd : Nat.blt d n = true) (h : WRI ρ M0 P n D ops rest ((d, v) :: L) w Q) : WRI ρ M0 P n D ops (⟨some d, .lookup t x y false, ty, pos, after, none⟩ :: rest) L w Q :=
  .val hd (fun a ha => by simp only [execOp, ha.ev hx, ha.ev hy, hr, Sem.run_bind, Sem.run_pure, Result.andThen_ok]) h
theorem WRI.mapEntry (hx : evo L x = some vx) (hy : evo L y = some vy) (hr : (Instr.mapEntry t vx vy).run P w = .ok v w') (hd : Nat.blt d n = true) (h : WRI ρ M0 P n D ops rest ((d, v) :: L) w' Q) : WRI ρ M0 P n D ops (⟨some d, .mapEntry t x y, ty, pos, after, none⟩ :: rest) L w Q :=
  .val hd (fun a ha => by simp only [execOp, ha.ev hx, ha.ev hy, hr, Sem.run_bind, Sem.run_pure, Result.andThen_ok]) h
theorem WRI.mapUpdate (hx : evo L x = some vx) (hy : evo L y = some vy) (hz : evo L z = some vz) (hr : (Instr.mapUpdate t vx vy vz).run P w = .ok () w') (h : WRI ρ M0 P n D ops rest L w' Q) : WRI ρ M0 P n D ops (⟨none, .mapUpdate t x y z, ty, pos, after, none⟩ :: rest) L w Q :=
  .skip (fun a ha => by simp only [execOp, ha.ev hx, ha.ev hy, ha.ev hz, hr, Sem.run_bind, Sem.run_pure, Result.andThen_ok]) h
theorem WRI.entryStore (hx : evo L x = some vx) (hy : evo L y = some vy) (hz : evo L z = some vz) (hr : (Instr.entryStore t vx vy vz).run P w = .ok () w') (h : WRI ρ M0 P n D ops rest L w' Q) : WRI ρ M0 P n D ops (⟨none, .entryStore t x y z, ty, pos, after, none⟩ :: rest) L w Q :=
  .skip (fun a ha => by simp only [execOp, ha.ev hx, ha.ev hy, ha.ev hz, hr, Sem.run_bind, Sem.run_pure, Result.andThen_ok]) h
end ops
section ops
variable {d : Nat} {ty t u : TypeId} {pos : String} {after : Array Edge} {x y z : Operand} {v vx vy vz : Value} {w' : World} {e k len cap l h m : Nat} {A : Option Addr} {kl kh km : IntKind}
theorem WRI.slice_hm [U : Und P t (.slice e)] [S : Siz P e k] (hx : evo L x = some (.slice A len cap)) (hy : evo L y = some (.int kh (h : Nat))) (hz : evo L z = some (.int km (m : Nat))) (hd : Nat.blt d n = true) (h1 : h ≤ m) (h2 : m ≤ cap)
    (hh : WRI ρ M0 P n D ops rest ((d, .slice A h m) :: L) w Q) : WRI ρ M0 P n D ops (⟨some d, .slice t x none (some y) (some z), ty, pos, after, none⟩ :: rest) L w Q :=
  .val hd (fun a ha => by
    have hu := und_elem U.h
    have hs : ∀ w, (sizeOf e).run P w = .ok k w := size_of S.h
    simp only [execOp, Option.map_none, Option.map_some, ha.ev hx, ha.ev hy, ha.ev hz, run_sliceAt_slice w t _ _ _ _ hu, run_slice_hm w t A len cap hu kh km (h : Int) (m : Int) (by omega) (by omega) (by omega), elem_of U.h, hs, Result.andThen_ok, Sem.run_bind, Sem.run_pure, sliced, Int.toNat_natCast, add_zero', ite_self, Nat.sub_zero]) hh
theorem WRI.slice_h [U : Und P t (.slice e)] [S : Siz P e k] (hx : evo L x = some (.slice A len cap)) (hy : evo L y = some (.int kh (h : Nat))) (hd : Nat.blt d n = true) (h1 : h ≤ cap)
    (hh : WRI ρ M0 P n D ops rest ((d, .slice A h cap) :: L) w Q) : WRI ρ M0 P n D ops (⟨some d, .slice t x none (some y) none, ty, pos, after, none⟩ :: rest) L w Q :=
  .val hd (fun a ha => by
    have hu := und_elem U.h
    have hs : ∀ w, (sizeOf e).run P w = .ok k w := size_of S.h
    simp only [execOp, Option.map_none, Option.map_some, ha.ev hx, ha.ev hy, run_sliceAt_slice w t _ _ _ _ hu, run_slice_h w t A len cap hu kh (h : Int) (by omega) (by omega), elem_of U.h, hs, Result.andThen_ok, Sem.run_bind, Sem.run_pure, sliced, Int.toNat_natCast, add_zero', ite_self, Nat.sub_zero]) hh
theorem WRI.slice_l [U : Und P t (.slice e)] [S : Siz P e k] (hx : evo L x = some (.slice A len cap)) (hy : evo L y = some (.int kl (l : Nat))) (hd : Nat.blt d n = true) (h1 : l ≤ len)
    (hh : WRI ρ M0 P n D ops rest ((d, .slice (if cap = l then A else A.map (·.add (l * k))) (len - l) (cap - l)) :: L) w Q) : WRI ρ M0 P n D ops (⟨some d, .slice t x (some y) none none, ty, pos, after, none⟩ :: rest) L w Q :=
  .val hd (fun a ha => by
    have hu := und_elem U.h
    have hs : ∀ w, (sizeOf e).run P w = .ok k w := size_of S.h
    simp only [execOp, Option.map_none, Option.map_some, ha.ev hx, ha.ev hy, run_sliceAt_slice w t _ _ _ _ hu, run_slice_l w t A len cap hu kl (l : Int) (by omega) (by omega), elem_of U.h, hs, Result.andThen_ok, Sem.run_bind, Sem.run_pure, sliced, Int.toNat_natCast]) hh
theorem WRI.slice_lh [U : Und P t (.slice e)] [S : Siz P e k] (hx : evo L x = some (.slice A len cap)) (hy : evo L y = some (.int kl (l : Nat))) (hz : evo L z = some (.int kh (h : Nat))) (hd : Nat.blt d n = true) (h1 : l ≤ h) (h2 : h ≤ cap)
    (hh : WRI ρ M0 P n D ops rest ((d, .slice (if cap = l then A else A.map (·.add (l * k))) (h - l) (cap - l)) :: L) w Q) : WRI ρ M0 P n D ops (⟨some d, .slice t x (some y) (some z) none, ty, pos, after, none⟩ :: rest) L w Q :=
  .val hd (fun a ha => by
    have hu := und_elem U.h
    have hs : ∀ w, (sizeOf e).run P w = .ok k w := size_of S.h
    simp only [execOp, Option.map_none, Option.map_some, ha.ev hx, ha.ev hy, ha.ev hz, run_sliceAt_slice w t _ _ _ _ hu, run_slice_lh w t A len cap hu kl kh (l : Int) (h : Int) (by omega) (by omega) (by omega), elem_of U.h, hs, Result.andThen_ok, Sem.run_bind, Sem.run_pure, sliced, Int.toNat_natCast]) hh
end ops
section ops
variable {d : Nat} {ty t u : TypeId} {pos : String} {after : Array Edge} {x y z : Operand} {v vx vy vz : Value} {w' : World} {Os Zs : List Ass}
theorem WRI.sliceNil {A : Option Addr} {k c : Nat} {e : TypeId} [U : Und P t (.slice e)] (hx : evo L x = some (.slice A k c)) (hy : evo L y = some (.slice none 0 0)) (hd : Nat.blt d n = true) (h : WRI ρ M0 P n D ops rest ((d, .bool A.isNone) :: L) w Q) :
    WRI ρ M0 P n D ops (⟨some d, .binOp .eql t x y u, ty, pos, after, none⟩ :: rest) L w Q :=
  .bin hx hy hd (by rw [eqGuard_at_slice]; rfl) (Lib.run_eql_slice_nil w t e A k c 0 0 U.h) h
theorem WRI.sliceNilN {A : Option Addr} {k c : Nat} {e : TypeId} [U : Und P t (.slice e)] (hx : evo L x = some (.slice A k c)) (hy : evo L y = some (.slice none 0 0)) (hd : Nat.blt d n = true) (h : WRI ρ M0 P n D ops rest ((d, .bool (!A.isNone)) :: L) w Q) :
    WRI ρ M0 P n D ops (⟨some d, .binOp .neq t x y u, ty, pos, after, none⟩ :: rest) L w Q :=
  .bin hx hy hd (by rw [eqGuard_at_slice]; rfl) (run_neq_slice_nil_any w t e A k c 0 0 U.h) h
theorem WRI.row1 {e k bytes : Nat} {zv : Value} (El : Elem P t e k bytes zv) (hk : k ≤ 16777216) (hx : evo L x = some v) (hv : v.cells.size = k) (hd : Nat.blt d n = true)
    (h : ∀ w', Below w.heap.size w w' → K.Sl w' (w.heap.size ≤ ·) k (.slice (some ⟨w.heap.size, 0, none⟩) 1 1) 1 v.cells.toList → WRI ρ M0 P n D ops rest ((d, .slice (some ⟨w.heap.size, 0, none⟩) 1 1) :: L) w' Q) :
    WRI ρ M0 P n D ops (⟨some d, .buildSlice t 1 #[(0, x)], ty, pos, after, none⟩ :: rest) L w Q :=
  .val hd (fun a ha => ex_buildSlice t 1 #[(0, x)] rfl (vs := #[(0, v)]) (by rw [List.map_toArray]; simp only [List.map_cons, List.map_nil, ha.ev hx]) (run_row1 El hk v hv w)) (h _ (below_al (Below.refl _ _) _) ⟨by simp [hv], _, 1, rfl, Nat.le_refl _, by decide, (fun h => by cases h), fun _ => ⟨_, rfl, Nat.le_refl _, fun j u hu => by
    rw [Addr.add_lit, Nat.zero_add, cell_in (heap_alloc_last _ _)]; simpa using hu⟩⟩)
theorem WRI.lapp {e k bytes : Nat} {zv : Value} (El : Elem P t e k bytes zv) {F : Nat → Prop} {i m : Nat} {xs news : List Value} (M : Mem w (aLr e k vx i xs :: Os) Zs) (hx : evo L x = some vx) (hy : evo L y = some vy) (hd : Nat.blt d n = true)
    (hsrc : K.Sl w F k vy m news) (h1 : ∀ u ∈ news, u.oneCell' = true) (hb : i + m ≤ 1073741824) (hby : bytes ≤ 65536)
    (h : ∀ A c w', Mem w' (aLr e k (.slice A (i + m) c) (i + m) (xs ++ news) :: Os) Zs → WRI ρ M0 P n D ops rest ((d, .slice A (i + m) c) :: L) w' Q) : WRI ρ M0 P n D ops (⟨some d, .call { callee := .builtin .append, args := #[x, y], argTypes := #[t, t] }, ty, pos, after, none⟩ :: rest) L w Q := by
  obtain ⟨v', w', hr, h2, h3, h4⟩ := run_lapp El ty M.lrow hsrc h1 hb hby
  obtain ⟨A, c, rfl⟩ : ∃ A c, v' = .slice A (i + m) c := by obtain ⟨_, A, c, h, _⟩ := h2.sl; exact ⟨A, c, h⟩
  exact .builtin2 (w := w) hx hy hd (fun cs => by rw [BigFrame.builtin_append]; simp only [Sem.run_bind, hr, Result.andThen_ok, Sem.run_pure]) (h A c w' (M.setLRow h3 h2 h4))
theorem WI.loopX (eid : Nat) {X Y : Type} {body : Code} (LI : X → Slots) (J : X → World → Prop) (m : X → Nat) (LX : Y → Slots) (JX : Y → World → Prop) (x0 : X) (hk : Keeps L (LI x0)) (h0 : J x0 w)
    (round : ∀ x w, J x w → ∀ (K : Act → World → Prop) (Q' : Exit → Act → World → Prop), (∀ x' L' w', Keeps L' (LI x') → J x' w' → m x' < m x → ∀ a, Fr n D L' a → K a w') → (∀ y L' w', Keeps L' (LX y) → JX y w' → Ends n D (.exit eid) L' w' Q') → (∀ e L' w', Ends n D e L' w' Q → Ends n D e L' w' Q') → WI ρ M0 P n D body (LI x) w (Exit.then K Q'))
    (fin : ∀ y w, JX y w → Ends n D (.exit eid) (LX y) w Q) : WI ρ M0 P n D (.loop body) L w Q :=
  WI.loop LI J m x0 hk h0 fun x w hJ K hK => round x w hJ K Q hK (fun y L' w' hk hj => (fin y w' hj).keep hk) (fun e L' w' h => h)
theorem WRI.makeFunc {f : FuncId} {xs : Array Operand} {vs : Array Value} (hx : ∀ a, Fr n D L a → xs.map a.eval = vs) (hd : Nat.blt d n = true) (h : WRI ρ M0 P n D ops rest ((d, .func (.func f) #[] vs) :: L) w Q) :
    WRI ρ M0 P n D ops (⟨some d, .makeFunc (.func f) #[] xs, ty, pos, after, none⟩ :: rest) L w Q :=
  .val hd (fun a ha => by
    have h1 := hx a ha
    generalize a.eval = ev at h1 ⊢
    unfold execOp
    simp [h1, Instr.makeFunc, Sem.run_pure, Result.andThen]) h
theorem WRI.storeLr {e k m kt c g j : Nat} {xs : List Value} [S : Siz P t kt] (M : Mem w (aLr e k (.slice (some ⟨g, 0, none⟩) m c) m xs :: Os) Zs) (hx : evo L x = some (.pointer (some ⟨g, j, none⟩))) (hy : evo L y = some v) (hk : kt = 1) (h1 : v.oneCell' = true) (hj : j < xs.length)
    (h : ∀ w', Mem w' (aLr e k (.slice (some ⟨g, 0, none⟩) m c) m (xs.set j v) :: Os) Zs → WRI ρ M0 P n D ops rest L w' Q) : WRI ρ M0 P n D ops (⟨none, .store t x y, ty, pos, after, none⟩ :: rest) L w Q := by
  have hr := M.lrow
  have h1c : v.cells = #[v] := by cases v <;> first | rfl | cases h1
  have hcell : w.there g j #[v].size := by
    intro i hi
    obtain rfl : i = 0 := by simpa using hi
    obtain ⟨hl, ⟨h0, _⟩ | ⟨g', cap, cur, he, hg, hnc, hcm, hcs, ht⟩⟩ := hr
    · cases h0
    · cases he
      have hmc : m * k ≤ c * k := Nat.mul_le_mul_right _ hnc
      have hlt : j < cur.size := by omega
      exact ⟨by rw [Nat.add_zero, cell_in hg]; simp [hlt], by rw [Nat.add_zero]; exact frozen_in hg j⟩
  refine .skip (w' := w.setCell ⟨g, j, none⟩ v) (fun a ha => ?_) (h _ (M.setLRow ((Upd.refl _ _).setCell _ _ (fun _ => rfl)) (hr.set j v) fun b hb => .inl hb))
  have hrun := run_storeVar_mid (P := P) w g j t #[v] hcell (by rw [S.h, hk]; rfl) (by simp [h1])
  unfold execOp
  simp only [ha.ev hx, ha.ev hy, Instr.storeAt, Instr.sureAddr, Sem.run_bind, Sem.run_pure, Result.andThen_ok, store_cells t ⟨g, j, none⟩ h1c, hrun]
  rfl
end ops
end

end Go.Proofs.Ytibmcpbkialbnaa.E
