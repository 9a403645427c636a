/- A walk with the frame out of sight: of the frame only the slots are said that are still of use. No condition. -/
import Derived.WalkKit
import Derived.BigFrame
import Derived.Orders
import Derived.Test.YtjgobljclodpfaaAg
namespace Go.Proofs.Ytjgobljclodpfaa.E
open Go Go.RowKit K
set_option linter.unusedVariables false
set_option linter.unusedSimpArgs false

abbrev Slots := List (Nat × Value)

def look : Slots → Nat → Option Value
  | [], _ => none
  | (s, v) :: L, t => bif Nat.beq s t then some v else look L t

def evo (L : Slots) : Operand → Option Value
  | .tmp t => look L t
  | .const v => some v
  | .global g => some (.pointer (some ⟨g, 0, none⟩))
  | .func f => some (.func (.func f) #[] #[])

/-- The frame: its size, what is deferred, some slots. -/
structure Fr (n : Nat) (D : List Deferred) (L : Slots) (a : Act) : Prop where
  size : a.tmps.size = n
  defers : a.defers = D
  vals : ∀ t v, look L t = some v → a.tmps[t]? = some v

section
variable {n : Nat} {D : List Deferred} {L : Slots} {a : Act}

theorem Fr.ev (h : Fr n D L a) {x : Operand} {v : Value} (hx : evo L x = some v) : a.eval x = v := by
  cases x with
  | tmp t => have := h.vals t v hx; simp [Act.eval, this]
  | const c => simpa [evo, Act.eval] using hx
  | global g => simpa [evo, Act.eval] using hx
  | func f => simpa [evo, Act.eval] using hx

theorem look_cons_eq {d : Nat} {v : Value} : look ((d, v) :: L) d = some v := by simp [look]
theorem look_cons_ne {d t : Nat} {v : Value} (h : d ≠ t) : look ((d, v) :: L) t = look L t := by
  have : Nat.beq d t = false := by rw [← Bool.not_eq_true]; exact fun e => h (Nat.eq_of_beq_eq_true e)
  simp [look, this]

theorem Fr.put (h : Fr n D L a) {d : Nat} (hd : Nat.blt d n = true) (v : Value) : Fr n D ((d, v) :: L) (a.put (some d) v) := by
  have hd' : d < a.tmps.size := by rw [h.size]; exact Nat.le_of_ble_eq_true hd
  refine ⟨by simp [Act.put, h.size], by simp [Act.put, h.defers], fun t u ht => ?_⟩
  by_cases e : d = t
  · subst e
    rw [look_cons_eq] at ht
    cases ht
    simp [Act.put, hd']
  · rw [look_cons_ne e] at ht
    simp only [Act.put, Array.getElem?_setIfInBounds_ne e]
    exact h.vals t u ht
theorem Fr.put_none (h : Fr n D L a) (v : Value) : Fr n D L (a.put none v) := h

/-- All of these are said there. -/
inductive Keeps (L : Slots) : Slots → Prop where
  | nil : Keeps L []
  | cons {t : Nat} {v : Value} {r : Slots} : look L t = some v → Keeps L r → Keeps L ((t, v) :: r)
theorem Keeps.look {r : Slots} (h : Keeps L r) : ∀ t v, E.look r t = some v → E.look L t = some v := by
  induction h with
  | nil => intro t v h; cases h
  | @cons s u r hs _ ih =>
    intro t v ht
    by_cases e : s = t
    · subst e; rw [look_cons_eq] at ht; cases ht; exact hs
    · rw [look_cons_ne e] at ht; exact ih t v ht
theorem Fr.keep {r : Slots} (h : Fr n D L a) (hk : Keeps L r) : Fr n D r a := ⟨h.size, h.defers, fun t v ht => h.vals t v (hk.look t v ht)⟩
end

structure W (P : Program) (n : Nat) (D : List Deferred) (c : Code) (L : Slots) (w : World) (Q : Exit → Act → World → Prop) : Prop where
  go : ∀ a, Fr n D L a → c.wp P Q a w
structure WR (P : Program) (n : Nat) (D : List Deferred) (ops : Array Oper) (l : List Oper) (L : Slots) (w : World) (Q : Exit → Act → World → Prop) : Prop where
  go : ∀ a, Fr n D L a → wpList P ops Q l a w
structure Ends (n : Nat) (D : List Deferred) (e : Exit) (L : Slots) (w : World) (Q : Exit → Act → World → Prop) : Prop where
  go : ∀ a, Fr n D L a → Q e a w

section
variable {P : Program} {n : Nat} {D : List Deferred} {L : Slots} {w : World} {Q : Exit → Act → World → Prop} {ops : Array Oper} {rest : List Oper}

def numb : Nat → List Value → Slots
  | _, [] => []
  | k, v :: l => (k, v) :: numb (k + 1) l
theorem look_numb (l : List Value) : ∀ (k t : Nat) (v : Value), look (numb k l) t = some v → k ≤ t ∧ l[t - k]? = some v := by
  induction l with
  | nil => intro k t v h; cases h
  | cons x l ih =>
    intro k t v h
    rw [numb] at h
    by_cases e : k = t
    · subst e; rw [look_cons_eq] at h; cases h; simp
    · rw [look_cons_ne e] at h
      obtain ⟨h1, h2⟩ := ih _ _ _ h
      refine ⟨by omega, ?_⟩
      rw [show t - k = (t - (k + 1)) + 1 from by omega]
      simpa using h2

theorem enter {f : FuncId} {fn : Func} {c : Code} {args : Array Value} {R : Ending → World → Prop} (hf : P.funcs[f]? = some fn) (hb : fn.body = some c) (hn : fn.ntmps = n) (ha : Nat.ble args.size n = true) (hL : numb 0 args.toList = L)
    (h : W P n [] c L w (bodyPost P fn R)) : Calls P f args w R := by
  refine calls_of_wp hf hb (h.go _ ⟨?_, rfl, ?_⟩)
  · have := Nat.le_of_ble_eq_true ha
    simp [hn]; omega
  · intro t v ht
    rw [← hL] at ht
    obtain ⟨_, h2⟩ := look_numb _ _ _ _ ht
    rw [Nat.sub_zero] at h2
    have h3 : t < args.size := by have := (List.getElem?_eq_some_iff.1 h2).1; simpa using this
    show (args ++ Array.replicate _ undef)[t]? = some v
    rw [Array.getElem?_append_left h3]
    simpa using h2

/-- What goes on with y. -/
structure Kont (K : Act → World → Prop) (P : Program) (n : Nat) (D : List Deferred) (y : Code) (Q : Exit → Act → World → Prop) : Prop where
  go : ∀ D L w, W P n D y L w Q → ∀ a, Fr n D L a → K a w
theorem W.seq {x y : Code} (h : ∀ K : Act → World → Prop, Kont K P n D y Q → W P n D x L w (Exit.then K Q)) : W P n D (.seq x y) L w Q :=
  ⟨fun a ha => wp_seq ((h (y.wp P Q) ⟨fun D L w hw a ha => hw.go a ha⟩).go a ha)⟩
theorem W.id {c : Code} (h : W P n D c L w Q) : W P n D c L w Q := h
theorem Ends.id {e : Exit} (h : Ends n D e L w Q) : Ends n D e L w Q := h
theorem WR.id {l : List Oper} (h : WR P n D ops l L w Q) : WR P n D ops l L w Q := h
theorem W.region {id : Nat} {l : List Oper} (h : WR P n D l.toArray l L w Q) : W P n D (.region id l.toArray false) L w Q := ⟨fun a ha => wp_region_lit (h.go a ha)⟩
theorem W.cond_true {c : Operand} {x y : Code} (hc : evo L c = some (.bool true)) (h : W P n D x L w Q) : W P n D (.cond c x y) L w Q := ⟨fun a ha => wp_cond_true (ha.ev hc) (h.go a ha)⟩
theorem W.cond_false {c : Operand} {x y : Code} (hc : evo L c = some (.bool false)) (h : W P n D y L w Q) : W P n D (.cond c x y) L w Q := ⟨fun a ha => wp_cond_false (ha.ev hc) (h.go a ha)⟩
theorem W.cond {c : Operand} {x y : Code} {t : Bool} (hc : evo L c = some (.bool t)) (h1 : t = true → W P n D x L w Q) (h2 : t = false → W P n D y L w Q) : W P n D (.cond c x y) L w Q := by
  cases t with
  | true => exact W.cond_true hc (h1 rfl)
  | false => exact W.cond_false hc (h2 rfl)
theorem W.condP {c : Operand} {x y : Code} {p : Prop} [Decidable p] (hc : evo L c = some (.bool (decide p))) (h1 : p → W P n D x L w Q) (h2 : ¬ p → W P n D y L w Q) : W P n D (.cond c x y) L w Q :=
  W.cond hc (fun h => h1 (of_decide_eq_true h)) (fun h => h2 (of_decide_eq_false h))
theorem W.block {id : Nat} {c : Code} (h : W P n D c L w (Exit.inBlock id Q)) : W P n D (.block id c) L w Q := ⟨fun a ha => wp_block (h.go a ha)⟩
theorem W.ret (h : Ends n D .ret L w Q) : W P n D .ret L w Q := ⟨fun a ha => wp_ret (h.go a ha)⟩
theorem W.skip (h : Ends n D .normal L w Q) : W P n D .skip L w Q := ⟨fun a ha => wp_skip (h.go a ha)⟩
theorem W.exit {id : Nat} (h : Ends n D (.exit id) L w Q) : W P n D (.exit id) L w Q := ⟨fun a ha => wp_exit (h.go a ha)⟩
theorem W.label {l : Nat} (h : Ends n D .normal L w Q) : W P n D (.label l) L w Q := ⟨fun a ha => wp_label (h.go a ha)⟩
theorem W.keep {c : Code} {r : Slots} (hk : Keeps L r) (h : W P n D c r w Q) : W P n D c L w Q := ⟨fun a ha => h.go a (ha.keep hk)⟩
theorem WR.keep {l : List Oper} {r : Slots} (hk : Keeps L r) (h : WR P n D ops l r w Q) : WR P n D ops l L w Q := ⟨fun a ha => h.go a (ha.keep hk)⟩
theorem Ends.keep {e : Exit} {r : Slots} (hk : Keeps L r) (h : Ends n D e r w Q) : Ends n D e L w Q := ⟨fun a ha => h.go a (ha.keep hk)⟩

theorem Ends.seq {D' : List Deferred} {y : Code} {K : Act → World → Prop} (hK : Kont K P n D' y Q) (h : W P n D y L w Q) : Ends n D .normal L w (Exit.then K Q) := ⟨fun a ha => hK.go D L w h a ha⟩
theorem Ends.then_exit {i : Nat} {K : Act → World → Prop} (h : Ends n D (.exit i) L w Q) : Ends n D (.exit i) L w (Exit.then K Q) := ⟨h.go⟩
theorem Ends.then_ret {K : Act → World → Prop} (h : Ends n D .ret L w Q) : Ends n D .ret L w (Exit.then K Q) := ⟨h.go⟩
theorem Ends.then_goto {i : Nat} {K : Act → World → Prop} (h : Ends n D (.goto i) L w Q) : Ends n D (.goto i) L w (Exit.then K Q) := ⟨h.go⟩
theorem Ends.blk_normal {id : Nat} (h : Ends n D .normal L w Q) : Ends n D .normal L w (Exit.inBlock id Q) := ⟨h.go⟩
theorem Ends.blk_hit {id : Nat} (h : Ends n D .normal L w Q) : Ends n D (.exit id) L w (Exit.inBlock id Q) := ⟨fun a ha => by simp only [Exit.inBlock, if_true]; exact h.go a ha⟩
theorem Ends.blk_miss {i id : Nat} (hi : Nat.beq i id = false) (h : Ends n D (.exit i) L w Q) : Ends n D (.exit i) L w (Exit.inBlock id Q) := ⟨fun a ha => by
  have : i ≠ id := fun e => by subst e; rw [Nat.beq_refl] at hi; cases hi
  simp only [Exit.inBlock, if_neg this]; exact h.go a ha⟩
theorem Ends.blk_ret {id : Nat} (h : Ends n D .ret L w Q) : Ends n D .ret L w (Exit.inBlock id Q) := ⟨h.go⟩
theorem Ends.blk_goto {id i : Nat} (h : Ends n D (.goto i) L w Q) : Ends n D (.goto i) L w (Exit.inBlock id Q) := ⟨h.go⟩

theorem Ends.of {e : Exit} (h : ∀ a, Fr n D L a → Q e a w) : Ends n D e L w Q := ⟨h⟩

/-- .. of the whole body. -/
theorem Ends.done {e : Exit} (he : e = .ret ∨ e = .normal) {fn : Func} {R : Ending → World → Prop} {v : Value} (hr : ∀ a, Fr n [] L a → (results fn a.tmps).run P w = .ok v w) (h : R (.returned v) w) : Ends n [] e L w (bodyPost P fn R) :=
  ⟨fun a ha => by rcases he with rfl | rfl <;> exact ⟨ha.defers, v, hr a ha, h⟩⟩
theorem Fr.getD {n : Nat} {D : List Deferred} {L : Slots} {a : Act} (h : Fr n D L a) {t : Nat} {v : Value} (ht : look L t = some v) : a.tmps.getD t undef = v := h.ev (x := .tmp t) ht
theorem Ends.ret0 {fn : Func} {R : Ending → World → Prop} (hf : fn.results = #[]) (h : R (.returned (.tuple #[])) w) : Ends n [] .ret L w (bodyPost P fn R) := Ends.done (.inl rfl) (fun a ha => results_none hf _ _ _) h
theorem Ends.end0 {fn : Func} {R : Ending → World → Prop} (hf : fn.results = #[]) (h : R (.returned (.tuple #[])) w) : Ends n [] .normal L w (bodyPost P fn R) := Ends.done (.inr rfl) (fun a ha => results_none hf _ _ _) h
theorem Ends.ret1 {fn : Func} {R : Ending → World → Prop} {t : Nat} {v : Value} (hf : fn.results = #[.tmp t]) (hv : look L t = some v) (h : R (.returned v) w) : Ends n [] .ret L w (bodyPost P fn R) :=
  Ends.done (.inl rfl) (fun a ha => by rw [results_tmp hf, ha.getD hv]) h
theorem Ends.ret2 {fn : Func} {R : Ending → World → Prop} {t u : Nat} {v x : Value} (hf : fn.results = #[.tmp t, .tmp u]) (hv : look L t = some v) (hx : look L u = some x) (h : R (.returned (.tuple #[v, x])) w) : Ends n [] .ret L w (bodyPost P fn R) :=
  Ends.done (.inl rfl) (fun a ha => by rw [results_tmp2 hf, ha.getD hv, ha.getD hx]) h
theorem Ends.ret3 {fn : Func} {R : Ending → World → Prop} {t u s : Nat} {v x y : Value} (hf : fn.results = #[.tmp t, .tmp u, .tmp s]) (hv : look L t = some v) (hx : look L u = some x) (hy : look L s = some y) (h : R (.returned (.tuple #[v, x, y])) w) : Ends n [] .ret L w (bodyPost P fn R) :=
  Ends.done (.inl rfl) (fun a ha => by rw [results_tmp3 hf, ha.getD hv, ha.getD hx, ha.getD hy]) h

/-- A loop: X is what a round starts from. -/
theorem W.loop {X : Type} {body : Code} (LI : X → Slots) (J : X → World → Prop) (m : X → Nat) (x0 : X) (hk : Keeps L (LI x0)) (h0 : J x0 w)
    (round : ∀ x w, J x w → ∀ K : Act → World → Prop, (∀ x' L' w', Keeps L' (LI x') → J x' w' → m x' < m x → ∀ a, Fr n D L' a → K a w') → W P n D body (LI x) w (Exit.then K Q)) : W P n D (.loop body) L w Q := by
  refine ⟨fun a ha => ?_⟩
  classical
  let G : Nat → Act → World → Prop := fun k a w => ∃ x, Fr n D (LI x) a ∧ J x w ∧ m x = k
  let I : Act → World → Prop := fun a w => ∃ k, G k a w
  have least : ∀ a w, I a w → ∃ k, G k a w ∧ ∀ j, G j a w → k ≤ j := fun a w hI => by
    obtain ⟨k, hk⟩ := hI
    induction k using Nat.strongRecOn with
    | _ k ih =>
      by_cases h : ∃ j, j < k ∧ G j a w
      · obtain ⟨j, hj, hg⟩ := h; exact ih j hj hg
      · exact ⟨k, hk, fun j hj => Nat.le_of_not_lt fun hlt => h ⟨j, hlt, hj⟩⟩
  let mu : Act → World → Nat := fun a w => if h : I a w then Classical.choose (least a w h) else 0
  refine wp_loop I mu ⟨_, x0, ha.keep hk, h0, rfl⟩ fun a w hI => ?_
  have hmu : mu a w = Classical.choose (least a w hI) := dif_pos hI
  obtain ⟨x, hF, hJ, hm⟩ : G (mu a w) a w := by rw [hmu]; exact (Classical.choose_spec (least a w hI)).1
  refine (round x w hJ (fun a' w' => I a' w' ∧ mu a' w' < mu a w) ?_).go a hF
  intro x' L' w' hk' hJ' hlt a' ha'
  have hG : G (m x') a' w' := ⟨x', ha'.keep hk', hJ', rfl⟩
  have hI' : I a' w' := ⟨_, hG⟩
  refine ⟨hI', ?_⟩
  have : mu a' w' = Classical.choose (least a' w' hI') := dif_pos hI'
  rw [this, ← hm]
  exact Nat.lt_of_le_of_lt ((Classical.choose_spec (least a' w' hI')).2 _ hG) hlt
theorem Ends.round {X : Type} {LI : X → Slots} {J : X → World → Prop} {m : X → Nat} {k : Nat} {K : Act → World → Prop} (hK : ∀ x' L' w', Keeps L' (LI x') → J x' w' → m x' < k → ∀ a, Fr n D L' a → K a w') (x' : X) (hk : Keeps L (LI x')) (hJ : J x' w) (hm : m x' < k) : Ends n D .normal L w (Exit.then K Q) :=
  ⟨fun a ha => hK x' L w hk hJ hm a ha⟩

/-- The end of a region. -/
theorem WR.nil (h : Ends n D .normal L w Q) : WR P n D ops [] L w Q := ⟨fun a ha => wpList_nil (h.go a ha)⟩

/-- One operation, raw. -/
theorem WR.plain {o : Oper} (hg : o.guard = none) (h : ∀ a, Fr n D L a → ∀ K : Act → World → Prop, (∀ L w, WR P n D ops rest L w Q → ∀ a, Fr n D L a → K a w) → o.wp P a w K Q) : WR P n D ops (o :: rest) L w Q :=
  ⟨fun a ha => wpList_plain hg fun K hK => h a ha K fun L w hw a ha => hK a w (hw.go a ha)⟩

theorem WR.guard_yes {dst : Option Tmp} {op : Op} {ty : TypeId} {pos : String} {after : Array Edge} {j : Nat} {b : Bool} {s : Nat} (hs : (ops[j]?).bind (·.dst) = some s) (hv : look L s = some (.bool b))
    (h : WR P n D ops (⟨dst, op, ty, pos, after, none⟩ :: rest) L w Q) : WR P n D ops (⟨dst, op, ty, pos, after, some (j, b)⟩ :: rest) L w Q := by
  refine ⟨fun a ha => ?_⟩
  have h1 := h.go a ha
  unfold wpList at h1 ⊢
  rw [if_pos (by simp [Region.wanted])] at h1
  have hy : yielded ops a.tmps j = some b := by unfold yielded; rw [hs]; simp [ha.vals s _ hv]
  rw [if_pos (by simp [Region.wanted, hy])]
  exact h1
theorem wanted_no {a : Act} {o : Oper} {j s : Nat} {b : Bool} {v : Value} (ha : Fr n D L a) (hg : o.guard = some (j, b)) (hs : (ops[j]?).bind (·.dst) = some s) (hv : look L s = some v) (hne : v ≠ .bool b) : ¬ Region.wanted o (yielded ops a.tmps) = true := by
  have hy : yielded ops a.tmps j ≠ some b := by
    unfold yielded; rw [hs]; simp only [Option.bind_some, ha.vals s _ hv]
    intro h
    split at h
    · rename_i c he; cases h; cases he; exact hne rfl
    · cases h
  simp [Region.wanted, hg, hy]
theorem WR.guard_no {d : Nat} {op : Op} {ty : TypeId} {pos : String} {after : Array Edge} {j : Nat} {b : Bool} {s : Nat} {v : Value} (hs : (ops[j]?).bind (·.dst) = some s) (hv : look L s = some v) (hne : v ≠ .bool b) (hd : Nat.blt d n = true)
    (h : WR P n D ops rest ((d, undef) :: L) w Q) : WR P n D ops (⟨some d, op, ty, pos, after, some (j, b)⟩ :: rest) L w Q := by
  refine ⟨fun a ha => ?_⟩
  unfold wpList
  rw [if_neg (wanted_no ha rfl hs hv hne)]
  exact h.go _ (ha.put hd undef)
theorem WR.guard_no0 {op : Op} {ty : TypeId} {pos : String} {after : Array Edge} {j : Nat} {b : Bool} {s : Nat} {v : Value} (hs : (ops[j]?).bind (·.dst) = some s) (hv : look L s = some v) (hne : v ≠ .bool b)
    (h : WR P n D ops rest L w Q) : WR P n D ops (⟨none, op, ty, pos, after, some (j, b)⟩ :: rest) L w Q := by
  refine ⟨fun a ha => ?_⟩
  unfold wpList
  rw [if_neg (wanted_no ha rfl hs hv hne)]
  exact h.go _ (ha.put_none undef)
theorem ne_tf : (Value.bool true) ≠ .bool false := fun h => by cases h
theorem ne_ft : (Value.bool false) ≠ .bool true := fun h => by cases h

theorem swap {P : Program} {o : Oper} {a : Act} {w : World} {K1 K2 K : Act → World → Prop} {Q : Exit → Act → World → Prop} (h : ∀ a w, K1 a w → K2 a w) (hh : o.wp P a w K1 (Exit.then K Q)) : o.wp P a w K2 Q := by
  unfold Oper.wp at *
  generalize (execOp a.eval o).run P w = r at *
  cases r with
  | ok nx w' =>
    cases nx <;> simp only [Oper.upon] at hh ⊢ <;>
      first
        | exact h _ _ hh
        | exact Calls.mono hh (fun e w'' he => by
            cases e <;> first | exact h _ _ he | exact he | (obtain ⟨a, w, hq⟩ := he; exact ⟨a, w, hq⟩))
        | exact Rows.mono hh (fun _ _ he => h _ _ he)
        | exact hh
  | halt x w' => cases x <;> simp only [Oper.upon] at hh ⊢ <;> exact hh
/-- A piece of a region, and what follows it: the slots LC x and J x w stand between them. -/
theorem wpList_append {P : Program} {ops : Array Oper} {Q : Exit → Act → World → Prop} {K : Act → World → Prop} : ∀ (l1 l2 : List Oper) (a : Act) (w : World), (∀ a w, K a w → wpList P ops Q l2 a w) → wpList P ops (Exit.then K Q) l1 a w → wpList P ops Q (l1 ++ l2) a w
  | [], l2, a, w, hK, h => hK a w h
  | o :: l1, l2, a, w, hK, h => by
    unfold wpList at h
    rw [List.cons_append]
    unfold wpList
    split
    · rename_i hw
      rw [if_pos hw] at h
      rcases h with h | ⟨h, hl⟩
      · exact .inl (swap (fun a w hh => wpList_append l1 l2 a w hK hh) h)
      · obtain ⟨a', w', hl⟩ := hl
        exact .inr ⟨h, a', w', hl⟩
    · rename_i hw
      rw [if_neg hw] at h
      exact wpList_append l1 l2 _ w hK h
theorem WR.cut {X : Type} (k : Nat) (LC : X → Slots) (J : X → World → Prop) {l : List Oper}
    (h1 : ∀ K : Act → World → Prop, (∀ x L' w', Keeps L' (LC x) → J x w' → ∀ a, Fr n D L' a → K a w') → WR P n D ops (l.take k) L w (Exit.then K Q))
    (h2 : ∀ x w', J x w' → WR P n D ops (l.drop k) (LC x) w' Q) : WR P n D ops l L w Q := by
  refine ⟨fun a ha => ?_⟩
  have := wpList_append (l.take k) (l.drop k) a w (K := fun a w' => ∃ x, Fr n D (LC x) a ∧ J x w') (Q := Q) (P := P) (ops := ops) (fun a' w' ⟨x, hF, hJ⟩ => (h2 x w' hJ).go a' hF)
    ((h1 _ (fun x L' w' hk hJ a' ha' => ⟨x, ha'.keep hk, hJ⟩)).go a ha)
  rwa [List.take_append_drop] at this
theorem Ends.cut {X : Type} {LC : X → Slots} {J : X → World → Prop} {K : Act → World → Prop} (hK : ∀ x L' w', Keeps L' (LC x) → J x w' → ∀ a, Fr n D L' a → K a w') (x : X) (hk : Keeps L (LC x)) (hJ : J x w) : Ends n D .normal L w (Exit.then K Q) :=
  ⟨fun a ha => hK x L w hk hJ a ha⟩
/-- .. the same between two pieces of code. -/
theorem W.cut {X : Type} (LC : X → Slots) (J : X → World → Prop) {x y : Code}
    (h1 : ∀ K : Act → World → Prop, (∀ z L' w', Keeps L' (LC z) → J z w' → ∀ a, Fr n D L' a → K a w') → W P n D x L w (Exit.then K Q))
    (h2 : ∀ z w', J z w' → W P n D y (LC z) w' Q) : W P n D (.seq x y) L w Q :=
  ⟨fun a ha => wp_seq (wp_mono ((h1 (fun a' w' => ∃ z, Fr n D (LC z) a' ∧ J z w') (fun z L' w' hk hJ a' ha' => ⟨z, ha'.keep hk, hJ⟩)).go a ha) (fun e a' w' he => by
    cases e <;> first | (obtain ⟨z, hF, hJ⟩ := he; exact (h2 z w' hJ).go a' hF) | exact he))⟩

/-- One operation that yields a value. -/
theorem WR.val {d : Nat} {op : Op} {ty : TypeId} {pos : String} {after : Array Edge} {v : Value} {w' : World} (hd : Nat.blt d n = true) (hr : ∀ a, Fr n D L a → (execOp a.eval ⟨some d, op, ty, pos, after, none⟩).run P w = .ok (.value v) w')
    (h : WR P n D ops rest ((d, v) :: L) w' Q) : WR P n D ops (⟨some d, op, ty, pos, after, none⟩ :: rest) L w Q :=
  ⟨fun a ha => wpList_plain rfl fun K hK => by unfold Oper.wp; rw [hr a ha]; exact hK _ _ (h.go _ (ha.put hd v))⟩
theorem WR.skip {op : Op} {ty : TypeId} {pos : String} {after : Array Edge} {w' : World} (hr : ∀ a, Fr n D L a → (execOp a.eval ⟨none, op, ty, pos, after, none⟩).run P w = .ok .skip w')
    (h : WR P n D ops rest L w' Q) : WR P n D ops (⟨none, op, ty, pos, after, none⟩ :: rest) L w Q :=
  ⟨fun a ha => wpList_plain rfl fun K hK => by unfold Oper.wp; rw [hr a ha]; exact hK _ _ (h.go _ (ha.put_none undef))⟩

class Und (P : Program) (t : TypeId) (dd : outParam TypeDesc) : Prop where
  h : P.underlying t = some dd
section ops
variable {d : Nat} {ty t u : TypeId} {pos : String} {after : Array Edge} {x y z : Operand} {v vx vy vz : Value} {w' : World}

/-- What one operation yields, without a look at what is around it. -/
structure Val (P : Program) (L : Slots) (op : Op) (ty : TypeId) (w : World) (v : Value) : Prop where
  run : ∀ {n : Nat} {D : List Deferred} {a : Act} {d : Nat} {pos : String} {after : Array Edge}, Fr n D L a → (execOp a.eval ⟨some d, op, ty, pos, after, none⟩).run P w = .ok (.value v) w
theorem WR.sv {op : Op} (hv : Val P L op ty w v) (hd : Nat.blt d n = true) (h : WR P n D ops rest ((d, v) :: L) w Q) : WR P n D ops (⟨some d, op, ty, pos, after, none⟩ :: rest) L w Q := .val hd (fun a ha => hv.run ha) h
theorem Vx.move (hx : evo L x = some v) : Val P L (.move x) ty w (v) :=
  ⟨fun ha => by simp only [execOp, ha.ev hx, Sem.run_pure]⟩
theorem WR.move (hx : evo L x = some v) (hd : Nat.blt d n = true) (h : WR P n D ops rest ((d, v) :: L) w Q) : WR P n D ops (⟨some d, .move x, ty, pos, after, none⟩ :: rest) L w Q := .sv (Vx.move hx) hd h
theorem Vx.assign (hx : evo L x = some v) : Val P L (.assign x) ty w (v) :=
  ⟨fun ha => by simp only [execOp, ha.ev hx, Sem.run_pure]⟩
theorem WR.assign (hx : evo L x = some v) (hd : Nat.blt d n = true) (h : WR P n D ops rest ((d, v) :: L) w Q) : WR P n D ops (⟨some d, .assign x, ty, pos, after, none⟩ :: rest) L w Q := .sv (Vx.assign hx) hd h
theorem run_pick {ρ : Operand → Value} {b : Bool} (h : ρ x = .bool b) : (execOp ρ ⟨some d, .pick x y z, ty, pos, after, none⟩).run P w = .ok (.value (if b then ρ y else ρ z)) w := by
  simp only [execOp, h, asBool, Sem.run_bind, Sem.run_pure, Result.andThen_ok]
theorem Vx.pick_t (hx : evo L x = some (.bool true)) (hy : evo L y = some v) : Val P L (.pick x y z) ty w (v) :=
  ⟨fun ha => by rw [run_pick (ha.ev hx), ha.ev hy]; rfl⟩
theorem WR.pick_t (hx : evo L x = some (.bool true)) (hy : evo L y = some v) (hd : Nat.blt d n = true) (h : WR P n D ops rest ((d, v) :: L) w Q) : WR P n D ops (⟨some d, .pick x y z, ty, pos, after, none⟩ :: rest) L w Q := .sv (Vx.pick_t hx hy) hd h
theorem Vx.pick_f (hx : evo L x = some (.bool false)) (hz : evo L z = some v) : Val P L (.pick x y z) ty w (v) :=
  ⟨fun ha => by rw [run_pick (ha.ev hx), ha.ev hz]; rfl⟩
theorem WR.pick_f (hx : evo L x = some (.bool false)) (hz : evo L z = some v) (hd : Nat.blt d n = true) (h : WR P n D ops rest ((d, v) :: L) w Q) : WR P n D ops (⟨some d, .pick x y z, ty, pos, after, none⟩ :: rest) L w Q := .sv (Vx.pick_f hx hz) hd h
theorem Vx.pick_or {p q : Bool} (hx : evo L x = some (.bool p)) (hz : evo L z = some (.bool q)) : Val P L (.pick x (.const (.bool true)) z) ty w (.bool (p || q)) :=
  ⟨fun ha => by rw [run_pick (ha.ev hx), ha.ev hz]; cases p <;> simp [Act.eval]⟩
theorem WR.pick_or {p q : Bool} (hx : evo L x = some (.bool p)) (hz : evo L z = some (.bool q)) (hd : Nat.blt d n = true) (h : WR P n D ops rest ((d, .bool (p || q)) :: L) w Q) : WR P n D ops (⟨some d, .pick x (.const (.bool true)) z, ty, pos, after, none⟩ :: rest) L w Q := .sv (Vx.pick_or hx hz) hd h
theorem Vx.pick_and {p q : Bool} (hx : evo L x = some (.bool p)) (hy : evo L y = some (.bool q)) : Val P L (.pick x y (.const (.bool false))) ty w (.bool (p && q)) :=
  ⟨fun ha => by rw [run_pick (ha.ev hx), ha.ev hy]; cases p <;> simp [Act.eval]⟩
theorem WR.pick_and {p q : Bool} (hx : evo L x = some (.bool p)) (hy : evo L y = some (.bool q)) (hd : Nat.blt d n = true) (h : WR P n D ops rest ((d, .bool (p && q)) :: L) w Q) : WR P n D ops (⟨some d, .pick x y (.const (.bool false)), ty, pos, after, none⟩ :: rest) L w Q := .sv (Vx.pick_and hx hy) hd h
def nth : List Value → Nat → Option Value
  | [], _ => none
  | v :: l, i => match i with
    | 0 => some v
    | i + 1 => nth l i
theorem nth_eq : ∀ (l : List Value) (i : Nat), nth l i = l[i]?
  | [], i => by simp [nth]
  | v :: l, 0 => by simp [nth]
  | v :: l, i + 1 => by simp [nth, nth_eq l i]
theorem Vx.extract {i : Nat} {vs : List Value} (hx : evo L x = some (.tuple vs.toArray)) (hv' : nth vs i = some v) : Val P L (.extract x i) ty w (v) :=
  ⟨fun ha => by
    have hv : vs.toArray[i]? = some v := by rw [nth_eq] at hv'; simpa using hv'
    simp only [execOp, ha.ev hx, Instr.extract, hv, Sem.run_bind, Sem.run_pure, Result.andThen_ok]⟩
theorem WR.extract {i : Nat} {vs : List Value} (hx : evo L x = some (.tuple vs.toArray)) (hv' : nth vs i = some v) (hd : Nat.blt d n = true) (h : WR P n D ops rest ((d, v) :: L) w Q) : WR P n D ops (⟨some d, .extract x i, ty, pos, after, none⟩ :: rest) L w Q := .sv (Vx.extract hx hv') hd h
/-- A binary operation, said by its run. -/
theorem Vx.bin {op : BinOp} (hx : evo L x = some vx) (hy : evo L y = some vy) (hg : (eqGuard op t x y vx vy).run P w = .ok () w) (hr : (binOp op t vx vy).run P w = .ok v w) : Val P L (.binOp op t x y u) ty w (v) :=
  ⟨fun ha => by simp only [execOp, ha.ev hx, ha.ev hy, Sem.run_bind, hg, hr, Result.andThen_ok, Sem.run_pure]⟩
theorem WR.bin {op : BinOp} (hx : evo L x = some vx) (hy : evo L y = some vy) (hd : Nat.blt d n = true) (hg : (eqGuard op t x y vx vy).run P w = .ok () w) (hr : (binOp op t vx vy).run P w = .ok v w) (h : WR P n D ops rest ((d, v) :: L) w Q) : WR P n D ops (⟨some d, .binOp op t x y u, ty, pos, after, none⟩ :: rest) L w Q := .sv (Vx.bin hx hy hg hr) hd h
theorem guard_int {op : BinOp} {k : IntKind} {i : Int} {vy : Value} : (eqGuard op t x y (.int k i) vy).run P w = .ok () w := by rw [eqGuard_at_int]; rfl
theorem Vx.lss {k : IntKind} {i j : Int} (hx : evo L x = some (.int k i)) (hy : evo L y = some (.int k j)) : Val P L (.binOp .lss t x y u) ty w (.bool (decide (i < j))) :=
  Vx.bin hx hy  guard_int (by rw [binOp_lss]; rfl)
theorem WR.lss {k : IntKind} {i j : Int} (hx : evo L x = some (.int k i)) (hy : evo L y = some (.int k j)) (hd : Nat.blt d n = true) (h : WR P n D ops rest ((d, .bool (decide (i < j))) :: L) w Q) : WR P n D ops (⟨some d, .binOp .lss t x y u, ty, pos, after, none⟩ :: rest) L w Q := .sv (Vx.lss hx hy) hd h
theorem Vx.leq {k : IntKind} {i j : Int} (hx : evo L x = some (.int k i)) (hy : evo L y = some (.int k j)) : Val P L (.binOp .leq t x y u) ty w (.bool (decide (i ≤ j))) :=
  Vx.bin hx hy  guard_int (by rw [binOp_leq]; rfl)
theorem WR.leq {k : IntKind} {i j : Int} (hx : evo L x = some (.int k i)) (hy : evo L y = some (.int k j)) (hd : Nat.blt d n = true) (h : WR P n D ops rest ((d, .bool (decide (i ≤ j))) :: L) w Q) : WR P n D ops (⟨some d, .binOp .leq t x y u, ty, pos, after, none⟩ :: rest) L w Q := .sv (Vx.leq hx hy) hd h
theorem Vx.gtr {k : IntKind} {i j : Int} (hx : evo L x = some (.int k i)) (hy : evo L y = some (.int k j)) : Val P L (.binOp .gtr t x y u) ty w (.bool (decide (j < i))) :=
  Vx.bin hx hy  guard_int (by rw [binOp_gtr]; rfl)
theorem WR.gtr {k : IntKind} {i j : Int} (hx : evo L x = some (.int k i)) (hy : evo L y = some (.int k j)) (hd : Nat.blt d n = true) (h : WR P n D ops rest ((d, .bool (decide (j < i))) :: L) w Q) : WR P n D ops (⟨some d, .binOp .gtr t x y u, ty, pos, after, none⟩ :: rest) L w Q := .sv (Vx.gtr hx hy) hd h
theorem Vx.geq {k : IntKind} {i j : Int} (hx : evo L x = some (.int k i)) (hy : evo L y = some (.int k j)) : Val P L (.binOp .geq t x y u) ty w (.bool (decide (j ≤ i))) :=
  Vx.bin hx hy  guard_int (by rw [binOp_geq]; rfl)
theorem WR.geq {k : IntKind} {i j : Int} (hx : evo L x = some (.int k i)) (hy : evo L y = some (.int k j)) (hd : Nat.blt d n = true) (h : WR P n D ops rest ((d, .bool (decide (j ≤ i))) :: L) w Q) : WR P n D ops (⟨some d, .binOp .geq t x y u, ty, pos, after, none⟩ :: rest) L w Q := .sv (Vx.geq hx hy) hd h
theorem Vx.eql {k : IntKind} {i j : Int} (hx : evo L x = some (.int k i)) (hy : evo L y = some (.int k j)) : Val P L (.binOp .eql t x y u) ty w (.bool (decide (i = j))) :=
  Vx.bin hx hy  guard_int (by rw [binOp_eql]; rfl)
theorem WR.eql {k : IntKind} {i j : Int} (hx : evo L x = some (.int k i)) (hy : evo L y = some (.int k j)) (hd : Nat.blt d n = true) (h : WR P n D ops rest ((d, .bool (decide (i = j))) :: L) w Q) : WR P n D ops (⟨some d, .binOp .eql t x y u, ty, pos, after, none⟩ :: rest) L w Q := .sv (Vx.eql hx hy) hd h
theorem Vx.neq {k : IntKind} {i j : Int} (hx : evo L x = some (.int k i)) (hy : evo L y = some (.int k j)) : Val P L (.binOp .neq t x y u) ty w (.bool (decide (i ≠ j))) :=
  Vx.bin hx hy  guard_int (by rw [binOp_neq]; by_cases e : i = j <;> simp [e])
theorem WR.neq {k : IntKind} {i j : Int} (hx : evo L x = some (.int k i)) (hy : evo L y = some (.int k j)) (hd : Nat.blt d n = true) (h : WR P n D ops rest ((d, .bool (decide (i ≠ j))) :: L) w Q) : WR P n D ops (⟨some d, .binOp .neq t x y u, ty, pos, after, none⟩ :: rest) L w Q := .sv (Vx.neq hx hy) hd h
theorem Vx.lss_t {k : IntKind} {i j : Int} (hx : evo L x = some (.int k i)) (hy : evo L y = some (.int k j)) (hp : i < j) : Val P L (.binOp .lss t x y u) ty w (.bool true) :=
  by have h0 := Vx.lss (P := P) (L := L) (t := t) (u := u) (ty := ty) (w := w) hx hy; rw [decide_eq_true hp] at h0; exact h0
theorem WR.lss_t {k : IntKind} {i j : Int} (hx : evo L x = some (.int k i)) (hy : evo L y = some (.int k j)) (hd : Nat.blt d n = true) (hp : i < j) (h : WR P n D ops rest ((d, .bool true) :: L) w Q) : WR P n D ops (⟨some d, .binOp .lss t x y u, ty, pos, after, none⟩ :: rest) L w Q := .sv (Vx.lss_t hx hy hp) hd h
theorem Vx.lss_f {k : IntKind} {i j : Int} (hx : evo L x = some (.int k i)) (hy : evo L y = some (.int k j)) (hp : ¬ (i < j)) : Val P L (.binOp .lss t x y u) ty w (.bool false) :=
  by have h0 := Vx.lss (P := P) (L := L) (t := t) (u := u) (ty := ty) (w := w) hx hy; rw [decide_eq_false hp] at h0; exact h0
theorem WR.lss_f {k : IntKind} {i j : Int} (hx : evo L x = some (.int k i)) (hy : evo L y = some (.int k j)) (hd : Nat.blt d n = true) (hp : ¬ (i < j)) (h : WR P n D ops rest ((d, .bool false) :: L) w Q) : WR P n D ops (⟨some d, .binOp .lss t x y u, ty, pos, after, none⟩ :: rest) L w Q := .sv (Vx.lss_f hx hy hp) hd h
theorem Vx.leq_t {k : IntKind} {i j : Int} (hx : evo L x = some (.int k i)) (hy : evo L y = some (.int k j)) (hp : i ≤ j) : Val P L (.binOp .leq t x y u) ty w (.bool true) :=
  by have h0 := Vx.leq (P := P) (L := L) (t := t) (u := u) (ty := ty) (w := w) hx hy; rw [decide_eq_true hp] at h0; exact h0
theorem WR.leq_t {k : IntKind} {i j : Int} (hx : evo L x = some (.int k i)) (hy : evo L y = some (.int k j)) (hd : Nat.blt d n = true) (hp : i ≤ j) (h : WR P n D ops rest ((d, .bool true) :: L) w Q) : WR P n D ops (⟨some d, .binOp .leq t x y u, ty, pos, after, none⟩ :: rest) L w Q := .sv (Vx.leq_t hx hy hp) hd h
theorem Vx.leq_f {k : IntKind} {i j : Int} (hx : evo L x = some (.int k i)) (hy : evo L y = some (.int k j)) (hp : ¬ (i ≤ j)) : Val P L (.binOp .leq t x y u) ty w (.bool false) :=
  by have h0 := Vx.leq (P := P) (L := L) (t := t) (u := u) (ty := ty) (w := w) hx hy; rw [decide_eq_false hp] at h0; exact h0
theorem WR.leq_f {k : IntKind} {i j : Int} (hx : evo L x = some (.int k i)) (hy : evo L y = some (.int k j)) (hd : Nat.blt d n = true) (hp : ¬ (i ≤ j)) (h : WR P n D ops rest ((d, .bool false) :: L) w Q) : WR P n D ops (⟨some d, .binOp .leq t x y u, ty, pos, after, none⟩ :: rest) L w Q := .sv (Vx.leq_f hx hy hp) hd h
theorem Vx.gtr_t {k : IntKind} {i j : Int} (hx : evo L x = some (.int k i)) (hy : evo L y = some (.int k j)) (hp : j < i) : Val P L (.binOp .gtr t x y u) ty w (.bool true) :=
  by have h0 := Vx.gtr (P := P) (L := L) (t := t) (u := u) (ty := ty) (w := w) hx hy; rw [decide_eq_true hp] at h0; exact h0
theorem WR.gtr_t {k : IntKind} {i j : Int} (hx : evo L x = some (.int k i)) (hy : evo L y = some (.int k j)) (hd : Nat.blt d n = true) (hp : j < i) (h : WR P n D ops rest ((d, .bool true) :: L) w Q) : WR P n D ops (⟨some d, .binOp .gtr t x y u, ty, pos, after, none⟩ :: rest) L w Q := .sv (Vx.gtr_t hx hy hp) hd h
theorem Vx.gtr_f {k : IntKind} {i j : Int} (hx : evo L x = some (.int k i)) (hy : evo L y = some (.int k j)) (hp : ¬ (j < i)) : Val P L (.binOp .gtr t x y u) ty w (.bool false) :=
  by have h0 := Vx.gtr (P := P) (L := L) (t := t) (u := u) (ty := ty) (w := w) hx hy; rw [decide_eq_false hp] at h0; exact h0
theorem WR.gtr_f {k : IntKind} {i j : Int} (hx : evo L x = some (.int k i)) (hy : evo L y = some (.int k j)) (hd : Nat.blt d n = true) (hp : ¬ (j < i)) (h : WR P n D ops rest ((d, .bool false) :: L) w Q) : WR P n D ops (⟨some d, .binOp .gtr t x y u, ty, pos, after, none⟩ :: rest) L w Q := .sv (Vx.gtr_f hx hy hp) hd h
theorem Vx.geq_t {k : IntKind} {i j : Int} (hx : evo L x = some (.int k i)) (hy : evo L y = some (.int k j)) (hp : j ≤ i) : Val P L (.binOp .geq t x y u) ty w (.bool true) :=
  by have h0 := Vx.geq (P := P) (L := L) (t := t) (u := u) (ty := ty) (w := w) hx hy; rw [decide_eq_true hp] at h0; exact h0
theorem WR.geq_t {k : IntKind} {i j : Int} (hx : evo L x = some (.int k i)) (hy : evo L y = some (.int k j)) (hd : Nat.blt d n = true) (hp : j ≤ i) (h : WR P n D ops rest ((d, .bool true) :: L) w Q) : WR P n D ops (⟨some d, .binOp .geq t x y u, ty, pos, after, none⟩ :: rest) L w Q := .sv (Vx.geq_t hx hy hp) hd h
theorem Vx.geq_f {k : IntKind} {i j : Int} (hx : evo L x = some (.int k i)) (hy : evo L y = some (.int k j)) (hp : ¬ (j ≤ i)) : Val P L (.binOp .geq t x y u) ty w (.bool false) :=
  by have h0 := Vx.geq (P := P) (L := L) (t := t) (u := u) (ty := ty) (w := w) hx hy; rw [decide_eq_false hp] at h0; exact h0
theorem WR.geq_f {k : IntKind} {i j : Int} (hx : evo L x = some (.int k i)) (hy : evo L y = some (.int k j)) (hd : Nat.blt d n = true) (hp : ¬ (j ≤ i)) (h : WR P n D ops rest ((d, .bool false) :: L) w Q) : WR P n D ops (⟨some d, .binOp .geq t x y u, ty, pos, after, none⟩ :: rest) L w Q := .sv (Vx.geq_f hx hy hp) hd h
theorem Vx.eql_t {k : IntKind} {i j : Int} (hx : evo L x = some (.int k i)) (hy : evo L y = some (.int k j)) (hp : i = j) : Val P L (.binOp .eql t x y u) ty w (.bool true) :=
  by have h0 := Vx.eql (P := P) (L := L) (t := t) (u := u) (ty := ty) (w := w) hx hy; rw [decide_eq_true hp] at h0; exact h0
theorem WR.eql_t {k : IntKind} {i j : Int} (hx : evo L x = some (.int k i)) (hy : evo L y = some (.int k j)) (hd : Nat.blt d n = true) (hp : i = j) (h : WR P n D ops rest ((d, .bool true) :: L) w Q) : WR P n D ops (⟨some d, .binOp .eql t x y u, ty, pos, after, none⟩ :: rest) L w Q := .sv (Vx.eql_t hx hy hp) hd h
theorem Vx.eql_f {k : IntKind} {i j : Int} (hx : evo L x = some (.int k i)) (hy : evo L y = some (.int k j)) (hp : ¬ (i = j)) : Val P L (.binOp .eql t x y u) ty w (.bool false) :=
  by have h0 := Vx.eql (P := P) (L := L) (t := t) (u := u) (ty := ty) (w := w) hx hy; rw [decide_eq_false hp] at h0; exact h0
theorem WR.eql_f {k : IntKind} {i j : Int} (hx : evo L x = some (.int k i)) (hy : evo L y = some (.int k j)) (hd : Nat.blt d n = true) (hp : ¬ (i = j)) (h : WR P n D ops rest ((d, .bool false) :: L) w Q) : WR P n D ops (⟨some d, .binOp .eql t x y u, ty, pos, after, none⟩ :: rest) L w Q := .sv (Vx.eql_f hx hy hp) hd h
theorem Vx.neq_t {k : IntKind} {i j : Int} (hx : evo L x = some (.int k i)) (hy : evo L y = some (.int k j)) (hp : i ≠ j) : Val P L (.binOp .neq t x y u) ty w (.bool true) :=
  by have h0 := Vx.neq (P := P) (L := L) (t := t) (u := u) (ty := ty) (w := w) hx hy; rw [decide_eq_true hp] at h0; exact h0
theorem WR.neq_t {k : IntKind} {i j : Int} (hx : evo L x = some (.int k i)) (hy : evo L y = some (.int k j)) (hd : Nat.blt d n = true) (hp : i ≠ j) (h : WR P n D ops rest ((d, .bool true) :: L) w Q) : WR P n D ops (⟨some d, .binOp .neq t x y u, ty, pos, after, none⟩ :: rest) L w Q := .sv (Vx.neq_t hx hy hp) hd h
theorem Vx.neq_f {k : IntKind} {i j : Int} (hx : evo L x = some (.int k i)) (hy : evo L y = some (.int k j)) (hp : ¬ (i ≠ j)) : Val P L (.binOp .neq t x y u) ty w (.bool false) :=
  by have h0 := Vx.neq (P := P) (L := L) (t := t) (u := u) (ty := ty) (w := w) hx hy; rw [decide_eq_false hp] at h0; exact h0
theorem WR.neq_f {k : IntKind} {i j : Int} (hx : evo L x = some (.int k i)) (hy : evo L y = some (.int k j)) (hd : Nat.blt d n = true) (hp : ¬ (i ≠ j)) (h : WR P n D ops rest ((d, .bool false) :: L) w Q) : WR P n D ops (⟨some d, .binOp .neq t x y u, ty, pos, after, none⟩ :: rest) L w Q := .sv (Vx.neq_f hx hy hp) hd h
theorem wrap_i64 {i : Int} (h1 : -9223372036854775808 ≤ i) (h2 : i ≤ 9223372036854775807) : IntKind.i64.wrap i = i := by
  simp [IntKind.wrap, IntKind.bits, IntKind.signed]; omega
theorem Vx.add {i j : Int} (hx : evo L x = some (.int .i64 i)) (hy : evo L y = some (.int .i64 j)) (h1 : -9223372036854775808 ≤ i + j) (h2 : i + j ≤ 9223372036854775807) : Val P L (.binOp .add t x y u) ty w (.int .i64 (i + j)) :=
  Vx.bin hx hy  guard_int (by rw [binOp_add]; simp only [Op.intArith, wrap_i64 h1 h2]; rfl)
theorem WR.add {i j : Int} (hx : evo L x = some (.int .i64 i)) (hy : evo L y = some (.int .i64 j)) (hd : Nat.blt d n = true) (h1 : -9223372036854775808 ≤ i + j) (h2 : i + j ≤ 9223372036854775807) (h : WR P n D ops rest ((d, .int .i64 (i + j)) :: L) w Q) : WR P n D ops (⟨some d, .binOp .add t x y u, ty, pos, after, none⟩ :: rest) L w Q := .sv (Vx.add hx hy h1 h2) hd h
/-- A counter one further. -/
theorem Vx.inc {i : Nat} (hx : evo L x = some (.int .i64 (i : Nat))) (h1 : i < 9223372036854775807) : Val P L (.binOp .add t x (.const (.int .i64 1)) u) ty w (.int .i64 ((i + 1 : Nat) : Int)) :=
  Vx.bin hx rfl  guard_int (by rw [binOp_add]; simp only [Op.intArith]; rw [wrap_i64 (by omega) (by omega)]; rfl)
theorem WR.inc {i : Nat} (hx : evo L x = some (.int .i64 (i : Nat))) (hd : Nat.blt d n = true) (h1 : i < 9223372036854775807) (h : WR P n D ops rest ((d, .int .i64 ((i + 1 : Nat) : Int)) :: L) w Q) : WR P n D ops (⟨some d, .binOp .add t x (.const (.int .i64 1)) u, ty, pos, after, none⟩ :: rest) L w Q := .sv (Vx.inc hx h1) hd h
theorem Vx.sub {i j : Int} (hx : evo L x = some (.int .i64 i)) (hy : evo L y = some (.int .i64 j)) (h1 : -9223372036854775808 ≤ i - j) (h2 : i - j ≤ 9223372036854775807) : Val P L (.binOp .sub t x y u) ty w (.int .i64 (i - j)) :=
  Vx.bin hx hy  guard_int (by rw [binOp_sub]; simp only [Op.intArith, wrap_i64 h1 h2]; rfl)
theorem WR.sub {i j : Int} (hx : evo L x = some (.int .i64 i)) (hy : evo L y = some (.int .i64 j)) (hd : Nat.blt d n = true) (h1 : -9223372036854775808 ≤ i - j) (h2 : i - j ≤ 9223372036854775807) (h : WR P n D ops rest ((d, .int .i64 (i - j)) :: L) w Q) : WR P n D ops (⟨some d, .binOp .sub t x y u, ty, pos, after, none⟩ :: rest) L w Q := .sv (Vx.sub hx hy h1 h2) hd h
theorem Vx.mul {i j : Int} (hx : evo L x = some (.int .i64 i)) (hy : evo L y = some (.int .i64 j)) (h1 : -9223372036854775808 ≤ i * j) (h2 : i * j ≤ 9223372036854775807) : Val P L (.binOp .mul t x y u) ty w (.int .i64 (i * j)) :=
  Vx.bin hx hy  guard_int (by rw [binOp_mul]; simp only [Op.intArith, wrap_i64 h1 h2]; rfl)
theorem WR.mul {i j : Int} (hx : evo L x = some (.int .i64 i)) (hy : evo L y = some (.int .i64 j)) (hd : Nat.blt d n = true) (h1 : -9223372036854775808 ≤ i * j) (h2 : i * j ≤ 9223372036854775807) (h : WR P n D ops rest ((d, .int .i64 (i * j)) :: L) w Q) : WR P n D ops (⟨some d, .binOp .mul t x y u, ty, pos, after, none⟩ :: rest) L w Q := .sv (Vx.mul hx hy h1 h2) hd h
theorem Vx.seq {a b : ByteArray} (hx : evo L x = some (.string a)) (hy : evo L y = some (.string b)) : Val P L (.binOp .eql t x y u) ty w (.bool (a.toList == b.toList)) :=
  Vx.bin hx hy  (by rw [eqGuard_at_string]; rfl) (by rw [binOp_string_eql]; rfl)
theorem WR.seq {a b : ByteArray} (hx : evo L x = some (.string a)) (hy : evo L y = some (.string b)) (hd : Nat.blt d n = true) (h : WR P n D ops rest ((d, .bool (a.toList == b.toList)) :: L) w Q) : WR P n D ops (⟨some d, .binOp .eql t x y u, ty, pos, after, none⟩ :: rest) L w Q := .sv (Vx.seq hx hy) hd h
theorem bytes_list (a : List UInt8) : (ByteArray.mk a.toArray).toList = a := ByteArray.toList_mk a
theorem Vx.seqL {a b : List UInt8} (hx : evo L x = some (.string ⟨a.toArray⟩)) (hy : evo L y = some (.string ⟨b.toArray⟩)) : Val P L (.binOp .eql t x y u) ty w (.bool (a == b)) :=
  Vx.bin hx hy (by rw [eqGuard_at_string]; rfl) (by rw [binOp_string_eql, bytes_list, bytes_list]; rfl)
theorem Vx.sneL {a b : List UInt8} (hx : evo L x = some (.string ⟨a.toArray⟩)) (hy : evo L y = some (.string ⟨b.toArray⟩)) : Val P L (.binOp .neq t x y u) ty w (.bool (!(a == b))) :=
  Vx.bin hx hy (by rw [eqGuard_at_string]; rfl) (by rw [binOp_string_neq, bytes_list, bytes_list]; rfl)
theorem Vx.sltL {a b : List UInt8} (hx : evo L x = some (.string ⟨a.toArray⟩)) (hy : evo L y = some (.string ⟨b.toArray⟩)) : Val P L (.binOp .lss t x y u) ty w (.bool (Op.bytesLess a b)) :=
  Vx.bin hx hy (by rw [eqGuard_at_string]; rfl) (by rw [binOp_string_lss, bytes_list, bytes_list]; rfl)
theorem Vx.sgeL {a b : List UInt8} (hx : evo L x = some (.string ⟨a.toArray⟩)) (hy : evo L y = some (.string ⟨b.toArray⟩)) : Val P L (.binOp .geq t x y u) ty w (.bool (!(Op.bytesLess a b))) :=
  Vx.bin hx hy (by rw [eqGuard_at_string]; rfl) (by rw [show binOp .geq t (.string ⟨a.toArray⟩) (.string ⟨b.toArray⟩) = pure (.bool !(Op.bytesLess (ByteArray.mk a.toArray).toList (ByteArray.mk b.toArray).toList)) from by simp [binOp, Op.stringOp], bytes_list, bytes_list]; rfl)
theorem Vx.seq_t {a b : List UInt8} (hx : evo L x = some (.string ⟨a.toArray⟩)) (hy : evo L y = some (.string ⟨b.toArray⟩)) (hp : (a == b) = true) : Val P L (.binOp .eql t x y u) ty w (.bool true) := hp ▸ Vx.seqL hx hy
theorem Vx.seq_f {a b : List UInt8} (hx : evo L x = some (.string ⟨a.toArray⟩)) (hy : evo L y = some (.string ⟨b.toArray⟩)) (hp : (a == b) = false) : Val P L (.binOp .eql t x y u) ty w (.bool false) := hp ▸ Vx.seqL hx hy
theorem Vx.slt_t {a b : List UInt8} (hx : evo L x = some (.string ⟨a.toArray⟩)) (hy : evo L y = some (.string ⟨b.toArray⟩)) (hp : (Op.bytesLess a b) = true) : Val P L (.binOp .lss t x y u) ty w (.bool true) := hp ▸ Vx.sltL hx hy
theorem Vx.slt_f {a b : List UInt8} (hx : evo L x = some (.string ⟨a.toArray⟩)) (hy : evo L y = some (.string ⟨b.toArray⟩)) (hp : (Op.bytesLess a b) = false) : Val P L (.binOp .lss t x y u) ty w (.bool false) := hp ▸ Vx.sltL hx hy
theorem Vx.sne_t {a b : List UInt8} (hx : evo L x = some (.string ⟨a.toArray⟩)) (hy : evo L y = some (.string ⟨b.toArray⟩)) (hp : (a == b) = false) : Val P L (.binOp .neq t x y u) ty w (.bool true) := by have h0 := Vx.sneL (P := P) (L := L) (t := t) (u := u) (ty := ty) (w := w) hx hy; rw [hp] at h0; exact h0
theorem Vx.sne_f {a b : List UInt8} (hx : evo L x = some (.string ⟨a.toArray⟩)) (hy : evo L y = some (.string ⟨b.toArray⟩)) (hp : (a == b) = true) : Val P L (.binOp .neq t x y u) ty w (.bool false) := by have h0 := Vx.sneL (P := P) (L := L) (t := t) (u := u) (ty := ty) (w := w) hx hy; rw [hp] at h0; exact h0
theorem Vx.neqB {a b : Bool} [U : Und P t .bool] (hx : evo L x = some (.bool a)) (hy : evo L y = some (.bool b)) : Val P L (.binOp .neq t x y u) ty w (.bool (a != b)) :=
  Vx.bin hx hy  (by rw [eqGuard_at_bool]; rfl) (run_neq_bool w t a b U.h)
theorem WR.neqB {a b : Bool} [U : Und P t .bool] (hx : evo L x = some (.bool a)) (hy : evo L y = some (.bool b)) (hd : Nat.blt d n = true) (h : WR P n D ops rest ((d, .bool (a != b)) :: L) w Q) : WR P n D ops (⟨some d, .binOp .neq t x y u, ty, pos, after, none⟩ :: rest) L w Q := .sv (Vx.neqB hx hy) hd h
theorem Vx.eqlB {a b : Bool} [U : Und P t .bool] (hx : evo L x = some (.bool a)) (hy : evo L y = some (.bool b)) : Val P L (.binOp .eql t x y u) ty w (.bool (a == b)) :=
  Vx.bin hx hy  (by rw [eqGuard_at_bool]; rfl) (run_eql_bool w t a b U.h)
theorem WR.eqlB {a b : Bool} [U : Und P t .bool] (hx : evo L x = some (.bool a)) (hy : evo L y = some (.bool b)) (hd : Nat.blt d n = true) (h : WR P n D ops rest ((d, .bool (a == b)) :: L) w Q) : WR P n D ops (⟨some d, .binOp .eql t x y u, ty, pos, after, none⟩ :: rest) L w Q := .sv (Vx.eqlB hx hy) hd h
theorem Vx.un {op : UnOp} (hx : evo L x = some vx) (hr : (Op.unary op vx).run P w = .ok v w) : Val P L (.unOp op t x) ty w (v) :=
  ⟨fun ha => by simp only [execOp, ha.ev hx, Sem.run_bind, hr, Result.andThen_ok, Sem.run_pure]⟩
theorem WR.un {op : UnOp} (hx : evo L x = some vx) (hd : Nat.blt d n = true) (hr : (Op.unary op vx).run P w = .ok v w) (h : WR P n D ops rest ((d, v) :: L) w Q) : WR P n D ops (⟨some d, .unOp op t x, ty, pos, after, none⟩ :: rest) L w Q := .sv (Vx.un hx hr) hd h
theorem Vx.not {b : Bool} (hx : evo L x = some (.bool b)) : Val P L (.unOp .not t x) ty w (.bool (!b)) :=
  Vx.un hx  rfl
theorem WR.not {b : Bool} (hx : evo L x = some (.bool b)) (hd : Nat.blt d n = true) (h : WR P n D ops rest ((d, .bool (!b)) :: L) w Q) : WR P n D ops (⟨some d, .unOp .not t x, ty, pos, after, none⟩ :: rest) L w Q := .sv (Vx.not hx) hd h
theorem Vx.not_dec {p : Prop} [Decidable p] (hx : evo L x = some (.bool (decide p))) : Val P L (.unOp .not t x) ty w (.bool (decide (¬ p))) :=
  Vx.un hx  (by by_cases hp : p <;> simp [hp] <;> rfl)
theorem WR.not_dec {p : Prop} [Decidable p] (hx : evo L x = some (.bool (decide p))) (hd : Nat.blt d n = true) (h : WR P n D ops rest ((d, .bool (decide (¬ p))) :: L) w Q) : WR P n D ops (⟨some d, .unOp .not t x, ty, pos, after, none⟩ :: rest) L w Q := .sv (Vx.not_dec hx) hd h
/-! Facts of the program's tables. -/
class Rw (P : Program) (t : TypeId) : Prop where
  h : ∃ dd, P.underlying t = some dd ∧ dd.isRow = true
class Sc (P : Program) (t : TypeId) : Prop where
  h : ∃ dd, P.underlying t = some dd ∧ dd.isRow = false
class Siz (P : Program) (t : TypeId) (k : outParam Nat) : Prop where
  h : (P.info? t).map (·.size) = some k
class Zer (P : Program) (t : TypeId) (z : outParam (Array Value)) : Prop where
  h : ∀ w, ∃ v, (zeroValue t).run P w = .ok v w ∧ v.cells = z
class Ent (P : Program) (f : FuncId) : Prop where
  h : ∀ args w, (callFunc f args).run P w = .ok (.enter f args) w
class Fld (P : Program) (t : TypeId) (i : Nat) (o : outParam Nat) : Prop where
  h : ∀ b p w, (Instr.fieldAt t (.pointer (some ⟨b, p, none⟩)) i).run P w = .ok (.pointer (some ⟨b, p + o, none⟩)) w

theorem zer_of {v : Value} {z : Array Value} (h : (P.info? t).map (·.zero) = some (some v)) (hz : v.cells = z) : Zer P t z := ⟨fun w => ⟨v, K.zero_of h w, hz⟩⟩
theorem ent_of {f : FuncId} {fn : Func} (hf : P.funcs[f]? = some fn) (hn : (fn.name == "runtime.NumGoroutine") = false) (hb : fn.body.isNone = false) : Ent P f := ⟨fun args w => by
  unfold callFunc
  simp only [Sem.run_bind, run_program, Result.andThen_ok, hf, hn, hb]; rfl⟩
theorem fld_of {i : Nat} {fs : Array Field} {f : Field} (hu : P.underlying t = some (.struct fs)) (hf : fs[i]? = some f) {o : Nat} (ho : f.offset = o) {k : Nat} (hk : (P.info? f.type).map (·.size) = some (k + 1)) : Fld P t i o := ⟨fun b p w => by
  subst ho
  simp only [Instr.fieldAt, fieldPlace, Sem.run_bind, run_underlying hu, Result.andThen_ok, hf, Instr.sureAddr, Sem.run_pure, size_of hk, Addr.add_lit, Nat.add_eq_zero_iff, Nat.one_ne_zero, and_false, if_false]⟩

theorem WR.call {f : FuncId} {xs : Array Operand} {ats : Array TypeId} [E : Ent P f] {vs : Array Value} {R : Ending → World → Prop} (hx : xs.toList.map (evo L) = vs.toList.map some) (hd : Nat.blt d n = true) (hc : Calls P f vs w R)
    (h : ∀ e w', R e w' → ∃ v, e = .returned v ∧ WR P n D ops rest ((d, v) :: L) w' Q) : WR P n D ops (⟨some d, .call { callee := .value (.func f), args := xs, argTypes := ats }, ty, pos, after, none⟩ :: rest) L w Q :=
  ⟨fun a ha => wpList_plain rfl fun K hK => by
    have hv : xs.map a.eval = vs := by
      apply Array.toList_inj.1
      rw [Array.toList_map]
      generalize xs.toList = l at *
      generalize vs.toList = m at *
      induction l generalizing m with
      | nil => cases m <;> simp_all
      | cons x l ih =>
        cases m with
        | nil => simp at hx
        | cons v m => simp only [List.map_cons, List.cons.injEq] at hx ⊢; exact ⟨ha.ev hx.1, ih m hx.2⟩
    unfold Oper.wp
    rw [execOp_call_go, hv, show (#[] ++ vs ++ #[] : Array Value) = vs by simp, E.h]
    exact hc.mono fun e w' he => by
      obtain ⟨v, rfl, hk⟩ := h e w' he
      exact hK _ _ (hk.go _ (ha.put hd v))⟩
theorem WR.call0 {f : FuncId} {xs : Array Operand} {ats : Array TypeId} [E : Ent P f] {vs : Array Value} {R : Ending → World → Prop} (hx : xs.toList.map (evo L) = vs.toList.map some) (hc : Calls P f vs w R)
    (h : ∀ e w', R e w' → ∃ v, e = .returned v ∧ WR P n D ops rest L w' Q) : WR P n D ops (⟨none, .call { callee := .value (.func f), args := xs, argTypes := ats }, ty, pos, after, none⟩ :: rest) L w Q :=
  ⟨fun a ha => wpList_plain rfl fun K hK => by
    have hv : xs.map a.eval = vs := by
      apply Array.toList_inj.1
      rw [Array.toList_map]
      generalize xs.toList = l at *
      generalize vs.toList = m at *
      induction l generalizing m with
      | nil => cases m <;> simp_all
      | cons x l ih =>
        cases m with
        | nil => simp at hx
        | cons v m => simp only [List.map_cons, List.cons.injEq] at hx ⊢; exact ⟨ha.ev hx.1, ih m hx.2⟩
    unfold Oper.wp
    rw [execOp_call_go, hv, show (#[] ++ vs ++ #[] : Array Value) = vs by simp, E.h]
    exact hc.mono fun e w' he => by
      obtain ⟨v, rfl, hk⟩ := h e w' he
      exact hK _ _ (hk.go _ (ha.put_none v))⟩

theorem ne_ub {b : Bool} : undef ≠ .bool b := fun h => by cases h
theorem Vx.builtin1 {bi : Builtin} {ats : Array TypeId} (hx : evo L x = some vx) (hr : ∀ cs, (builtin bi ats ty cs #[vx]).run P w = .ok (.value v) w) : Val P L (.call { callee := .builtin bi, args := #[x], argTypes := ats }) ty w (v) :=
  ⟨fun ha => by rw [BigFrame.execOp_builtin]; simp only [List.map_toArray, List.map_cons, List.map_nil, ha.ev hx, hr]⟩
theorem WR.builtin1 {bi : Builtin} {ats : Array TypeId} (hx : evo L x = some vx) (hd : Nat.blt d n = true) (hr : ∀ cs, (builtin bi ats ty cs #[vx]).run P w = .ok (.value v) w) (h : WR P n D ops rest ((d, v) :: L) w Q) : WR P n D ops (⟨some d, .call { callee := .builtin bi, args := #[x], argTypes := ats }, ty, pos, after, none⟩ :: rest) L w Q := .sv (Vx.builtin1 hx hr) hd h
theorem Vx.builtin2 {bi : Builtin} {ats : Array TypeId} (hx : evo L x = some vx) (hy : evo L y = some vy) (hr : ∀ cs, (builtin bi ats ty cs #[vx, vy]).run P w = .ok (.value v) w) : Val P L (.call { callee := .builtin bi, args := #[x, y], argTypes := ats }) ty w v :=
  ⟨fun ha => by rw [BigFrame.execOp_builtin]; simp only [List.map_toArray, List.map_cons, List.map_nil, ha.ev hx, ha.ev hy, hr]⟩
theorem WR.builtin2 {bi : Builtin} {ats : Array TypeId} (hx : evo L x = some vx) (hy : evo L y = some vy) (hd : Nat.blt d n = true) (hr : ∀ cs, (builtin bi ats ty cs #[vx, vy]).run P w = .ok (.value v) w') (h : WR P n D ops rest ((d, v) :: L) w' Q) :
    WR P n D ops (⟨some d, .call { callee := .builtin bi, args := #[x, y], argTypes := ats }, ty, pos, after, none⟩ :: rest) L w Q :=
  .val hd (fun a ha => by rw [BigFrame.execOp_builtin]; simp only [List.map_toArray, List.map_cons, List.map_nil, ha.ev hx, ha.ev hy, hr]) h
theorem Vx.len {A : Option Addr} {k c : Nat} {e : TypeId} [U : Und P t (.slice e)] (hx : evo L x = some (.slice A k c)) : Val P L (.call { callee := .builtin .len, args := #[x], argTypes := #[t] }) ty w (.int .i64 (k : Nat)) :=
  Vx.builtin1 hx  (fun cs => by
    have he : P.elem t = e := by unfold Program.elem; rw [U.h]
    rw [BigFrame.builtin_len]; simp only [Sem.run_bind, run_len_slice w t ty A k c (by rw [U.h, he]), Result.andThen_ok, Sem.run_pure]; rfl)
theorem WR.len {A : Option Addr} {k c : Nat} {e : TypeId} [U : Und P t (.slice e)] (hx : evo L x = some (.slice A k c)) (hd : Nat.blt d n = true) (h : WR P n D ops rest ((d, .int .i64 (k : Nat)) :: L) w Q) : WR P n D ops (⟨some d, .call { callee := .builtin .len, args := #[x], argTypes := #[t] }, ty, pos, after, none⟩ :: rest) L w Q := .sv (Vx.len hx) hd h
theorem Vx.lenS {s : ByteArray} [U : Und P t .string] (hx : evo L x = some (.string s)) : Val P L (.call { callee := .builtin .len, args := #[x], argTypes := #[t] }) ty w (.int .i64 (s.size : Nat)) :=
  Vx.builtin1 hx  (fun cs => by
    rw [BigFrame.builtin_len]; simp only [Sem.run_bind, run_len_string w t ty s U.h, Result.andThen_ok, Sem.run_pure]; rfl)
theorem WR.lenS {s : ByteArray} [U : Und P t .string] (hx : evo L x = some (.string s)) (hd : Nat.blt d n = true) (h : WR P n D ops rest ((d, .int .i64 (s.size : Nat)) :: L) w Q) : WR P n D ops (⟨some d, .call { callee := .builtin .len, args := #[x], argTypes := #[t] }, ty, pos, after, none⟩ :: rest) L w Q := .sv (Vx.lenS hx) hd h
theorem Vx.ptrNil {p : Option Addr} {e : TypeId} [U : Und P t (.pointer e)] (hx : evo L x = some (.pointer p)) (hy : evo L y = some (.pointer none)) : Val P L (.binOp .eql t x y u) ty w (.bool p.isNone) :=
  Vx.bin hx hy  (by rw [eqGuard_at_pointer]; rfl) (run_eql_pointer_nil w t p (by rw [U.h, show P.pointee t = e from by unfold Program.pointee; rw [U.h]]))
theorem WR.ptrNil {p : Option Addr} {e : TypeId} [U : Und P t (.pointer e)] (hx : evo L x = some (.pointer p)) (hy : evo L y = some (.pointer none)) (hd : Nat.blt d n = true) (h : WR P n D ops rest ((d, .bool p.isNone) :: L) w Q) : WR P n D ops (⟨some d, .binOp .eql t x y u, ty, pos, after, none⟩ :: rest) L w Q := .sv (Vx.ptrNil hx hy) hd h
theorem Vx.ptrNilN {p : Option Addr} {e : TypeId} [U : Und P t (.pointer e)] (hx : evo L x = some (.pointer p)) (hy : evo L y = some (.pointer none)) : Val P L (.binOp .neq t x y u) ty w (.bool (!p.isNone)) :=
  Vx.bin hx hy  (by rw [eqGuard_at_pointer]; rfl) (run_neq_pointer_nil w t p (by rw [U.h, show P.pointee t = e from by unfold Program.pointee; rw [U.h]]))
theorem WR.ptrNilN {p : Option Addr} {e : TypeId} [U : Und P t (.pointer e)] (hx : evo L x = some (.pointer p)) (hy : evo L y = some (.pointer none)) (hd : Nat.blt d n = true) (h : WR P n D ops rest ((d, .bool (!p.isNone)) :: L) w Q) : WR P n D ops (⟨some d, .binOp .neq t x y u, ty, pos, after, none⟩ :: rest) L w Q := .sv (Vx.ptrNilN hx hy) hd h
theorem Vx.conv {k k' : IntKind} {i : Int} [U : Und P t (.int k)] [V : Und P u (.int k')] (hx : evo L x = some (.int k i)) : Val P L (.convert t u x) ty w (.int k' (k'.wrap i)) :=
  ⟨fun ha => by
    have hk : P.intKind u = k' := by unfold Program.intKind; rw [V.h]
    simp only [execOp, ha.ev hx, Sem.run_bind, run_convert_int w t u k i (by rw [U.h]; rfl) (by rw [V.h, hk]), Result.andThen_ok, Sem.run_pure, hk]⟩
theorem WR.conv {k k' : IntKind} {i : Int} [U : Und P t (.int k)] [V : Und P u (.int k')] (hx : evo L x = some (.int k i)) (hd : Nat.blt d n = true) (h : WR P n D ops rest ((d, .int k' (k'.wrap i)) :: L) w Q) : WR P n D ops (⟨some d, .convert t u x, ty, pos, after, none⟩ :: rest) L w Q := .sv (Vx.conv hx) hd h
theorem Vx.bmax {k k' : IntKind} {i j : Int} (hx : evo L x = some (.int k i)) (hy : evo L y = some (.int k' j)) : Val P L (.call { callee := .builtin .max, args := #[x, y], argTypes := #[t, u] }) ty w (.int k (max i j)) :=
  Vx.builtin2 hx hy  (fun cs => by
    rw [BigFrame.builtin_max]; simp only [Sem.run_bind, run_max_int2, Result.andThen_ok, Sem.run_pure]
    rw [show (if j > i then j else i) = max i j by split <;> omega])
theorem WR.bmax {k k' : IntKind} {i j : Int} (hx : evo L x = some (.int k i)) (hy : evo L y = some (.int k' j)) (hd : Nat.blt d n = true) (h : WR P n D ops rest ((d, .int k (max i j)) :: L) w Q) : WR P n D ops (⟨some d, .call { callee := .builtin .max, args := #[x, y], argTypes := #[t, u] }, ty, pos, after, none⟩ :: rest) L w Q := .sv (Vx.bmax hx hy) hd h
theorem Vx.bmin {k k' : IntKind} {i j : Int} (hx : evo L x = some (.int k i)) (hy : evo L y = some (.int k' j)) : Val P L (.call { callee := .builtin .min, args := #[x, y], argTypes := #[t, u] }) ty w (.int k (min i j)) :=
  Vx.builtin2 hx hy  (fun cs => by
    rw [BigFrame.builtin_min]; simp only [Sem.run_bind, run_min_int2, Result.andThen_ok, Sem.run_pure]
    rw [show (if j < i then j else i) = min i j by split <;> omega])
theorem WR.bmin {k k' : IntKind} {i j : Int} (hx : evo L x = some (.int k i)) (hy : evo L y = some (.int k' j)) (hd : Nat.blt d n = true) (h : WR P n D ops rest ((d, .int k (min i j)) :: L) w Q) : WR P n D ops (⟨some d, .call { callee := .builtin .min, args := #[x, y], argTypes := #[t, u] }, ty, pos, after, none⟩ :: rest) L w Q := .sv (Vx.bmin hx hy) hd h
theorem Vx.rem {k : IntKind} (i j : Nat) (hj : 0 < j) (hx : evo L x = some (.int k (i : Nat))) (hy : evo L y = some (.int k (j : Nat))) : Val P L (.binOp .rem t x y u) ty w (.int k ((i % j : Nat) : Int)) :=
  Vx.bin hx hy  guard_int (by rw [binOp_rem]; simp only [Op.intDiv]; rw [if_neg (by omega), Int.tmod_eq_emod_of_nonneg (by omega)]; rfl)
theorem WR.rem {k : IntKind} (i j : Nat) (hj : 0 < j) (hx : evo L x = some (.int k (i : Nat))) (hy : evo L y = some (.int k (j : Nat))) (hd : Nat.blt d n = true) (h : WR P n D ops rest ((d, .int k ((i % j : Nat) : Int)) :: L) w Q) : WR P n D ops (⟨some d, .binOp .rem t x y u, ty, pos, after, none⟩ :: rest) L w Q := .sv (Vx.rem i j hj hx hy) hd h
theorem Vx.quo {k : IntKind} (i j : Nat) (hj : 0 < j) (hi : k.wrap ((i / j : Nat) : Int) = ((i / j : Nat) : Int)) (hx : evo L x = some (.int k (i : Nat))) (hy : evo L y = some (.int k (j : Nat))) : Val P L (.binOp .quo t x y u) ty w (.int k ((i / j : Nat) : Int)) :=
  Vx.bin hx hy  guard_int (by rw [binOp_quo]; simp only [Op.intDiv]; rw [if_neg (by omega), Int.tdiv_eq_ediv_of_nonneg (by omega), show (i : Int) / (j : Int) = ((i / j : Nat) : Int) by simp, hi]; rfl)
theorem WR.quo {k : IntKind} (i j : Nat) (hj : 0 < j) (hi : k.wrap ((i / j : Nat) : Int) = ((i / j : Nat) : Int)) (hx : evo L x = some (.int k (i : Nat))) (hy : evo L y = some (.int k (j : Nat))) (hd : Nat.blt d n = true) (h : WR P n D ops rest ((d, .int k ((i / j : Nat) : Int)) :: L) w Q) : WR P n D ops (⟨some d, .binOp .quo t x y u, ty, pos, after, none⟩ :: rest) L w Q := .sv (Vx.quo i j hj hi hx hy) hd h
/-! Memory. -/
theorem Vx.fieldAddr {i o b p : Nat} [F : Fld P t i o] (hx : evo L x = some (.pointer (some ⟨b, p, none⟩))) : Val P L (.fieldAddr t x i) ty w (.pointer (some ⟨b, p + o, none⟩)) :=
  ⟨fun ha => by simp only [execOp, ha.ev hx, Sem.run_bind, F.h, Result.andThen_ok, Sem.run_pure]⟩
theorem WR.fieldAddr {i o b p : Nat} [F : Fld P t i o] (hx : evo L x = some (.pointer (some ⟨b, p, none⟩))) (hd : Nat.blt d n = true) (h : WR P n D ops rest ((d, .pointer (some ⟨b, p + o, none⟩)) :: L) w Q) : WR P n D ops (⟨some d, .fieldAddr t x i, ty, pos, after, none⟩ :: rest) L w Q := .sv (Vx.fieldAddr hx) hd h
theorem Vx.nilCheck {p : Addr} (hx : evo L x = some (.pointer (some p))) : Val P L (.nilCheck x) ty w (.pointer (some p)) :=
  ⟨fun ha => by simp only [execOp, ha.ev hx, Sem.run_pure]⟩
theorem WR.nilCheck {p : Addr} (hx : evo L x = some (.pointer (some p))) (hd : Nat.blt d n = true) (h : WR P n D ops rest ((d, .pointer (some p)) :: L) w Q) : WR P n D ops (⟨some d, .nilCheck x, ty, pos, after, none⟩ :: rest) L w Q := .sv (Vx.nilCheck hx) hd h
theorem Vx.indexAddr {e k b o len cap j : Nat} {kd : IntKind} [U : Und P t (.slice e)] [S : Siz P e k] (hx : evo L x = some (.slice (some ⟨b, o, none⟩) len cap)) (hy : evo L y = some (.int kd (j : Int))) (hj : j < len) : Val P L (.indexAddr t x y) ty w (.pointer (some ⟨b, o + j * k, none⟩)) :=
  ⟨fun ha => by
    have hs : ∀ w, (sizeOf e).run P w = .ok k w := size_of S.h
    simp only [execOp, ha.ev hx, ha.ev hy, Instr.indexAt, Sem.run_bind, run_underlying U.h, Result.andThen_ok, asIntOf, Sem.run_pure]
    rw [if_pos (by omega)]
    simp [hs, Addr.add_lit]⟩
theorem WR.indexAddr {e k b o len cap j : Nat} {kd : IntKind} [U : Und P t (.slice e)] [S : Siz P e k] (hx : evo L x = some (.slice (some ⟨b, o, none⟩) len cap)) (hy : evo L y = some (.int kd (j : Int))) (hd : Nat.blt d n = true) (hj : j < len) (h : WR P n D ops rest ((d, .pointer (some ⟨b, o + j * k, none⟩)) :: L) w Q) : WR P n D ops (⟨some d, .indexAddr t x y, ty, pos, after, none⟩ :: rest) L w Q := .sv (Vx.indexAddr hx hy hj) hd h
theorem Vx.indexArr {e k b o len j : Nat} {kd : IntKind} [U : Und P t (.array len e)] [S : Siz P e k] (hx : evo L x = some (.pointer (some ⟨b, o, none⟩))) (hy : evo L y = some (.int kd (j : Int))) (hj : j < len) : Val P L (.indexAddr t x y) ty w (.pointer (some ⟨b, o + j * k, none⟩)) :=
  ⟨fun ha => by
    have hs : ∀ w, (sizeOf e).run P w = .ok k w := size_of S.h
    simp only [execOp, ha.ev hx, ha.ev hy, Instr.indexAt, Sem.run_bind, run_underlying U.h, Result.andThen_ok, asIntOf, Sem.run_pure, Instr.sureAddr]
    rw [if_pos (by omega)]
    simp [hs, Addr.add_lit]⟩
theorem WR.indexArr {e k b o len j : Nat} {kd : IntKind} [U : Und P t (.array len e)] [S : Siz P e k] (hx : evo L x = some (.pointer (some ⟨b, o, none⟩))) (hy : evo L y = some (.int kd (j : Int))) (hd : Nat.blt d n = true) (hj : j < len) (h : WR P n D ops rest ((d, .pointer (some ⟨b, o + j * k, none⟩)) :: L) w Q) : WR P n D ops (⟨some d, .indexAddr t x y, ty, pos, after, none⟩ :: rest) L w Q := .sv (Vx.indexArr hx hy hj) hd h
theorem run_load_one {dd : TypeDesc} (hu : P.underlying t = some dd) (hd : dd.isRow = false) (w : World) (ad : Addr) (v : Value) (hc : w.cell? ad = some v) : (loadVar t ad).run P w = .ok v w := by
  unfold loadVar isAgg
  simp only [Sem.run_bind, run_underlying hu, Result.andThen_ok]
  cases dd <;> simp_all [TypeDesc.isRow]
theorem run_load_sc (hu : ∃ dd, P.underlying t = some dd ∧ dd.isRow = false) (w : World) (ad : Addr) (v : Value) (hc : w.cell? ad = some v) : (loadVar t ad).run P w = .ok v w := by
  obtain ⟨dd, h1, h2⟩ := hu; exact run_load_one h1 h2 w ad v hc
theorem Vx.load {ad : Addr} [U : Sc P t] (hx : evo L x = some (.pointer (some ad))) (hc : w.cell? ad = some v) : Val P L (.load t x) ty w (v) :=
  ⟨fun ha => by simp only [execOp, ha.ev hx, Instr.loadAt, Instr.sureAddr, Sem.run_bind, Sem.run_pure, Result.andThen_ok, run_load_sc U.h w ad v hc]⟩
theorem WR.load {ad : Addr} [U : Sc P t] (hx : evo L x = some (.pointer (some ad))) (hc : w.cell? ad = some v) (hd : Nat.blt d n = true) (h : WR P n D ops rest ((d, v) :: L) w Q) : WR P n D ops (⟨some d, .load t x, ty, pos, after, none⟩ :: rest) L w Q := .sv (Vx.load hx hc) hd h
theorem Vx.loadRow {b o k : Nat} {cs : List Value} [U : Rw P t] [S : Siz P t k] (hx : evo L x = some (.pointer (some ⟨b, o, none⟩))) (hc : w.rangeAt b o cs) (hk : cs.length = k) : Val P L (.load t x) ty w (.agg cs.toArray) :=
  ⟨fun ha => by
    obtain ⟨dd, hu, hr⟩ := U.h
    simp only [execOp, ha.ev hx, Instr.loadAt, Instr.sureAddr, Sem.run_bind, Sem.run_pure, Result.andThen_ok, run_loadVar_mid w b o t cs dd hc hu hr (by rw [S.h, hk])]⟩
theorem WR.loadRow {b o k : Nat} {cs : List Value} [U : Rw P t] [S : Siz P t k] (hx : evo L x = some (.pointer (some ⟨b, o, none⟩))) (hc : w.rangeAt b o cs) (hk : cs.length = k) (hd : Nat.blt d n = true) (h : WR P n D ops rest ((d, .agg cs.toArray) :: L) w Q) : WR P n D ops (⟨some d, .load t x, ty, pos, after, none⟩ :: rest) L w Q := .sv (Vx.loadRow hx hc hk) hd h
/-- A variable in memory. -/
def Box (w : World) (b : Nat) (cs : List Value) : Prop := ∃ t, w.heap[b]? = some (.cells cs.toArray t (0, 0))
theorem Box.cell {b : Nat} {cs : List Value} (h : Box w b cs) (i : Nat) : w.cell? ⟨b, i, none⟩ = cs[i]? := by obtain ⟨t, h⟩ := h; rw [cell_in h]; simp
theorem Box.range {b : Nat} {cs : List Value} (h : Box w b cs) : w.rangeAt b 0 cs := fun j u hu => by rw [Nat.zero_add, h.cell]; exact hu
theorem Box.lt {b : Nat} {cs : List Value} (h : Box w b cs) : b < w.heap.size := by obtain ⟨t, h⟩ := h; exact (Array.getElem?_eq_some_iff.1 h).1
theorem Box.keep {b : Nat} {cs : List Value} (h : Box w b cs) (hb : w'.heap[b]? = w.heap[b]?) : Box w' b cs := by obtain ⟨t, h⟩ := h; exact ⟨t, by rw [hb]; exact h⟩
theorem Box.below {b : Nat} {cs : List Value} (h : Box w b cs) (hb : Below w.heap.size w w') : Box w' b cs := h.keep (hb.block b h.lt)
theorem Vx.loadBox {b k : Nat} {cs : List Value} [U : Rw P t] [S : Siz P t k] (hx : evo L x = some (.pointer (some ⟨b, 0, none⟩))) (hb : Box w b cs) (hk : cs.length = k) : Val P L (.load t x) ty w (.agg cs.toArray) :=
  Vx.loadRow hx hb.range hk
theorem WR.loadBox {b k : Nat} {cs : List Value} [U : Rw P t] [S : Siz P t k] (hx : evo L x = some (.pointer (some ⟨b, 0, none⟩))) (hb : Box w b cs) (hk : cs.length = k) (hd : Nat.blt d n = true) (h : WR P n D ops rest ((d, .agg cs.toArray) :: L) w Q) : WR P n D ops (⟨some d, .load t x, ty, pos, after, none⟩ :: rest) L w Q := .sv (Vx.loadBox hx hb hk) hd h
theorem Vx.loadCell {b o : Nat} {cs : List Value} [U : Sc P t] (hx : evo L x = some (.pointer (some ⟨b, o, none⟩))) (hb : Box w b cs) (hv : cs[o]? = some v) : Val P L (.load t x) ty w (v) :=
  Vx.load hx ((hb.cell o).trans hv)
theorem WR.loadCell {b o : Nat} {cs : List Value} [U : Sc P t] (hx : evo L x = some (.pointer (some ⟨b, o, none⟩))) (hb : Box w b cs) (hv : cs[o]? = some v) (hd : Nat.blt d n = true) (h : WR P n D ops rest ((d, v) :: L) w Q) : WR P n D ops (⟨some d, .load t x, ty, pos, after, none⟩ :: rest) L w Q := .sv (Vx.loadCell hx hb hv) hd h
theorem store_cells (t : TypeId) (ad : Addr) {v : Value} {c : Array Value} (h : v.cells = c) : storeVar t ad v = storeVar t ad (.agg c) := by unfold storeVar; rw [h]; rfl
theorem size_alloc (w : World) (o : Obj) : (w.alloc o).heap.size = w.heap.size + 1 := by show (w.heap.push o).size = _; simp
/-- A variable is made. -/
theorem WR.alloc {z : Array Value} [Z : Zer P t z] (hd : Nat.blt d n = true) (h : ∀ w', Below w.heap.size w w' → Box w' w.heap.size z.toList → w'.heap.size = w.heap.size + 1 → WR P n D ops rest ((d, .pointer (some ⟨w.heap.size, 0, none⟩)) :: L) w' Q) :
    WR P n D ops (⟨some d, .alloc t, ty, pos, after, none⟩ :: rest) L w Q := by
  obtain ⟨zv, hz, hzc⟩ := Z.h w
  refine .val (w' := w.alloc (.cells z t)) hd (fun a ha => ?_) (h _ (below_al (Below.refl _ _) _) ⟨t, by rw [Array.toArray_toList]; exact heap_alloc_last _ _⟩ (size_alloc _ _))
  unfold execOp
  simp only [Instr.alloc, newVar, newRow, Sem.run_bind, Sem.run_pure, Result.andThen_ok, hz, run_newObj_alloc, hzc]
/-- .. and written as a whole. -/
theorem WR.allocStore {z c : Array Value} {ty' : TypeId} {pos' : String} {after' : Array Edge} [Z : Zer P t z] {k : Nat} [S : Siz P t k] (hd : Nat.blt d n = true) (hy : evo L y = some v) (hv : v.cells = c) (hk : c.size = k) (hz : z.size = k) (h1 : c.all (·.oneCell') = true)
    (hne : evo ((d, .pointer (some ⟨w.heap.size, 0, none⟩)) :: L) y = some v)
    (h : ∀ w', Below w.heap.size w w' → Box w' w.heap.size c.toList → w'.heap.size = w.heap.size + 1 → WR P n D ops rest ((d, .pointer (some ⟨w.heap.size, 0, none⟩)) :: L) w' Q) :
    WR P n D ops (⟨some d, .alloc t, ty, pos, after, none⟩ :: ⟨none, .store t (.tmp d) y, ty', pos', after', none⟩ :: rest) L w Q := by
  obtain ⟨zv, hzz, hzc⟩ := Z.h w
  refine .val (v := .pointer (some ⟨w.heap.size, 0, none⟩)) (w' := w.alloc (.cells z t)) hd (fun a ha => ?_) ?_
  · unfold execOp
    simp only [Instr.alloc, newVar, newRow, Sem.run_bind, Sem.run_pure, Result.andThen_ok, hzz, run_newObj_alloc, hzc]
  refine .skip (w' := w.alloc (.cells c t)) (fun a ha => ?_) (h _ (below_al (Below.refl _ _) _) ⟨t, by rw [Array.toArray_toList]; exact heap_alloc_last _ _⟩ (size_alloc _ _))
  have hp : a.eval (.tmp d) = .pointer (some ⟨w.heap.size, 0, none⟩) := ha.ev look_cons_eq
  have hr := run_storeVar_row (P := P) (w.alloc (.cells z t)) w.heap.size t t z c (heap_alloc_last w _) (by rw [S.h, hk]) (by rw [hz, hk]) h1
  rw [World.setRow_alloc_new] at hr
  unfold execOp
  simp only [hp, ha.ev hne, Instr.storeAt, Instr.sureAddr, Sem.run_bind, Sem.run_pure, Result.andThen_ok, store_cells t _ hv, hr]
theorem WR.storeBox {b o : Nat} {cs : List Value} {k : Nat} [S : Siz P t k] (hb : Box w b cs) (hx : evo L x = some (.pointer (some ⟨b, o, none⟩))) (hy : evo L y = some v) (hk : k = 1) (h1 : v.oneCell' = true) (ho : o < cs.length)
    (h : ∀ w', Upd (· = b) w w' → Box w' b (cs.set o v) → w'.heap.size = w.heap.size → WR P n D ops rest L w' Q) : WR P n D ops (⟨none, .store t x y, ty, pos, after, none⟩ :: rest) L w Q := by
  obtain ⟨e, hh⟩ := hb
  have hc : (w.cell? ⟨b, o, none⟩) = some cs[o] := by rw [cell_in hh]; simp [ho]
  have h1c : v.cells = #[v] := by cases v <;> first | rfl | cases h1
  refine .skip (w' := w.setCell ⟨b, o, none⟩ v) (fun a ha => ?_) (h _ ((Upd.refl _ _).setCell _ _ (fun _ => rfl)) ⟨e, ?_⟩ (World.size_setCell _ _ _))
  · have hs : ∀ w, (sizeOf t).run P w = .ok 1 w := size_of (by rw [S.h, hk])
    unfold execOp
    simp only [ha.ev hx, ha.ev hy, Instr.storeAt, Instr.sureAddr, Sem.run_bind, Sem.run_pure, Result.andThen_ok]
    have ht : w.there b o #[v].size := fun j hj => by
      obtain rfl : j = 0 := by simpa using hj
      exact ⟨by rw [Nat.add_zero, hc]; rfl, by rw [Nat.add_zero]; exact frozen_in hh o⟩
    have hr := run_storeVar_mid (P := P) w b o t #[v] ht (by rw [S.h, hk]; rfl) (by simp [h1])
    rw [store_cells t ⟨b, o, none⟩ h1c, hr]; rfl
  · rw [heap_setCell_same w b o _ _ _ hh]; simp
--STEPS
theorem Vx.idL (h : Val P L (.load t x) ty w v) : Val P L (.load t x) ty w v := h
theorem Vx.idP (h : Val P L (.pick x y z) ty w v) : Val P L (.pick x y z) ty w v := h
theorem Vx.idB {op : BinOp} (h : Val P L (.binOp op t x y u) ty w v) : Val P L (.binOp op t x y u) ty w v := h
theorem Vx.idC {b : Builtin} {xs : Array Operand} {ts : Array TypeId} (h : Val P L (.call { callee := .builtin b, args := xs, argTypes := ts }) ty w v) : Val P L (.call { callee := .builtin b, args := xs, argTypes := ts }) ty w v := h
theorem Vx.idU {op : UnOp} (h : Val P L (.unOp op t x) ty w v) : Val P L (.unOp op t x) ty w v := h
theorem WR.s {op : Op} (h : WR P n D ops rest ((d, v) :: L) w Q) (hv : Val P L op ty w v := by first | (apply Vx.move; rfl) | (apply Vx.assign; rfl) | (apply Vx.idL; first | (apply Vx.loadCell; rfl; assumption; rfl) | (apply Vx.loadBox; rfl; assumption; rfl)) | (apply Vx.fieldAddr; rfl) | (apply Vx.extract; rfl; rfl) | (apply Vx.nilCheck; rfl) | (apply Vx.idP; first | (apply Vx.pick_t; rfl; rfl) | (apply Vx.pick_f; rfl; rfl) | (apply Vx.pick_or; rfl; rfl) | (apply Vx.pick_and; rfl; rfl)) | (apply Vx.idB; first | (apply Vx.eql_t; rfl; rfl; omega) | (apply Vx.eql_f; rfl; rfl; omega) | (apply Vx.eql; rfl; rfl) | (apply Vx.neq_t; rfl; rfl; omega) | (apply Vx.neq_f; rfl; rfl; omega) | (apply Vx.neq; rfl; rfl) | (apply Vx.lss_t; rfl; rfl; omega) | (apply Vx.lss_f; rfl; rfl; omega) | (apply Vx.lss; rfl; rfl) | (apply Vx.leq_t; rfl; rfl; omega) | (apply Vx.leq_f; rfl; rfl; omega) | (apply Vx.leq; rfl; rfl) | (apply Vx.gtr_t; rfl; rfl; omega) | (apply Vx.gtr_f; rfl; rfl; omega) | (apply Vx.gtr; rfl; rfl) | (apply Vx.geq_t; rfl; rfl; omega) | (apply Vx.geq_f; rfl; rfl; omega) | (apply Vx.geq; rfl; rfl) | (apply Vx.inc; rfl; omega) | (apply Vx.add; rfl; rfl; omega; omega) | (apply Vx.sub; rfl; rfl; omega; omega) | (apply Vx.ptrNil; rfl; rfl) | (apply Vx.ptrNilN; rfl; rfl) | (apply Vx.neqB; rfl; rfl) | (apply Vx.eqlB; rfl; rfl) | (apply Vx.seq_t; rfl; rfl; assumption) | (apply Vx.seq_f; rfl; rfl; assumption) | (apply Vx.seqL; rfl; rfl) | (apply Vx.sne_t; rfl; rfl; assumption) | (apply Vx.sne_f; rfl; rfl; assumption) | (apply Vx.sneL; rfl; rfl) | (apply Vx.slt_t; rfl; rfl; assumption) | (apply Vx.slt_f; rfl; rfl; assumption) | (apply Vx.sltL; rfl; rfl) | (apply Vx.sgeL; rfl; rfl)) | (apply Vx.idC; first | (apply Vx.len; rfl) | (apply Vx.lenS; rfl) | (apply Vx.bmax; rfl; rfl) | (apply Vx.bmin; rfl; rfl)) | (apply Vx.idU; first | (apply Vx.not_dec; rfl) | (apply Vx.not; rfl)) | (apply Vx.conv; rfl)) (hd : Nat.blt d n = true := by rfl) : WR P n D ops (⟨some d, op, ty, pos, after, none⟩ :: rest) L w Q := .sv hv hd h
theorem WR.ix {op : Op} (h : WR P n D ops rest ((d, v) :: L) w Q) (hv : Val P L op ty w v := by first | (apply Vx.indexAddr; rfl; rfl; omega) | (apply Vx.load; rfl; assumption) | (apply Vx.loadRow; rfl; assumption; rfl)) (hd : Nat.blt d n = true := by rfl) : WR P n D ops (⟨some d, op, ty, pos, after, none⟩ :: rest) L w Q := .sv hv hd h
theorem WR.g {dst : Option Tmp} {op : Op} {g : Nat × Bool} {l2 : List Oper} {L2 : Slots} (h : WR P n D ops l2 L2 w Q) (hs : WR P n D ops l2 L2 w Q → WR P n D ops (⟨dst, op, ty, pos, after, some g⟩ :: rest) L w Q := by intro h; first | exact WR.guard_yes (by rfl) (by rfl) h | exact WR.guard_no (by rfl) (by rfl) (by first | exact ne_tf | exact ne_ft | exact ne_ub) (by rfl) h | exact WR.guard_no0 (by rfl) (by rfl) (by first | exact ne_tf | exact ne_ft | exact ne_ub) h) : WR P n D ops (⟨dst, op, ty, pos, after, some g⟩ :: rest) L w Q := hs h
theorem WR.gn {op : Op} {j : Nat} {b : Bool} {s : Nat} (h : WR P n D ops rest ((d, undef) :: L) w Q) (hs : (ops[j]?).bind (·.dst) = some s := by rfl) (hv : look L s = some v := by rfl) (hne : v ≠ .bool b := by first | exact ne_tf | exact ne_ft | exact ne_ub) (hd : Nat.blt d n = true := by rfl) : WR P n D ops (⟨some d, op, ty, pos, after, some (j, b)⟩ :: rest) L w Q := WR.guard_no hs hv hne hd h
theorem WR.gn0 {op : Op} {j : Nat} {b : Bool} {s : Nat} (h : WR P n D ops rest L w Q) (hs : (ops[j]?).bind (·.dst) = some s := by rfl) (hv : look L s = some v := by rfl) (hne : v ≠ .bool b := by first | exact ne_tf | exact ne_ft | exact ne_ub) : WR P n D ops (⟨none, op, ty, pos, after, some (j, b)⟩ :: rest) L w Q := WR.guard_no0 hs hv hne h
theorem W.s {c c2 : Code} {Q2 : Exit → Act → World → Prop} (h : W P n D c2 L w Q2) (hs : W P n D c2 L w Q2 → W P n D c L w Q := by intro h; first | (apply W.cond_true; rfl; exact h) | (apply W.cond_false; rfl; exact h) | (apply W.block; exact h)) : W P n D c L w Q := hs h
theorem W.e {c : Code} {e : Exit} (h : Ends n D e L w Q) (hs : Ends n D e L w Q → W P n D c L w Q := by intro h; first | (apply W.ret; exact h) | (apply W.skip; exact h) | (apply W.exit; exact h) | (apply W.label; exact h)) : W P n D c L w Q := hs h
theorem Ends.s {e e2 : Exit} {Q2 : Exit → Act → World → Prop} (h : Ends n D e2 L w Q2) (hs : Ends n D e2 L w Q2 → Ends n D e L w Q := by intro h; first | (apply Ends.then_exit; exact h) | (apply Ends.then_ret; exact h) | (apply Ends.then_goto; exact h) | (apply Ends.blk_normal; exact h) | (apply Ends.blk_hit; exact h) | (apply Ends.blk_miss; rfl; exact h) | (apply Ends.blk_ret; exact h) | (apply Ends.blk_goto; exact h)) : Ends n D e L w Q := hs h
--END
end ops
end

end Go.Proofs.Ytjgobljclodpfaa.E
