/- Rows of elements of several cells each; appends that tell where the new row lies; worlds that differ in a few blocks. No condition. -/
import Derived.Test.YtjgobljclodpfaaK
import Derived.ArgAppend
import Derived.Deep.AppendSrc
namespace Go.Proofs.Ytjgobljclodpfaa.K
open Go Go.RowKit
set_option linter.unusedVariables false
set_option linter.unusedSimpArgs false

section
variable {α : Type} {f : α → List Value} {k : Nat}

theorem fm_len (hk : ∀ a, (f a).length = k) : ∀ es : List α, (es.flatMap f).length = es.length * k
  | [] => by simp
  | e :: es => by rw [List.flatMap_cons, List.length_append, hk, fm_len hk es, List.length_cons, Nat.succ_mul]; omega

theorem fm_get (hk : ∀ a, (f a).length = k) : ∀ (es : List α) (i j : Nat), j < k → (es.flatMap f)[i * k + j]? = (es[i]?).bind fun e => (f e)[j]?
  | [], i, j, _ => by simp
  | e :: es, i, j, hj => by
    rw [List.flatMap_cons]
    cases i with
    | zero => rw [List.getElem?_append_left (by rw [hk]; omega)]; simp
    | succ i =>
      rw [List.getElem?_append_right (by rw [hk, Nat.succ_mul]; omega), hk, show (i + 1) * k + j - k = i * k + j from by rw [Nat.succ_mul]; omega, fm_get hk es i j hj]
      simp

theorem fm_take (hk : ∀ a, (f a).length = k) : ∀ (es : List α) (i : Nat), (es.flatMap f).take (i * k) = (es.take i).flatMap f
  | [], i => by simp
  | e :: es, 0 => by simp
  | e :: es, i + 1 => by
    rw [List.flatMap_cons, List.take_succ_cons, List.flatMap_cons, Nat.succ_mul, Nat.add_comm, List.take_append, hk, List.take_of_length_le (by rw [hk]; omega), show k + i * k - k = i * k from by omega, fm_take hk es i]
theorem fm_drop (hk : ∀ a, (f a).length = k) : ∀ (es : List α) (i : Nat), (es.flatMap f).drop (i * k) = (es.drop i).flatMap f
  | [], i => by simp
  | e :: es, 0 => by simp
  | e :: es, i + 1 => by
    rw [List.flatMap_cons, List.drop_succ_cons, Nat.succ_mul, Nat.add_comm, List.drop_append, hk, List.drop_of_length_le (by rw [hk]; omega), show k + i * k - k = i * k from by omega, fm_drop hk es i, List.nil_append]

/-- The cells of the i-th element. -/
theorem row_cells {w : World} {F : Nat → Prop} {A : Option Addr} {n c : Nat} {es : List α} (hk : ∀ a, (f a).length = k) (hp : 0 < k) (h : Sl w F k (.slice A n c) es.length (es.flatMap f)) (i : Nat) (hi : i < es.length) :
    ∃ b o, A = some ⟨b, o, none⟩ ∧ F b ∧ b < w.heap.size ∧ ∀ j v, (f es[i])[j]? = some v → w.cell? ⟨b, o + i * k + j, none⟩ = some v := by
  have hn : n = es.length := by
    obtain ⟨_, A', c', e, _⟩ := h
    cases e; rfl
  subst hn
  obtain ⟨b, o, hA, hF, hb, hc⟩ := Sl.cells h (by omega) hp
  refine ⟨b, o, hA, hF, hb, fun j v hv => ?_⟩
  have hj : j < k := by have := (List.getElem?_eq_some_iff.1 hv).1; rwa [hk] at this
  have := hc (i * k + j) v (by rw [fm_get hk es i j hj, List.getElem?_eq_getElem hi]; exact hv)
  rwa [← Nat.add_assoc] at this
end

theorem ownB_lt {w : World} {base e k n : Nat} {v : Value} {xs : List Value} (h : w.ownsRow base e k v n xs) {g : Nat} (hg : v.ownBlock = some g) : base ≤ g ∧ g < w.heap.size := h.lt g hg

/-- An own row's form. -/
theorem own_form {w : World} {base e k n : Nat} {v : Value} {xs : List Value} (h : w.ownsRow base e k v n xs) (hn : 0 < n) : ∃ g c, v = .slice (some ⟨g, 0, none⟩) n c ∧ n ≤ c ∧ c ≤ maxLen ∧ base ≤ g ∧ g < w.heap.size := by
  obtain ⟨hl, ⟨rfl, rfl⟩ | ⟨g, cap, cur, rfl, hb, hh, hnc, hc, hs, ht⟩⟩ := h
  · omega
  · exact ⟨g, cap, rfl, hnc, hc, hb, (Array.getElem?_eq_some_iff.1 hh).1⟩
theorem own_slice {w : World} {base e k n : Nat} {v : Value} {xs : List Value} (h : w.ownsRow base e k v n xs) : ∃ A c, v = .slice A n c ∧ n ≤ c ∧ c ≤ maxLen ∧ (A = none → c = 0) ∧ (∀ a, A = some a → ∃ g, a = ⟨g, 0, none⟩ ∧ base ≤ g ∧ g < w.heap.size) := by
  obtain ⟨hl, ⟨rfl, rfl⟩ | ⟨g, cap, cur, rfl, hb, hh, hnc, hc, hs, ht⟩⟩ := h
  · exact ⟨none, 0, rfl, by omega, by simp [maxLen], fun _ => rfl, fun a h => by cases h⟩
  · exact ⟨some ⟨g, 0, none⟩, cap, rfl, hnc, hc, fun h => (by cases h), fun a h => by cases h; exact ⟨g, rfl, hb, (Array.getElem?_eq_some_iff.1 hh).1⟩⟩
theorem own_len {w : World} {base e k n : Nat} {v : Value} {xs : List Value} (h : w.ownsRow base e k v n xs) : n ≤ maxLen := by
  obtain ⟨A, c, rfl, h1, h2, -⟩ := own_slice h; omega

/-- Own, as what lies at the base. -/
theorem own_at {w : World} {base base' e k n : Nat} {v : Value} {xs : List Value} (h : w.ownsRow base e k v n xs) (hb : ∀ g, v.ownBlock = some g → base' ≤ g) : w.ownsRow base' e k v n xs := by
  obtain ⟨hl, ⟨rfl, rfl⟩ | ⟨g, cap, cur, rfl, hb', hh, hnc, hc, hs, ht⟩⟩ := h
  · exact ⟨hl, .inl ⟨rfl, rfl⟩⟩
  · exact ⟨hl, .inr ⟨g, cap, cur, rfl, hb g rfl, hh, hnc, hc, hs, ht⟩⟩

theorem own_keep {w w' : World} {base e k n : Nat} {v : Value} {xs : List Value} (h : w.ownsRow base e k v n xs) (hb : ∀ g, v.ownBlock = some g → w'.heap[g]? = w.heap[g]?) : w'.ownsRow base e k v n xs := by
  obtain ⟨hl, ⟨rfl, rfl⟩ | ⟨g, cap, cur, rfl, hb', hh, hnc, hc, hs, ht⟩⟩ := h
  · exact ⟨hl, .inl ⟨rfl, rfl⟩⟩
  · exact ⟨hl, .inr ⟨g, cap, cur, rfl, hb', (hb g rfl).trans hh, hnc, hc, hs, ht⟩⟩

/-- An append, with where the new row lies: in the old one's block, or in a new one. -/
theorem run_app2 {P : Program} {w : World} {t e k bytes : Nat} {z : Value} (E : Elem P t e k bytes z) (ty : TypeId) (base : Nat) {F : Nat → Prop} {v vx : Value} {n m : Nat} {xs news : List Value}
    (hown : w.ownsRow base e k v n xs) (hsrc : Sl w F k vx m news) (h1 : ∀ u ∈ news, u.oneCell' = true) (hb : n + m ≤ 1073741824) (hby : bytes ≤ 65536) (hbase : base ≤ w.heap.size) :
    ∃ v' w', (Builtin.append_ #[t, t] ty #[v, vx]).run P w = .ok v' w' ∧ w'.ownsRow base e k v' (n + m) (xs ++ news) ∧ w.grownBy w' v.ownBlock ∧ (v'.ownBlock = v.ownBlock ∨ ∀ g, v'.ownBlock = some g → w.heap.size ≤ g) := by
  obtain ⟨i, hi, hz, hs, hb'⟩ := info_parts E.info
  have hbb : (n + m) * bytes ≤ 140737488355328 := Nat.le_trans (Nat.mul_le_mul hb hby) (by decide)
  have hml : n + m ≤ maxLen := by simp only [maxLen]; omega
  have hso := hsrc
  obtain ⟨hl, A, c, rfl, hmc, hcm, hnil, hat⟩ := hsrc
  cases A with
  | none =>
    obtain rfl : c = 0 := hnil rfl
    obtain rfl : m = 0 := by omega
    obtain rfl : news = [] := List.eq_nil_of_length_eq_zero (by simpa using hl)
    refine ⟨v, w, run_append_owned_none (P := P) (w := w) base t ty e i k E.ut hi v n xs hown, by simpa using hown, ⟨rfl, rfl, rfl, Nat.le_refl _, fun _ _ _ => rfl⟩, .inl rfl⟩
  | some ad =>
    have hnews : ∀ j u, news[j]? = some u → w.cell? (ad.add j) = some u := by
      by_cases hm : 0 < m
      · obtain ⟨ad', e', _, h⟩ := hat hm; cases e'; exact h
      · obtain rfl : m = 0 := by omega
        obtain rfl : news = [] := List.eq_nil_of_length_eq_zero (by simpa using hl)
        intro j u hu; simp at hu
    rcases hown.2 with ⟨rfl, rfl⟩ | ⟨g, cap, cur, rfl, hbg, hg, hnc, hcm', hcs, htake⟩
    · -- the nil slice: whatever grows lies at the new base
      have hx : xs = [] := List.eq_nil_of_length_eq_zero (by simpa using hown.1)
      subst hx
      obtain ⟨v', w', a, b, c', _⟩ := run_append_own (P := P) w w.heap.size t ty e i z k bytes E.ut hi hz hs hb' E.zs E.pos (.slice none 0 0) 0 [] (World.ownsRow_nil w w.heap.size e k) ad m c news hl hnews h1 hml hbb (Nat.le_refl _)
      exact ⟨v', w', a, own_low b hbase, c', .inr fun g hg => (b.lt g hg).1⟩
    · by_cases hroom : n + m ≤ cap
      · obtain ⟨w', a, b, c'⟩ := run_append_fits (P := P) (w := w) base t ty e i k E.ut hi hs g n cap xs hown ad m c news hl hnews h1 hroom
        exact ⟨_, w', a, b, c', .inl rfl⟩
      · obtain ⟨v', w', a, b, c'⟩ := run_append_arg_grows (P := P) (w := w) t ty e i z k bytes E.ut hi hz hs hb' E.zs E.pos ⟨g, 0, none⟩ n cap xs hown.1 (fun j u hu => hown.cells rfl j u hu) ad m c news hl hnews (by omega) hml hbb
        exact ⟨v', w', a, own_low b hbase, ⟨c'.os, c'.tape, c'.output, c'.size, fun j hj hne => c'.block j hj (by simp)⟩, .inr fun g hg => (b.lt g hg).1⟩

/-- .. as a step of the walk. -/
theorem app2 {P : Program} {w : World} {t e k bytes : Nat} {z : Value} (E : Elem P t e k bytes z) {ops : Array Oper} {rest : List Oper} {o : Oper} {a : Act} {Q : Exit → Act → World → Prop}
    (hw : Region.wanted o (yielded ops a.tmps) = true) (s x : Operand) (ho : o.op = .call { callee := .builtin .append, args := #[s, x], argTypes := #[t, t] }) (base : Nat) {F : Nat → Prop} {v vx : Value} {n m : Nat} {xs news : List Value}
    (hown : w.ownsRow base e k v n xs) (hsrc : Sl w F k vx m news) (hs : a.eval s = v) (hx : a.eval x = vx) (h1 : ∀ u ∈ news, u.oneCell' = true) (hb : n + m ≤ 1073741824) (hby : bytes ≤ 65536) (hbase : base ≤ w.heap.size)
    (h : ∀ v' w', w'.ownsRow base e k v' (n + m) (xs ++ news) → w.grownBy w' v.ownBlock → (v'.ownBlock = v.ownBlock ∨ ∀ g, v'.ownBlock = some g → w.heap.size ≤ g) → wpList P ops Q rest (a.put o.dst v') w') : wpList P ops Q (o :: rest) a w := by
  refine BigFrame.wpList_want hw fun K hK => ?_
  obtain ⟨v', w', hr, h2, h3, h4⟩ := run_app2 E o.type base hown hsrc h1 hb hby hbase
  unfold Oper.wp execOp
  simp only [ho, resolve, invoke, builtin, Sem.run_bind, Sem.run_pure, Result.andThen_ok, List.map_toArray, List.map_cons, List.map_nil, hs, hx, hr]
  exact hK _ _ (h v' w' h2 h3 h4)

/-- A step of a drawn region. -/
theorem st_app2 {P : Program} {o : Oper} {a : Act} {w : World} {K : Act → World → Prop} {Q : Exit → Act → World → Prop} {t e k bytes : Nat} {z : Value} (E : Elem P t e k bytes z) (s x : Operand) (ho : o.op = .call { callee := .builtin .append, args := #[s, x], argTypes := #[t, t] }) (base : Nat) {F : Nat → Prop} {v vx : Value} {n m : Nat} {xs news : List Value}
    (hown : w.ownsRow base e k v n xs) (hsrc : Sl w F k vx m news) (hs : a.eval s = v) (hx : a.eval x = vx) (h1 : ∀ u ∈ news, u.oneCell' = true) (hb : n + m ≤ 1073741824) (hby : bytes ≤ 65536) (hbase : base ≤ w.heap.size)
    (h : ∀ v' w', w'.ownsRow base e k v' (n + m) (xs ++ news) → w.grownBy w' v.ownBlock → (v'.ownBlock = v.ownBlock ∨ ∀ g, v'.ownBlock = some g → w.heap.size ≤ g) → K (a.put o.dst v') w') : o.wp P a w K Q := by
  obtain ⟨v', w', hr, h2, h3, h4⟩ := run_app2 E o.type base hown hsrc h1 hb hby hbase
  unfold Oper.wp execOp
  simp only [ho, resolve, invoke, builtin, Sem.run_bind, Sem.run_pure, Result.andThen_ok, List.map_toArray, List.map_cons, List.map_nil, hs, hx, hr]
  exact h v' w' h2 h3 h4

/-- .. in the form that the kit's walk of a drawn region hands it over. -/
theorem step_app2 {P : Program} {ops : Array Oper} {o : Oper} {a : Act} {w : World} {K : Act → World → Prop} {Q : Exit → Act → World → Prop} {E' : Prop} {t e k bytes : Nat} {z : Value} (E : Elem P t e k bytes z) (hgd : o.guard = none) (s x : Operand)
    (ho : o.op = .call { callee := .builtin .append, args := #[s, x], argTypes := #[t, t] }) (base : Nat) {F : Nat → Prop} {v vx : Value} {n m : Nat} {xs news : List Value}
    (hown : w.ownsRow base e k v n xs) (hsrc : Sl w F k vx m news) (hs : a.eval s = v) (hx : a.eval x = vx) (h1 : ∀ u ∈ news, u.oneCell' = true) (hb : n + m ≤ 1073741824) (hby : bytes ≤ 65536) (hbase : base ≤ w.heap.size)
    (h : ∀ v' w', w'.ownsRow base e k v' (n + m) (xs ++ news) → w.grownBy w' v.ownBlock → (v'.ownBlock = v.ownBlock ∨ ∀ g, v'.ownBlock = some g → w.heap.size ≤ g) → K (a.put o.dst v') w') :
    if Region.wanted o (yielded ops a.tmps) = true then o.wp P a w K Q else E' := by
  have hw : Region.wanted o (yielded ops a.tmps) = true := by simp [Region.wanted, hgd]
  rw [if_pos hw]
  exact st_app2 E s x ho base hown hsrc hs hx h1 hb hby hbase h

/-- An append onto a slice without room: whatever is there stays. -/
theorem run_app0 {P : Program} {w : World} {t e k bytes : Nat} {z : Value} (E : Elem P t e k bytes z) (ty : TypeId) (b o : Nat) {F : Nat → Prop} {vx : Value} {m : Nat} {news : List Value}
    (hsrc : Sl w F k vx m news) (h1 : ∀ u ∈ news, u.oneCell' = true) (hb : m ≤ 1073741824) (hby : bytes ≤ 65536) :
    ∃ v' w', (Builtin.append_ #[t, t] ty #[.slice (some ⟨b, o, none⟩) 0 0, vx]).run P w = .ok v' w' ∧ Sl w' (w.heap.size ≤ ·) k v' m news ∧ Below w.heap.size w w' := by
  obtain ⟨i, hi, hz, hs, hb'⟩ := info_parts E.info
  have hbb : (0 + m) * bytes ≤ 140737488355328 := Nat.le_trans (Nat.mul_le_mul (by omega : 0 + m ≤ 1073741824) hby) (by decide)
  obtain ⟨hl, A, c, rfl, hmc, hcm, hnil, hat⟩ := hsrc
  by_cases hm : 0 < m
  · obtain ⟨ad, rfl, hf, hat⟩ := hat hm
    obtain ⟨v', w', a, b', c'⟩ := run_append_arg_grows (P := P) (w := w) t ty e i z k bytes E.ut hi hz hs hb' E.zs E.pos ⟨b, o, none⟩ 0 0 [] (by simp) (fun j u hu => by simp at hu) ad m c news hl hat (by omega) (by simp only [maxLen]; omega) hbb
    rw [Nat.zero_add, List.nil_append] at b'
    exact ⟨v', w', a, Sl.of_own b', ⟨c'.os, c'.tape, c'.output, c'.size, fun j hj => c'.block j hj (by simp)⟩⟩
  · obtain rfl : m = 0 := by omega
    obtain rfl : news = [] := List.eq_nil_of_length_eq_zero (by simpa using hl)
    have hsr : Src P i.size t (.slice A 0 c) 0 [] w := by
      cases A with
      | none => obtain rfl : c = 0 := hnil rfl
                exact Src.ofNil w E.ut 0
      | some ad => exact Src.ofSlice w E.ut ad 0 c [] (by simp) (fun j u hu => by simp at hu) (fun u hu => by cases hu)
    have hr := run_append_room_src (P := P) w t t ty e i E.ut hi b o 0 0 _ 0 [] hsr (by omega) (fun j hj => by simp at hj) (fun j hj => by simp at hj)
    exact ⟨_, w, hr, ⟨by simp, _, _, rfl, Nat.le_refl _, by simp [maxLen], (fun h => by cases h), fun h => absurd h (by omega)⟩, Below.refl _ _⟩

theorem st_app0 {P : Program} {o : Oper} {a : Act} {w : World} {K : Act → World → Prop} {Q : Exit → Act → World → Prop} {t e k bytes : Nat} {z : Value} (E : Elem P t e k bytes z) (s x : Operand) (ho : o.op = .call { callee := .builtin .append, args := #[s, x], argTypes := #[t, t] }) (b p : Nat) {F : Nat → Prop} {vx : Value} {m : Nat} {news : List Value}
    (hsrc : Sl w F k vx m news) (hs : a.eval s = .slice (some ⟨b, p, none⟩) 0 0) (hx : a.eval x = vx) (h1 : ∀ u ∈ news, u.oneCell' = true) (hb : m ≤ 1073741824) (hby : bytes ≤ 65536)
    (h : ∀ v' w', Sl w' (w.heap.size ≤ ·) k v' m news → Below w.heap.size w w' → K (a.put o.dst v') w') : o.wp P a w K Q := by
  obtain ⟨v', w', hr, h2, h3⟩ := run_app0 E o.type b p hsrc h1 hb hby
  unfold Oper.wp execOp
  simp only [ho, resolve, invoke, builtin, Sem.run_bind, Sem.run_pure, Result.andThen_ok, List.map_toArray, List.map_cons, List.map_nil, hs, hx, hr]
  exact h v' w' h2 h3

/-- w' is w but for the blocks of S, and new ones. -/
structure Upd (S : Nat → Prop) (w w' : World) : Prop where
  os : w'.os = w.os
  tape : w'.tape = w.tape
  output : w'.output = w.output
  size : w.heap.size ≤ w'.heap.size
  block : ∀ b, b < w.heap.size → ¬ S b → w'.heap[b]? = w.heap[b]?

theorem Upd.refl (S : Nat → Prop) (w : World) : Upd S w w := ⟨rfl, rfl, rfl, Nat.le_refl _, fun _ _ _ => rfl⟩
theorem Upd.mono {S T : Nat → Prop} {w w' : World} (h : Upd S w w') (hs : ∀ b, b < w.heap.size → S b → T b) : Upd T w w' := ⟨h.os, h.tape, h.output, h.size, fun b hb hn => h.block b hb fun hS => hn (hs b hb hS)⟩
theorem Upd.trans {S T : Nat → Prop} {w w1 w2 : World} (h : Upd S w w1) (k : Upd T w1 w2) (hs : ∀ b, b < w.heap.size → T b → S b) : Upd S w w2 :=
  ⟨k.os.trans h.os, k.tape.trans h.tape, k.output.trans h.output, Nat.le_trans h.size k.size, fun b hb hn => (k.block b (Nat.lt_of_lt_of_le hb h.size) fun hT => hn (hs b hb hT)).trans (h.block b hb hn)⟩
theorem Upd.of_below {w w' : World} {S : Nat → Prop} (h : Below w.heap.size w w') : Upd S w w' := ⟨h.os, h.tape, h.output, h.size, fun b hb _ => h.block b hb⟩
theorem Upd.of_grown {w w' : World} {r : Option Nat} (h : w.grownBy w' r) : Upd (fun b => some b = r) w w' := ⟨h.os, h.tape, h.output, h.size, fun b hb hn => h.block b hb hn⟩
theorem Upd.below {S : Nat → Prop} {w w' : World} {B : Nat} (h : Upd S w w') (hB : B ≤ w.heap.size) (hs : ∀ b, S b → B ≤ b) : Below B w w' := ⟨h.os, h.tape, h.output, h.size, fun b hb => h.block b (Nat.lt_of_lt_of_le hb hB) fun hS => by have := hs b hS; omega⟩
theorem Upd.drewN {S : Nat → Prop} {w w' : World} (h : Upd S w w') (n : Nat) : Upd S w (w'.drewN n) := ⟨h.os, h.tape, h.output, h.size, h.block⟩
theorem Upd.alloc {S : Nat → Prop} {w w' : World} (h : Upd S w w') (o : Obj) : Upd S w (w'.alloc o) := h.trans (T := fun _ => False) (Upd.of_below ((Below.refl _ _).alloc (Nat.le_refl _) o)) (fun _ _ h => h.elim)
theorem Upd.setCell {S : Nat → Prop} {w w' : World} (h : Upd S w w') (a : Addr) (u : Value) (ha : a.block < w.heap.size → S a.block) : Upd S w (w'.setCell a u) :=
  ⟨h.os, h.tape, h.output, by have := h.size; rw [World.size_setCell]; exact this, fun b hb hn => (Below.heap_setCell w' a u b (fun e => hn (by rw [e]; exact ha (by rw [← e]; exact hb)))).trans (h.block b hb hn)⟩
theorem Upd.heap {S : Nat → Prop} {w w' : World} (h : Upd S w w') {b : Nat} {o : Obj} (hb : w.heap[b]? = some o) (hn : ¬ S b) : w'.heap[b]? = some o := (h.block b (Array.getElem?_eq_some_iff.1 hb).1 hn).trans hb
theorem Upd.sl {S F : Nat → Prop} {w w' : World} {k n : Nat} {v : Value} {xs : List Value} (h : Upd S w w') (hs : Sl w F k v n xs) (hk : 0 < k) (hF : ∀ b, F b → ¬ S b) : Sl w' F k v n xs := hs.keep hk fun b hb hf => h.block b hb (hF b hf)
theorem Upd.bs {S F : Nat → Prop} {w w' : World} {v : Value} {xs : List UInt8} (h : Upd S w w') (hs : Bs w F v xs) (hF : ∀ b, F b → ¬ S b) : Bs w' F v xs := h.sl hs (by omega) hF
theorem Upd.own {S : Nat → Prop} {w w' : World} {base e k n : Nat} {v : Value} {xs : List Value} (h : Upd S w w') (hs : w.ownsRow base e k v n xs) (hF : ∀ g, v.ownBlock = some g → ¬ S g) : w'.ownsRow base e k v n xs :=
  own_keep hs fun g hg => h.block g (hs.lt g hg).2 (hF g hg)

/-- A callee that leaves the world alone, within a region that reads. -/
theorem quiet_eq {P : Program} {f : FuncId} {args : Array Value} {w : World} {n : Nat} {v : Value}
    (h : Calls P f args (w.drewN n) fun e w' => e = .returned v ∧ w.drewN n = w') : Calls P f args (w.drewN n) fun e w'' => e = .returned v ∧ ∃ m, w'' = w.drewN m :=
  h.mono fun _ _ ⟨he, hm⟩ => ⟨he, n, hm.symm⟩

end Go.Proofs.Ytjgobljclodpfaa.K
