/- Rows cut, and put together without one element; slices as steps. No condition. -/
import Derived.Test.YtjgobljclodpfaaRl
namespace Go.Proofs.Ytjgobljclodpfaa.E
open Go Go.RowKit K
set_option linter.unusedVariables false
set_option linter.unusedSimpArgs false

theorem add_zero' (A : Option Addr) (k : Nat) : A.map (·.add (0 * k)) = A := by
  cases A <;> simp [Addr.add]
section
variable {P : Program} {n : Nat} {D : List Deferred} {L : Slots} {w : World} {Q : Exit → Act → World → Prop} {ops : Array Oper} {rest : List Oper} {d : Nat} {ty t u : TypeId} {pos : String} {after : Array Edge} {x y z : Operand} {v vx vy vz : Value} {w' : World} {e k len cap l h m : Nat} {A : Option Addr} {kl kh km : IntKind}
theorem und_elem {P : Program} {t e : TypeId} (h : P.underlying t = some (.slice e)) : P.underlying t = some (.slice (P.elem t)) := by
  rw [h]; unfold Program.elem; rw [h]
theorem elem_of {P : Program} {t e : TypeId} (h : P.underlying t = some (.slice e)) : P.elem t = e := by unfold Program.elem; rw [h]
theorem WR.slice_hm [U : Und P t (.slice e)] [S : Siz P e k] (hx : evo L x = some (.slice A len cap)) (hy : evo L y = some (.int kh (h : Nat))) (hz : evo L z = some (.int km (m : Nat))) (hd : Nat.blt d n = true) (h1 : h ≤ m) (h2 : m ≤ cap)
    (hh : WR P n D ops rest ((d, .slice A h m) :: L) w Q) : WR P n D ops (⟨some d, .slice t x none (some y) (some z), ty, pos, after, none⟩ :: rest) L w Q :=
  .val hd (fun a ha => by
    have hu := und_elem U.h
    have hs : ∀ w, (sizeOf e).run P w = .ok k w := size_of S.h
    simp only [execOp, Option.map_none, Option.map_some, ha.ev hx, ha.ev hy, ha.ev hz, run_sliceAt_slice w t _ _ _ _ hu, run_slice_hm w t A len cap hu kh km (h : Int) (m : Int) (by omega) (by omega) (by omega), elem_of U.h, hs, Result.andThen_ok, Sem.run_bind, Sem.run_pure, sliced, Int.toNat_natCast, add_zero', ite_self, Nat.sub_zero]) hh
theorem WR.slice_h [U : Und P t (.slice e)] [S : Siz P e k] (hx : evo L x = some (.slice A len cap)) (hy : evo L y = some (.int kh (h : Nat))) (hd : Nat.blt d n = true) (h1 : h ≤ cap)
    (hh : WR P n D ops rest ((d, .slice A h cap) :: L) w Q) : WR P n D ops (⟨some d, .slice t x none (some y) none, ty, pos, after, none⟩ :: rest) L w Q :=
  .val hd (fun a ha => by
    have hu := und_elem U.h
    have hs : ∀ w, (sizeOf e).run P w = .ok k w := size_of S.h
    simp only [execOp, Option.map_none, Option.map_some, ha.ev hx, ha.ev hy, run_sliceAt_slice w t _ _ _ _ hu, run_slice_h w t A len cap hu kh (h : Int) (by omega) (by omega), elem_of U.h, hs, Result.andThen_ok, Sem.run_bind, Sem.run_pure, sliced, Int.toNat_natCast, add_zero', ite_self, Nat.sub_zero]) hh
theorem WR.slice_l [U : Und P t (.slice e)] [S : Siz P e k] (hx : evo L x = some (.slice A len cap)) (hy : evo L y = some (.int kl (l : Nat))) (hd : Nat.blt d n = true) (h1 : l ≤ len)
    (hh : WR P n D ops rest ((d, .slice (if cap = l then A else A.map (·.add (l * k))) (len - l) (cap - l)) :: L) w Q) : WR P n D ops (⟨some d, .slice t x (some y) none none, ty, pos, after, none⟩ :: rest) L w Q :=
  .val hd (fun a ha => by
    have hu := und_elem U.h
    have hs : ∀ w, (sizeOf e).run P w = .ok k w := size_of S.h
    simp only [execOp, Option.map_none, Option.map_some, ha.ev hx, ha.ev hy, run_sliceAt_slice w t _ _ _ _ hu, run_slice_l w t A len cap hu kl (l : Int) (by omega) (by omega), elem_of U.h, hs, Result.andThen_ok, Sem.run_bind, Sem.run_pure, sliced, Int.toNat_natCast]) hh
theorem WR.slice_lh [U : Und P t (.slice e)] [S : Siz P e k] (hx : evo L x = some (.slice A len cap)) (hy : evo L y = some (.int kl (l : Nat))) (hz : evo L z = some (.int kh (h : Nat))) (hd : Nat.blt d n = true) (h1 : l ≤ h) (h2 : h ≤ cap)
    (hh : WR P n D ops rest ((d, .slice (if cap = l then A else A.map (·.add (l * k))) (h - l) (cap - l)) :: L) w Q) : WR P n D ops (⟨some d, .slice t x (some y) (some z) none, ty, pos, after, none⟩ :: rest) L w Q :=
  .val hd (fun a ha => by
    have hu := und_elem U.h
    have hs : ∀ w, (sizeOf e).run P w = .ok k w := size_of S.h
    simp only [execOp, Option.map_none, Option.map_some, ha.ev hx, ha.ev hy, ha.ev hz, run_sliceAt_slice w t _ _ _ _ hu, run_slice_lh w t A len cap hu kl kh (l : Int) (h : Int) (by omega) (by omega) (by omega), elem_of U.h, hs, Result.andThen_ok, Sem.run_bind, Sem.run_pure, sliced, Int.toNat_natCast]) hh
end

section
variable {P : Program} {w w' : World} {e k n m i : Nat} {v vx : Value} {xs news : List Value} {Os Zs : List Ass}
/-- A row without one element: 'append(x[:i:i], x[i+1:]...)'. -/
theorem run_cutapp {t bytes : Nat} {z : Value} (E : Elem P t e k bytes z) (ty : TypeId) {g cap : Nat} (hr : LRow w e k (.slice (some ⟨g, 0, none⟩) n cap) n xs) (hi : i < n) (h1 : ∀ u ∈ xs, u.oneCell' = true) (hb : n ≤ 1073741824) (hby : bytes ≤ 65536) :
    ∃ v' w', (Builtin.append_ #[t, t] ty #[.slice (some ⟨g, 0, none⟩) i i, .slice (if cap = i + 1 then some ⟨g, 0, none⟩ else (some (⟨g, 0, none⟩ : Addr)).map (·.add ((i + 1) * k))) (n - (i + 1)) (cap - (i + 1))]).run P w = .ok v' w' ∧
      LRow w' e k v' (n - 1) (xs.take (i * k) ++ xs.drop ((i + 1) * k)) ∧ Below w.heap.size w w' ∧ ∀ b, v'.ownBlock = some b → b = g ∨ w.heap.size ≤ b := by
  have hcut := hr.cut (i := i) (by omega)
  have hsrc := hr.sl.sub (i + 1) (n - (i + 1)) (by omega)
  have hx : xs.length = n * k := hr.1
  have hnews : (xs.drop ((i + 1) * k)).take ((n - (i + 1)) * k) = xs.drop ((i + 1) * k) := by
    apply List.take_of_length_le
    rw [List.length_drop, hx, Nat.sub_mul]; omega
  rw [hnews] at hsrc
  have hlm : (xs.drop ((i + 1) * k)).length = (n - (i + 1)) * k := by rw [List.length_drop, hx, Nat.sub_mul]
  have hlt : (xs.take (i * k)).length = i * k := by
    rw [List.length_take, hx]; exact Nat.min_eq_left (Nat.mul_le_mul_right _ (by omega))
  obtain ⟨ii, hii, hz, hs, hb'⟩ := info_parts E.info
  obtain ⟨_, ⟨h0, _⟩ | ⟨g', cap', cur, h0, hg, hnc, hcm', hcs, htake⟩⟩ := id hcut
  · cases h0
  cases h0
  generalize hA : (if cap = i + 1 then some (⟨g, 0, none⟩ : Addr) else (some (⟨g, 0, none⟩ : Addr)).map (·.add ((i + 1) * k))) = A at hsrc ⊢
  obtain ⟨hl, A', c, he, hmc, hcm, hnil, hat⟩ := hsrc
  cases he
  by_cases hm : 0 < n - (i + 1)
  · obtain ⟨ad, rfl, _, hn⟩ := hat hm
    have hbb : (i + (n - (i + 1))) * bytes ≤ 140737488355328 := Nat.le_trans (Nat.mul_le_mul (by omega : i + (n - (i + 1)) ≤ 1073741824) hby) (by decide)
    obtain ⟨v', w', a, b, c'⟩ := run_append_arg_grows (P := P) (w := w) t ty e ii z k bytes E.ut hii hz hs hb' E.zs E.pos ⟨g, 0, none⟩ i i _ hlt (hcut.cells rfl) ad (n - (i + 1)) (cap - (i + 1)) _ hl hn (by omega) (by simp only [maxLen]; omega) hbb
    rw [show i + (n - (i + 1)) = n - 1 from by omega] at b
    exact ⟨v', w', a, .of_own b, ⟨c'.os, c'.tape, c'.output, c'.size, fun j hj => c'.block j hj (by simp)⟩, fun b' hb' => .inr (b.lt b' hb').1⟩
  · have hni : n = i + 1 := by omega
    subst hni
    have hd : xs.drop ((i + 1) * k) = [] := List.eq_nil_of_length_eq_zero (by rw [hlm]; simp)
    have hsr : Src P ii.size t (.slice A (i + 1 - (i + 1)) (cap - (i + 1))) 0 [] w := by
      rw [Nat.sub_self]
      cases A with
      | none => rw [hnil rfl]; exact Src.ofNil w E.ut 0
      | some ad => exact Src.ofSlice w E.ut ad 0 _ [] (by simp) (fun j u hu => by simp at hu) (fun u hu => by cases hu)
    have hr2 := run_append_room_src (P := P) w t t ty e ii E.ut hii g 0 i i _ 0 [] hsr (by omega) (fun j hj => by simp at hj) (fun j hj => by simp at hj)
    exact ⟨_, w, hr2, by rw [hd, List.append_nil]; exact hcut, Below.refl _ _, fun b hb => .inl (by simpa [Value.ownBlock] using hb.symm)⟩
/-- Chunks of k. -/
theorem flatten_take {α : Type} {k : Nat} : ∀ (css : List (List α)) (i : Nat), (∀ c ∈ css, c.length = k) → css.flatten.take (i * k) = (css.take i).flatten
  | [], i, _ => by simp
  | c :: css, 0, _ => by simp
  | c :: css, i + 1, h => by
    have hc := h c (by simp)
    rw [List.flatten_cons, List.take_append, List.take_of_length_le (by rw [hc, Nat.succ_mul]; omega), hc, Nat.succ_mul, Nat.add_sub_cancel, flatten_take css i fun c hc => h c (by simp [hc])]
    simp
theorem flatten_drop {α : Type} {k : Nat} : ∀ (css : List (List α)) (i : Nat), (∀ c ∈ css, c.length = k) → css.flatten.drop (i * k) = (css.drop i).flatten
  | [], i, _ => by simp
  | c :: css, 0, _ => by simp
  | c :: css, i + 1, h => by
    have hc := h c (by simp)
    rw [List.flatten_cons, List.drop_append, List.drop_of_length_le (by rw [hc, Nat.succ_mul]; omega), hc, Nat.succ_mul, Nat.add_sub_cancel, flatten_drop css i fun c hc => h c (by simp [hc])]
    simp
theorem range_get {w : World} {b o k : Nat} {css : List (List Value)} (h : ∀ (j : Nat) u, css.flatten[j]? = some u → w.cell? ⟨b, o + j, none⟩ = some u) (hk : ∀ c ∈ css, c.length = k) {i : Nat} {c : List Value} (hc : css[i]? = some c) : w.rangeAt b (o + i * k) c := fun j u hu => by
  have hi := (List.getElem?_eq_some_iff.1 hc).1
  have hl := hk c (List.mem_of_getElem? hc)
  have hj := (List.getElem?_eq_some_iff.1 hu).1
  rw [Nat.add_assoc]
  refine h _ _ ?_
  rw [flatten_get css hk i j hi (by omega), hc]
  exact hu
end

end Go.Proofs.Ytjgobljclodpfaa.E
