/- What is made fresh, as a contract; a cell of a row written; slices held against nil. No condition. -/
import Derived.Test.YtjgobljclodpfaaRl2
namespace Go.Proofs.Ytjgobljclodpfaa.E
open Go Go.RowKit K
set_option linter.unusedVariables false
set_option linter.unusedSimpArgs false

/-- a was made; nothing else was turned. -/
def Fresh (w w' : World) (a : Ass) : Prop := Below w.heap.size w w' ∧ ∃ F, a.p w' F ∧ ∀ b, F b → w.heap.size ≤ b
section
variable {w w' : World} {a b : Ass} {Os Zs : List Ass}
theorem Mem.sixth {a b c d e f : Ass} (M : Mem w (a :: b :: c :: d :: e :: f :: Os) Zs) : Mem w (f :: a :: b :: c :: d :: e :: Os) Zs := M.perm (List.perm_middle (l₁ := [a, b, c, d, e]))
theorem Mem.seventh {a b c d e f g : Ass} (M : Mem w (a :: b :: c :: d :: e :: f :: g :: Os) Zs) : Mem w (g :: a :: b :: c :: d :: e :: f :: Os) Zs := M.perm (List.perm_middle (l₁ := [a, b, c, d, e, f]))
theorem Mem.eighth {a b c d e f g h : Ass} (M : Mem w (a :: b :: c :: d :: e :: f :: g :: h :: Os) Zs) : Mem w (h :: a :: b :: c :: d :: e :: f :: g :: Os) Zs := M.perm (List.perm_middle (l₁ := [a, b, c, d, e, f, g]))
theorem Mem.dropl : ∀ {l : List Ass}, Mem w (l ++ Os) Zs → Mem w Os Zs
  | [], M => M
  | _ :: _, M => Mem.dropl M.drop
theorem Mem.inl {x : Ass} {l : List Ass} (h : x ∈ l) (M : Mem w (l ++ Os) Zs) : ∃ F, x.p w F := by
  obtain ⟨a, b, rfl⟩ := List.append_of_mem h
  rw [List.append_assoc] at M
  exact (Mem.dropl M).get
theorem Mem.add (M : Mem w Os Zs) (h : Fresh w w' a) : Mem w' (a :: Os) Zs := by
  obtain ⟨hb, F, h1, h2⟩ := h
  exact M.new hb h1 h2
theorem Box.part {b o : Nat} {cs xs : List Value} (h : Box w b cs) (h2 : ∀ (j : Nat) u, xs[j]? = some u → cs[o + j]? = some u) : w.rangeAt b o xs := fun j u hu => by
  rw [h.cell]; exact h2 j u hu
theorem Mem.fresh (M : Mem w' (a :: Os) Zs) (k : Nat) (hz : Zs[k]? = some (zPre w)) : Fresh w w' a := by
  have hb := M.pre k hz
  obtain ⟨G, h1, h2, F, hF, hd, h3⟩ := M
  obtain ⟨E, hE, hs⟩ := h2 _ (List.mem_of_getElem? hz)
  exact ⟨hb, F, hF, fun x hx => Nat.le_of_not_lt fun hlt => hd x hx (hs x ((hE.1 x).2 hlt))⟩
theorem Mem.src {F : Nat → Prop} (h : a.p w F) : Mem w [] [a, zPre w] :=
  (Mem.start w).part 0 rfl fun G hG => ⟨F, h, fun b hb => (hG.1 b).2 (a.bnd h b hb)⟩
theorem aAll_mem {x : Ass} : ∀ {l : List Ass} {F : Nat → Prop}, (aAll l).p w F → x ∈ l → ∃ F', x.p w F'
  | y :: l, F, ⟨F1, F2, h1, h2, _⟩, hx => by
    rcases List.mem_cons.1 hx with rfl | hx
    · exact ⟨F1, h1⟩
    · exact aAll_mem h2 hx
theorem LRow.set {e k g c n : Nat} {xs : List Value} (h : LRow w e k (.slice (some ⟨g, 0, none⟩) n c) n xs) (j : Nat) (u : Value) : LRow (w.setCell ⟨g, j, none⟩ u) e k (.slice (some ⟨g, 0, none⟩) n c) n (xs.set j u) := by
  obtain ⟨h1, ⟨h0, _⟩ | ⟨g', cap, cur, h0, h4, h5, h6, h7, h8⟩⟩ := h
  · cases h0
  · cases h0
    refine ⟨by simpa using h1, .inr ⟨g, c, _, rfl, heap_setCell_same w g j _ _ u h4, h5, h6, by simpa using h7, ?_⟩⟩
    rw [Array.toList_setIfInBounds, ← h8, List.take_set]
theorem aLr_of_row {e k n : Nat} {v : Value} {xs : List Value} {w' : World} (hb : Below w.heap.size w w') (h : w'.ownsRow w.heap.size e k v n xs) : Fresh w w' (aLr e k v n xs) :=
  ⟨hb, fun b => v.ownBlock = some b, ⟨fun _ => Iff.rfl, .of_own h⟩, fun b hb => (World.ownsRow.lt h b hb).1⟩
theorem flatten_set {k : Nat} : ∀ (css : List (List Value)) (i r : Nat) (u : Value), (∀ c ∈ css, c.length = k) → i < css.length → r < k → css.flatten.set (i * k + r) u = (css.modify i (·.set r u)).flatten
  | [], i, r, u, _, h, _ => by simp at h
  | c :: css, 0, r, u, h, _, hr => by
    have hc := h c (by simp)
    simp [List.set_append_left _ _ (by omega : r < c.length)]
  | c :: css, i + 1, r, u, h, hi, hr => by
    have hc := h c (by simp)
    rw [List.flatten_cons, List.set_append_right _ _ (by rw [hc, Nat.succ_mul]; omega), hc, Nat.succ_mul, show i * k + k + r - k = i * k + r from by omega, flatten_set css i r u (fun c hc => h c (by simp [hc])) (by simpa using hi) hr]
    simp
end

section
variable {P : Program} {n : Nat} {D : List Deferred} {L : Slots} {w : World} {Q : Exit → Act → World → Prop} {ops : Array Oper} {rest : List Oper} {d : Nat} {ty t u : TypeId} {pos : String} {after : Array Edge} {x y z : Operand} {v vx vy vz : Value} {w' : World} {Os Zs : List Ass}
theorem WR.sliceNil {A : Option Addr} {k c : Nat} {e : TypeId} [U : Und P t (.slice e)] (hx : evo L x = some (.slice A k c)) (hy : evo L y = some (.slice none 0 0)) (hd : Nat.blt d n = true) (h : WR P n D ops rest ((d, .bool A.isNone) :: L) w Q) :
    WR P n D ops (⟨some d, .binOp .eql t x y u, ty, pos, after, none⟩ :: rest) L w Q :=
  .bin hx hy hd (by rw [eqGuard_at_slice]; rfl) (Lib.run_eql_slice_nil w t e A k c 0 0 U.h) h
theorem WR.sliceNilN {A : Option Addr} {k c : Nat} {e : TypeId} [U : Und P t (.slice e)] (hx : evo L x = some (.slice A k c)) (hy : evo L y = some (.slice none 0 0)) (hd : Nat.blt d n = true) (h : WR P n D ops rest ((d, .bool (!A.isNone)) :: L) w Q) :
    WR P n D ops (⟨some d, .binOp .neq t x y u, ty, pos, after, none⟩ :: rest) L w Q :=
  .bin hx hy hd (by rw [eqGuard_at_slice]; rfl) (run_neq_slice_nil_any w t e A k c 0 0 U.h) h
theorem fill_one' (z : Array Value) (n : Nat) (hz : z.size = n) (v : Value) (hy : v.cells.size = n) : Instr.fill (fun i => some (i * n, n)) z [(0, v)] = some v.cells := by
  have h := fill_one z n hz v.cells hy
  unfold Instr.fill at h ⊢
  exact h
theorem run_row1 {e k bytes : Nat} {z : Value} (E : Elem P t e k bytes z) (hk : k ≤ 16777216) (v : Value) (hv : v.cells.size = k) (w : World) :
    (Instr.buildSlice t 1 #[(0, v)]).run P w = .ok (.slice (some ⟨w.heap.size, 0, none⟩) 1 1) (w.alloc (.cells v.cells e)) := by
  obtain ⟨i, hi, hz, hs, hb'⟩ := info_parts E.info
  have hsz : ∀ w, (sizeOf e).run P w = .ok k w := size_of (by rw [hi]; simp [hs])
  have hzz : ∀ w, (zeroValue e).run P w = .ok z w := K.zero_of (by rw [hi]; simp [hz])
  have := E.pos
  unfold Instr.buildSlice
  simp only [Sem.run_bind, run_underlying E.ut, Result.andThen_ok, hsz, Nat.one_mul]
  rw [if_neg (by omega), if_neg (by omega)]
  simp only [Sem.run_bind, hzz, Result.andThen_ok, Sem.run_pure]
  rw [fill_one' _ k (by simp [E.zs]) v hv]
  simp only [newRow, Sem.run_bind, run_newObj_alloc, Sem.run_pure, Result.andThen_ok]
/-- A row of one element is made. -/
theorem WR.row1 {e k bytes : Nat} {zv : Value} (El : Elem P t e k bytes zv) (hk : k ≤ 16777216) (hx : evo L x = some v) (hv : v.cells.size = k) (hd : Nat.blt d n = true)
    (h : ∀ w', Below w.heap.size w w' → K.Sl w' (w.heap.size ≤ ·) k (.slice (some ⟨w.heap.size, 0, none⟩) 1 1) 1 v.cells.toList → WR P n D ops rest ((d, .slice (some ⟨w.heap.size, 0, none⟩) 1 1) :: L) w' Q) :
    WR P n D ops (⟨some d, .buildSlice t 1 #[(0, x)], ty, pos, after, none⟩ :: rest) L w Q :=
  .val hd (fun a ha => ex_buildSlice t 1 #[(0, x)] rfl (vs := #[(0, v)]) (by rw [List.map_toArray]; simp only [List.map_cons, List.map_nil, ha.ev hx]) (run_row1 El hk v hv w)) (h _ (below_al (Below.refl _ _) _) ⟨by simp [hv], _, 1, rfl, Nat.le_refl _, by decide, (fun h => by cases h), fun _ => ⟨_, rfl, Nat.le_refl _, fun j u hu => by
    rw [Addr.add_lit, Nat.zero_add, cell_in (heap_alloc_last _ _)]; simpa using hu⟩⟩)
/-- 'append' onto an own row. -/
theorem WR.lapp {e k bytes : Nat} {zv : Value} (El : Elem P t e k bytes zv) {F : Nat → Prop} {i m : Nat} {xs news : List Value} (M : Mem w (aLr e k vx i xs :: Os) Zs) (hx : evo L x = some vx) (hy : evo L y = some vy) (hd : Nat.blt d n = true)
    (hsrc : K.Sl w F k vy m news) (h1 : ∀ u ∈ news, u.oneCell' = true) (hb : i + m ≤ 1073741824) (hby : bytes ≤ 65536)
    (h : ∀ A c w', Mem w' (aLr e k (.slice A (i + m) c) (i + m) (xs ++ news) :: Os) Zs → WR P n D ops rest ((d, .slice A (i + m) c) :: L) w' Q) : WR P n D ops (⟨some d, .call { callee := .builtin .append, args := #[x, y], argTypes := #[t, t] }, ty, pos, after, none⟩ :: rest) L w Q := by
  obtain ⟨v', w', hr, h2, h3, h4⟩ := run_lapp El ty M.lrow hsrc h1 hb hby
  obtain ⟨A, c, rfl⟩ : ∃ A c, v' = .slice A (i + m) c := by obtain ⟨_, A, c, h, _⟩ := h2.sl; exact ⟨A, c, h⟩
  exact .builtin2 (w := w) hx hy hd (fun cs => by rw [BigFrame.builtin_append]; simp only [Sem.run_bind, hr, Result.andThen_ok, Sem.run_pure]) (h A c w' (M.setLRow h3 h2 h4))
/-- A loop that may be left in its midst: what is behind it is walked once. -/
theorem W.loopX (eid : Nat) {X Y : Type} {body : Code} (LI : X → Slots) (J : X → World → Prop) (m : X → Nat) (LX : Y → Slots) (JX : Y → World → Prop) (x0 : X) (hk : Keeps L (LI x0)) (h0 : J x0 w)
    (round : ∀ x w, J x w → ∀ (K : Act → World → Prop) (Q' : Exit → Act → World → Prop), (∀ x' L' w', Keeps L' (LI x') → J x' w' → m x' < m x → ∀ a, Fr n D L' a → K a w') → (∀ y L' w', Keeps L' (LX y) → JX y w' → Ends n D (.exit eid) L' w' Q') → (∀ e L' w', Ends n D e L' w' Q → Ends n D e L' w' Q') → W P n D body (LI x) w (Exit.then K Q'))
    (fin : ∀ y w, JX y w → Ends n D (.exit eid) (LX y) w Q) : W P n D (.loop body) L w Q :=
  W.loop LI J m x0 hk h0 fun x w hJ K hK => round x w hJ K Q hK (fun y L' w' hk hj => (fin y w' hj).keep hk) (fun e L' w' h => h)
/-- A function that holds variables. -/
theorem WR.makeFunc {f : FuncId} {xs : Array Operand} {vs : Array Value} (hx : ∀ a, Fr n D L a → xs.map a.eval = vs) (hd : Nat.blt d n = true) (h : WR P n D ops rest ((d, .func (.func f) #[] vs) :: L) w Q) :
    WR P n D ops (⟨some d, .makeFunc (.func f) #[] xs, ty, pos, after, none⟩ :: rest) L w Q :=
  .val hd (fun a ha => by
    have h1 := hx a ha
    generalize a.eval = ev at h1 ⊢
    unfold execOp
    simp [h1, Instr.makeFunc, Sem.run_pure, Result.andThen]) h
/-- A cell of an own row is written. -/
theorem WR.storeLr {e k m kt c g j : Nat} {xs : List Value} [S : Siz P t kt] (M : Mem w (aLr e k (.slice (some ⟨g, 0, none⟩) m c) m xs :: Os) Zs) (hx : evo L x = some (.pointer (some ⟨g, j, none⟩))) (hy : evo L y = some v) (hk : kt = 1) (h1 : v.oneCell' = true) (hj : j < xs.length)
    (h : ∀ w', Mem w' (aLr e k (.slice (some ⟨g, 0, none⟩) m c) m (xs.set j v) :: Os) Zs → WR P n D ops rest L w' Q) : WR P n D ops (⟨none, .store t x y, ty, pos, after, none⟩ :: rest) L w Q := by
  have hr := M.lrow
  have h1c : v.cells = #[v] := by cases v <;> first | rfl | cases h1
  have hcell : w.there g j #[v].size := by
    intro i hi
    obtain rfl : i = 0 := by simpa using hi
    obtain ⟨hl, ⟨h0, _⟩ | ⟨g', cap, cur, he, hg, hnc, hcm, hcs, ht⟩⟩ := hr
    · cases h0
    · cases he
      have hmc : m * k ≤ c * k := Nat.mul_le_mul_right _ hnc
      have hlt : j < cur.size := by omega
      exact ⟨by rw [Nat.add_zero, cell_in hg]; simp [hlt], by rw [Nat.add_zero]; exact frozen_in hg j⟩
  refine .skip (w' := w.setCell ⟨g, j, none⟩ v) (fun a ha => ?_) (h _ (M.setLRow ((Upd.refl _ _).setCell _ _ (fun _ => rfl)) (hr.set j v) fun b hb => .inl hb))
  have hrun := run_storeVar_mid (P := P) w g j t #[v] hcell (by rw [S.h, hk]; rfl) (by simp [h1])
  unfold execOp
  simp only [ha.ev hx, ha.ev hy, Instr.storeAt, Instr.sureAddr, Sem.run_bind, Sem.run_pure, Result.andThen_ok, store_cells t ⟨g, j, none⟩ h1c, hrun]
  rfl
end

end Go.Proofs.Ytjgobljclodpfaa.E
