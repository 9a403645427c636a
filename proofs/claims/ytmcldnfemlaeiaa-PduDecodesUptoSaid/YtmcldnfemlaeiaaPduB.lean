/- Layer 11's reference: Right at every message; Bytes. No condition beyond sizes. -/
import Derived.Test.YtmcldnfemlaeiaaPduRt1
import Derived.Test.YtmcldnfemlaeiaaPduRt2
import Derived.Test.YtmcldnfemlaeiaaPduRt3
import Derived.Test.YtmcldnfemlaeiaaPduRt4
import Derived.Test.YtmcldnfemlaeiaaPduRt5
import Derived.Test.YtmcldnfemlaeiaaPduRt6
import Derived.Test.YtmcldnfemlaeiaaPduRt7
import Derived.Test.YtmcldnfemlaeiaaPduRt8
import Derived.Test.YtmcldnfemlaeiaaPduD
import Derived.Test.YtmcldnfemlaeiaaG
namespace Go.Proofs.Ytmcldnfemlaeiaa
open Go.RowKit K L
set_option linter.unusedVariables false
set_option linter.unusedSimpArgs false

set_option maxRecDepth 100000 in
set_option maxHeartbeats 4000000 in
theorem right_0 (m : Msg) (vb : Value) (w : World) (F : Nat → Prop) (h : Bs w F vb m.bytes) (hk : m.kind < 1 ∨ 8 < m.kind) :
    Calls Try.prog 11 #[.agg (m.cells vb).toArray] w fun e w' => e = .returned (.bool (decide m.ok)) ∧ Below w.heap.size w w' := by
  have hno : decide m.ok = false := by
    rw [decide_eq_false_iff_not]
    intro h
    have := h.1
    omega
  rw [hno]
  obtain ⟨A, c, rfl, l1, l2, -, -⟩ := h.open_
  clear h hno
  obtain ⟨kind, number, name, size, off, sum, code, bytes⟩ := m
  dsimp only at hk ⊢
  unfold Msg.cells
  dsimp only
  go_enter Try.func11, Try.ntmps11
  go_wp2_with fail
  refine (rfields_0 kind hk _).mono ?_
  rintro e w1 ⟨rfl, hB1⟩
  have hm := heap_bl hB1 (heap_alloc_new _ _)
  have hB := below_tr (below_al (Below.refl _ _) _) hB1
  clear hB1
  go_wp2
  go_ret
  exact ⟨rfl, hB⟩

theorem right_any (m : Msg) (vb : Value) (w : World) (F : Nat → Prop) (h : Bs w F vb m.bytes) (hl : m.name.length ≤ 1000000000) :
    Calls Try.prog 11 #[.agg (m.cells vb).toArray] w fun e w' => e = .returned (.bool (decide m.ok)) ∧ Below w.heap.size w w' := by
  by_cases h1 : m.kind = 1; · exact right_1 m vb w F h h1 hl
  by_cases h2 : m.kind = 2; · exact right_2 m vb w F h h2 hl
  by_cases h3 : m.kind = 3; · exact right_3 m vb w F h h3 hl
  by_cases h4 : m.kind = 4; · exact right_4 m vb w F h h4 hl
  by_cases h5 : m.kind = 5; · exact right_5 m vb w F h h5 hl
  by_cases h6 : m.kind = 6; · exact right_6 m vb w F h h6 hl
  by_cases h7 : m.kind = 7; · exact right_7 m vb w F h h7 hl
  by_cases h8 : m.kind = 8; · exact right_8 m vb w F h h8 hl
  exact right_0 m vb w F h (by omega)

theorem rfields_any (k : Int) (h : 1 ≤ k ∧ k ≤ 8) (w : World) : Calls Try.prog 24 #[.int .i64 k] w fun e w' => e = .returned (.string ⟨(fstr k).toArray⟩) ∧ Below w.heap.size w w' := by
  by_cases h1 : k = 1; · subst h1; exact rfields_1 w
  by_cases h2 : k = 2; · subst h2; exact rfields_2 w
  by_cases h3 : k = 3; · subst h3; exact rfields_3 w
  by_cases h4 : k = 4; · subst h4; exact rfields_4 w
  by_cases h5 : k = 5; · subst h5; exact rfields_5 w
  by_cases h6 : k = 6; · subst h6; exact rfields_6 w
  by_cases h7 : k = 7; · subst h7; exact rfields_7 w
  by_cases h8 : k = 8; · subst h8; exact rfields_8 w
  exact absurd h (by omega)

/-- '[]byte(s)' as a step of the walk. -/
theorem conv_bytes {P : Program} {w : World} {src dst e : TypeId} {ops : Array Oper} {rest : List Oper} {o : Oper} {a : Act} {Q : Exit → Act → World → Prop}
    (hw : Region.wanted o (yielded ops a.tmps) = true) (x : Operand) (ho : o.op = .convert src dst x) (xs : List UInt8) (hl : xs.length ≤ 1000000000) (hx : a.eval x = .string ⟨xs.toArray⟩)
    (hs : P.underlying src = some .string) (hd : P.underlying dst = some (.slice e)) (he : P.underlying e = some (.int .u8))
    (hk : ∀ v w', (∃ F, Bs w' F v xs) → Below w.heap.size w w' → wpList P ops Q rest (a.put o.dst v) w') : wpList P ops Q (o :: rest) a w := by
  refine BigFrame.wpList_want hw fun K hK => ?_
  have hr := run_bytes_of_string (P := P) w src dst e ⟨xs.toArray⟩ hs hd he
  unfold Oper.wp execOp
  simp only [ho, hx, Sem.run_bind, hr, Result.andThen_ok, Sem.run_pure]
  refine hK _ _ (hk _ _ ⟨fun _ => True, ?_⟩ ((Below.refl _ _).drew.alloc (Nat.le_refl _) _))
  have hsz : (⟨xs.toArray⟩ : ByteArray).size = xs.length := by simp [ByteArray.size]
  rw [hsz]
  have hc1 := grownCap_ge w xs.length 0 e
  have hc2 := grownCap_le_maxLen w xs.length 0 e (by simp only [maxLen]; omega)
  refine ⟨by simp [bvs], some ⟨w.heap.size, 0, none⟩, _, rfl, hc1, hc2, (fun h => by cases h), fun _ => ⟨_, rfl, trivial, fun j u hu => ?_⟩⟩
  have hj : j < xs.length := by have := (List.getElem?_eq_some_iff.1 hu).1; simpa [bvs] using this
  have hh : (w.drew.alloc (.cells (bytesRow ⟨xs.toArray⟩ (grownCap w xs.length 0 e)) e ((bytesRow ⟨xs.toArray⟩ (grownCap w xs.length 0 e)).size, (bytesRow ⟨xs.toArray⟩ (grownCap w xs.length 0 e)).size + 1))).heap[w.heap.size]? = some (.cells (bytesRow ⟨xs.toArray⟩ (grownCap w xs.length 0 e)) e ((bytesRow ⟨xs.toArray⟩ (grownCap w xs.length 0 e)).size, (bytesRow ⟨xs.toArray⟩ (grownCap w xs.length 0 e)).size + 1)) := by
    show (w.heap.push _)[w.heap.size]? = _
    simp
  have hb : (bytesRow ⟨xs.toArray⟩ (grownCap w xs.length 0 e))[j]? = some u := by
    unfold bytesRow
    rw [Array.getElem?_append_left (by simpa [ByteArray.size] using hj)]
    simpa [bvs, bv] using hu
  have : (⟨w.heap.size, 0, none⟩ : Addr).add j = ⟨w.heap.size, j, none⟩ := by unfold Addr.add; split <;> simp_all
  rw [this]
  simp only [World.cell?, hh]
  simpa using hb

/-- What a letter stands for in a message's bytes. -/
def fieldBytes (m : Msg) (c : UInt8) : List UInt8 :=
  if c = 110 then [UInt8.ofNat m.name.length] ++ m.name else if c = 115 then be m.size.toNat 2 else if c = 111 then be m.off.toNat 2 else if c = 117 then be m.sum 4 else if c = 99 then [UInt8.ofNat m.code.toNat] else be m.bytes.length 2 ++ m.bytes

theorem fstr_letters (k : Int) : ∀ c ∈ fstr k, c = 110 ∨ c = 115 ∨ c = 111 ∨ c = 117 ∨ c = 99 ∨ c = 98 := by
  intro c hc
  unfold fstr at hc
  repeat' split at hc
  all_goals simp at hc
  all_goals first
    | (rcases hc with rfl | rfl <;> decide)
    | (subst hc; decide)

theorem fstr_len (k : Int) : (fstr k).length ≤ 2 := by
  unfold fstr
  repeat' split
  all_goals decide

theorem enc_fields (m : Msg) (h : 1 ≤ m.kind ∧ m.kind ≤ 8) : m.enc = [UInt8.ofNat m.kind.toNat] ++ be m.number 4 ++ (fstr m.kind).flatMap (fieldBytes m) := by
  obtain ⟨kind, number, name, size, off, sum, code, bytes⟩ := m
  dsimp only at h ⊢
  have : kind = 1 ∨ kind = 2 ∨ kind = 3 ∨ kind = 4 ∨ kind = 5 ∨ kind = 6 ∨ kind = 7 ∨ kind = 8 := by omega
  rcases this with rfl | rfl | rfl | rfl | rfl | rfl | rfl | rfl <;> simp [Msg.enc, fstr, fieldBytes, fldN, fldS, fldO, fldU, fldC, fldB]

end Go.Proofs.Ytmcldnfemlaeiaa
