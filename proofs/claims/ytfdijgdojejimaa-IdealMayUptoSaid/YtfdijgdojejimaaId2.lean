/- Layer 27: slices.ContainsFunc; the predicates of May. No condition beyond sizes. -/
import Derived.Test.YtfdijgdojejimaaId1
import Derived.Shelf.Abstract
namespace Go.Proofs.Ytfdijgdojejimaa
open Go.RowKit Go.Shelf K L
set_option linter.unusedVariables false
set_option linter.unusedSimpArgs false

set_option maxHeartbeats 1000000 in
theorem containsF (g : Nat) (lb : Array Value) (p : Fact → Bool) (w0 : World) (hp : Holds g lb p w0) (v : Value) (es : List FE) (w : World) (F : Nat → Prop) (hs : Sl w F 7 v es.length (es.flatMap FE.cells)) (hB : Below w0.heap.size w0 w)
    (hx : ∀ e ∈ es, Bs w0 (· < w0.heap.size) e.2 e.1.bytes) :
    Calls Try.prog 48 #[v, .func (.func g) #[] lb] w fun e w' => e = .returned (.bool (es.any fun e => p e.1)) ∧ Below w.heap.size w w' := by
  go_enter Try.func48, Try.ntmps48
  go_wp2_with fail
  refine (indexF g lb p w0 hp v es w F hs hB hx).mono ?_
  rintro e w' ⟨⟨i, rfl, hi⟩, hb⟩
  go_wp2
  go_ret
  exact ⟨ret_bool (by rw [Bool.eq_iff_iff, ← hi]; simp), hb⟩

set_option maxHeartbeats 1000000 in
theorem some_any (g : Nat) (lb : Array Value) (p : Fact → Bool) (w0 : World) (hp : Holds g lb p w0) (v : Value) (es : List FE) (w : World) (F : Nat → Prop) (hs : Sl w F 7 v es.length (es.flatMap FE.cells)) (hB : Below w0.heap.size w0 w)
    (hx : ∀ e ∈ es, Bs w0 (· < w0.heap.size) e.2 e.1.bytes) :
    Calls Try.prog 21 #[v, .func (.func g) #[] lb] w fun e w' => e = .returned (.bool (es.any fun e => p e.1)) ∧ Below w.heap.size w w' := by
  go_enter Try.func21, Try.ntmps21
  go_wp2_with fail
  refine (containsF g lb p w0 hp v es w F hs hB hx).mono ?_
  rintro e w' ⟨rfl, hb⟩
  go_wp2
  go_ret
  exact ⟨rfl, hb⟩

/-- A fact in a box. -/
def FB (w : World) (b : Nat) (f : Fact) (vf : Value) : Prop := w.heap[b]? = some (.cells (f.cells vf).toArray 26)
theorem heap_bb {B : Nat} {w w' : World} (hb : Below B w w') {q : Nat} {x : Obj} (h : w.heap[q]? = some x) (hq : q < B) : w'.heap[q]? = some x := (hb.block q hq).trans h
theorem heap_lt {w : World} {q : Nat} {x : Obj} (h : w.heap[q]? = some x) : q < w.heap.size := (Array.getElem?_eq_some_iff.1 h).1
theorem heap_new (w : World) (o : Obj) : (w.alloc o).heap[w.heap.size]? = some o := heap_alloc_new w o

theorem FB.cells {w : World} {b : Nat} {f : Fact} {vf : Value} (h : FB w b f vf) : w.cell? ⟨b, 0, none⟩ = some (.int .i64 f.kind) ∧ w.cell? ⟨b, 1, none⟩ = some (.int .i64 f.node) ∧ w.cell? ⟨b, 2, none⟩ = some (.int .i64 f.frm) ∧ w.cell? ⟨b, 3, none⟩ = some (.int .u32 (f.number : Nat)) ∧
    w.cell? ⟨b, 4, none⟩ = some (.string ⟨f.name.toArray⟩) ∧ w.cell? ⟨b, 5, none⟩ = some (.int .i64 f.code) ∧ w.cell? ⟨b, 6, none⟩ = some vf :=
  ⟨cell_of h 0, cell_of h 1, cell_of h 2, cell_of h 3, cell_of h 4, cell_of h 5, cell_of h 6⟩

--CLOSURES
set_option maxHeartbeats 2000000 in
theorem cl1 (bf : Nat) (f : Fact) (vf : Value) (w0 : World) (hf : FB w0 bf f vf) (hv : Bs w0 (· < w0.heap.size) vf f.bytes) : Holds 18 #[.pointer (some ⟨bf, 0, none⟩)] f.back w0 := by
  refine ⟨enters_of Try.func18 (by kernel_rfl) rfl, ?_⟩
  rintro W ⟨x, vb⟩ hW hx
  have hf1 : FB W bf f vf := heap_bb hW hf (heap_lt hf)
  have hlt := heap_lt hf1
  obtain ⟨z0, z1, z2, z3, z4, z5, z6⟩ := hf1.cells
  have hx1 := hx.belowB hW
  have hv1 := hv.belowB hW
  have hBx := (Below.refl W.heap.size W).alloc (Nat.le_refl _) (.cells #[.int .i64 x.kind, .int .i64 x.node, .int .i64 x.frm, .int .u32 (x.number : Nat), .string ⟨x.name.toArray⟩, .int .i64 x.code, vb] 26)
  have hx2 := hx1.below hBx
  have hv2 := hv1.below hBx
  clear hBx
  show Calls Try.prog 18 #[.agg (x.cells vb).toArray, .pointer (some ⟨bf, 0, none⟩)] W _
  clear hf hx hv
  have HF := Lib.hid hf1
  clear hf1
  unfold Fact.cells
  go_enter Try.func18, Try.ntmps18
  cases h0 : (x.node == f.frm)
  · go_wp2
    go_ret
    exact ⟨ret_bool (by simp only [Fact.back, Fact.forth, Fact.same, Fact.like, Fact.num] at h0  ⊢ <;> simp [h0]), (Below.refl _ _).alloc (Nat.le_refl _) _⟩
  · cases h1 : (x.frm == f.node)
    · go_wp2
      go_ret
      exact ⟨ret_bool (by simp only [Fact.back, Fact.forth, Fact.same, Fact.like, Fact.num] at h0 h1 ⊢ <;> simp [h0, h1]), (Below.refl _ _).alloc (Nat.le_refl _) _⟩
    · go_wp2
      go_ret
      exact ⟨ret_bool (by simp only [Fact.back, Fact.forth, Fact.same, Fact.like, Fact.num] at h0 h1 ⊢ <;> simp [h0, h1]), (Below.refl _ _).alloc (Nat.le_refl _) _⟩

set_option maxHeartbeats 2000000 in
theorem cl2 (bf : Nat) (f : Fact) (vf : Value) (w0 : World) (hf : FB w0 bf f vf) (hv : Bs w0 (· < w0.heap.size) vf f.bytes) : Holds 19 #[.pointer (some ⟨bf, 0, none⟩)] f.forth w0 := by
  refine ⟨enters_of Try.func19 (by kernel_rfl) rfl, ?_⟩
  rintro W ⟨x, vb⟩ hW hx
  have hf1 : FB W bf f vf := heap_bb hW hf (heap_lt hf)
  have hlt := heap_lt hf1
  obtain ⟨z0, z1, z2, z3, z4, z5, z6⟩ := hf1.cells
  have hx1 := hx.belowB hW
  have hv1 := hv.belowB hW
  have hBx := (Below.refl W.heap.size W).alloc (Nat.le_refl _) (.cells #[.int .i64 x.kind, .int .i64 x.node, .int .i64 x.frm, .int .u32 (x.number : Nat), .string ⟨x.name.toArray⟩, .int .i64 x.code, vb] 26)
  have hx2 := hx1.below hBx
  have hv2 := hv1.below hBx
  clear hBx
  show Calls Try.prog 19 #[.agg (x.cells vb).toArray, .pointer (some ⟨bf, 0, none⟩)] W _
  clear hf hx hv
  have HF := Lib.hid hf1
  clear hf1
  unfold Fact.cells
  go_enter Try.func19, Try.ntmps19
  cases h0 : (x.node == f.node)
  · go_wp2
    go_ret
    exact ⟨ret_bool (by simp only [Fact.back, Fact.forth, Fact.same, Fact.like, Fact.num] at h0  ⊢ <;> simp [h0]), (Below.refl _ _).alloc (Nat.le_refl _) _⟩
  · cases h1 : (x.frm == f.frm)
    · go_wp2
      go_ret
      exact ⟨ret_bool (by simp only [Fact.back, Fact.forth, Fact.same, Fact.like, Fact.num] at h0 h1 ⊢ <;> simp [h0, h1]), (Below.refl _ _).alloc (Nat.le_refl _) _⟩
    · go_wp2
      go_ret
      exact ⟨ret_bool (by simp only [Fact.back, Fact.forth, Fact.same, Fact.like, Fact.num] at h0 h1 ⊢ <;> simp [h0, h1]), (Below.refl _ _).alloc (Nat.le_refl _) _⟩

set_option maxHeartbeats 2000000 in
theorem cl6 (bf : Nat) (f : Fact) (vf : Value) (w0 : World) (hf : FB w0 bf f vf) (hv : Bs w0 (· < w0.heap.size) vf f.bytes) : Holds 28 #[.pointer (some ⟨bf, 0, none⟩)] (fun x => x.node == f.node) w0 := by
  refine ⟨enters_of Try.func28 (by kernel_rfl) rfl, ?_⟩
  rintro W ⟨x, vb⟩ hW hx
  have hf1 : FB W bf f vf := heap_bb hW hf (heap_lt hf)
  have hlt := heap_lt hf1
  obtain ⟨z0, z1, z2, z3, z4, z5, z6⟩ := hf1.cells
  have hx1 := hx.belowB hW
  have hv1 := hv.belowB hW
  have hBx := (Below.refl W.heap.size W).alloc (Nat.le_refl _) (.cells #[.int .i64 x.kind, .int .i64 x.node, .int .i64 x.frm, .int .u32 (x.number : Nat), .string ⟨x.name.toArray⟩, .int .i64 x.code, vb] 26)
  have hx2 := hx1.below hBx
  have hv2 := hv1.below hBx
  clear hBx
  show Calls Try.prog 28 #[.agg (x.cells vb).toArray, .pointer (some ⟨bf, 0, none⟩)] W _
  clear hf hx hv
  have HF := Lib.hid hf1
  clear hf1
  unfold Fact.cells
  go_enter Try.func28, Try.ntmps28
  cases h0 : (x.node == f.node)
  · go_wp2
    go_ret
    exact ⟨ret_bool (by simp only [Fact.back, Fact.forth, Fact.same, Fact.like, Fact.num] at h0  ⊢ <;> simp [h0]), (Below.refl _ _).alloc (Nat.le_refl _) _⟩
  · go_wp2
    go_ret
    exact ⟨ret_bool (by simp only [Fact.back, Fact.forth, Fact.same, Fact.like, Fact.num] at h0  ⊢ <;> simp [h0]), (Below.refl _ _).alloc (Nat.le_refl _) _⟩

set_option maxHeartbeats 2000000 in
theorem cl7 (bf : Nat) (f : Fact) (vf : Value) (w0 : World) (hf : FB w0 bf f vf) (hv : Bs w0 (· < w0.heap.size) vf f.bytes) : Holds 29 #[.pointer (some ⟨bf, 0, none⟩)] (fun x => x.node == f.node && x.name == f.name) w0 := by
  refine ⟨enters_of Try.func29 (by kernel_rfl) rfl, ?_⟩
  rintro W ⟨x, vb⟩ hW hx
  have hf1 : FB W bf f vf := heap_bb hW hf (heap_lt hf)
  have hlt := heap_lt hf1
  obtain ⟨z0, z1, z2, z3, z4, z5, z6⟩ := hf1.cells
  have hx1 := hx.belowB hW
  have hv1 := hv.belowB hW
  have hBx := (Below.refl W.heap.size W).alloc (Nat.le_refl _) (.cells #[.int .i64 x.kind, .int .i64 x.node, .int .i64 x.frm, .int .u32 (x.number : Nat), .string ⟨x.name.toArray⟩, .int .i64 x.code, vb] 26)
  have hx2 := hx1.below hBx
  have hv2 := hv1.below hBx
  clear hBx
  show Calls Try.prog 29 #[.agg (x.cells vb).toArray, .pointer (some ⟨bf, 0, none⟩)] W _
  clear hf hx hv
  have HF := Lib.hid hf1
  clear hf1
  unfold Fact.cells
  go_enter Try.func29, Try.ntmps29
  cases h0 : (x.node == f.node)
  · go_wp2
    go_ret
    exact ⟨ret_bool (by simp only [Fact.back, Fact.forth, Fact.same, Fact.like, Fact.num] at h0  ⊢ <;> simp [h0]), (Below.refl _ _).alloc (Nat.le_refl _) _⟩
  · cases h1 : (x.name == f.name)
    · go_wp2
      go_ret
      exact ⟨ret_bool (by simp only [Fact.back, Fact.forth, Fact.same, Fact.like, Fact.num] at h0 h1 ⊢ <;> simp [h0, h1]), (Below.refl _ _).alloc (Nat.le_refl _) _⟩
    · go_wp2
      go_ret
      exact ⟨ret_bool (by simp only [Fact.back, Fact.forth, Fact.same, Fact.like, Fact.num] at h0 h1 ⊢ <;> simp [h0, h1]), (Below.refl _ _).alloc (Nat.le_refl _) _⟩

set_option maxHeartbeats 2000000 in
theorem cl8 (bc : Nat) (bf : Nat) (f : Fact) (vf : Value) (w0 : World) (hf : FB w0 bf f vf) (hv : Bs w0 (· < w0.heap.size) vf f.bytes) (hc : w0.heap[bc]? = some (.cells #[.func (.func 18) #[] #[.pointer (some ⟨bf, 0, none⟩)]] 48)) : Holds 30 #[.pointer (some ⟨bc, 0, none⟩), .pointer (some ⟨bf, 0, none⟩)] (fun x => f.back x && f.like x && f.fits x) w0 := by
  refine ⟨enters_of Try.func30 (by kernel_rfl) rfl, ?_⟩
  rintro W ⟨x, vb⟩ hW hx
  have hf1 : FB W bf f vf := heap_bb hW hf (heap_lt hf)
  have hlt := heap_lt hf1
  obtain ⟨z0, z1, z2, z3, z4, z5, z6⟩ := hf1.cells
  have hx1 := hx.belowB hW
  have hv1 := hv.belowB hW
  have hc1 := heap_bb hW hc (heap_lt hc)
  have hclt := heap_lt hc1
  have hcc := cell_of hc1 0
  simp at hcc
  have HC := Lib.hid (fun W2 h => (cl1 bf f vf w0 hf hv).2 W2 (x, vb) h hx)
  show Calls Try.prog 30 #[.agg (x.cells vb).toArray, .pointer (some ⟨bc, 0, none⟩), .pointer (some ⟨bf, 0, none⟩)] W _
  clear hf hx hv hc
  have HF := Lib.hid hf1
  clear hf1
  have HW := Lib.hid hW
  clear hc1
  unfold Fact.cells
  go_enter Try.func30, Try.ntmps30
  cases h0 : (f.back x)
  · go_wp2_with fail
    refine (HC.out _ (HW.out.alloc HW.out.size _)).mono ?_
    rintro e w2 ⟨rfl, hb2⟩
    have hX2 : FB w2 W.heap.size x vb := heap_bl hb2 (heap_new W _)
    have hF2 : FB w2 bf f vf := heap_bl hb2 (heap_al HF.out _)
    obtain ⟨y0, y1, y2, y3, y4, y5, y6⟩ := hX2.cells
    obtain ⟨q0, q1, q2, q3, q4, q5, q6⟩ := hF2.cells
    have hB2 : Below W.heap.size W w2 := below_tr ((Below.refl _ _).alloc (Nat.le_refl _) _) hb2
    have hx2 := hx1.below hB2
    have hv2 := hv1.below hB2
    clear hX2 hF2 hb2 hcc z0 z1 z2 z3 z4 z5 z6 hx1 hv1
    dsimp only
    rw [h0]
    go_wp2
    go_ret
    exact ⟨ret_bool (by simp only [Fact.back, Fact.forth, Fact.same, Fact.like, Fact.num] at h0  ⊢ <;> simp [h0]), hB2⟩
  · cases h1 : (x.name == f.name)
    · go_wp2_with fail
      refine (HC.out _ (HW.out.alloc HW.out.size _)).mono ?_
      rintro e w2 ⟨rfl, hb2⟩
      have hX2 : FB w2 W.heap.size x vb := heap_bl hb2 (heap_new W _)
      have hF2 : FB w2 bf f vf := heap_bl hb2 (heap_al HF.out _)
      obtain ⟨y0, y1, y2, y3, y4, y5, y6⟩ := hX2.cells
      obtain ⟨q0, q1, q2, q3, q4, q5, q6⟩ := hF2.cells
      have hB2 : Below W.heap.size W w2 := below_tr ((Below.refl _ _).alloc (Nat.le_refl _) _) hb2
      have hx2 := hx1.below hB2
      have hv2 := hv1.below hB2
      clear hX2 hF2 hb2 hcc z0 z1 z2 z3 z4 z5 z6 hx1 hv1
      dsimp only
      rw [h0]
      go_wp2
      go_ret
      exact ⟨ret_bool (by simp only [Fact.back, Fact.forth, Fact.same, Fact.like, Fact.num] at h0 h1 ⊢ <;> simp [h0, h1]), hB2⟩
    · cases h2 : (x.bytes == f.bytes)
      · go_wp2_with fail
        refine (HC.out _ (HW.out.alloc HW.out.size _)).mono ?_
        rintro e w2 ⟨rfl, hb2⟩
        have hX2 : FB w2 W.heap.size x vb := heap_bl hb2 (heap_new W _)
        have hF2 : FB w2 bf f vf := heap_bl hb2 (heap_al HF.out _)
        obtain ⟨y0, y1, y2, y3, y4, y5, y6⟩ := hX2.cells
        obtain ⟨q0, q1, q2, q3, q4, q5, q6⟩ := hF2.cells
        have hB2 : Below W.heap.size W w2 := below_tr ((Below.refl _ _).alloc (Nat.le_refl _) _) hb2
        have hx2 := hx1.below hB2
        have hv2 := hv1.below hB2
        clear hX2 hF2 hb2 hcc z0 z1 z2 z3 z4 z5 z6 hx1 hv1
        dsimp only
        rw [h0]
        go_wp2_with fail
        refine (beq_any _ _ _ _ _ _ _ hx2 hv2).mono ?_
        rintro e w3 ⟨rfl, rfl⟩
        rw [h2]
        go_wp2
        go_ret
        exact ⟨ret_bool (by simp only [Fact.back, Fact.forth, Fact.same, Fact.like, Fact.num] at h0 h1 h2 ⊢ <;> simp [h0, h1, h2]), hB2⟩
      · cases h3 : (f.fits x)
        · go_wp2_with fail
          refine (HC.out _ (HW.out.alloc HW.out.size _)).mono ?_
          rintro e w2 ⟨rfl, hb2⟩
          have hX2 : FB w2 W.heap.size x vb := heap_bl hb2 (heap_new W _)
          have hF2 : FB w2 bf f vf := heap_bl hb2 (heap_al HF.out _)
          obtain ⟨y0, y1, y2, y3, y4, y5, y6⟩ := hX2.cells
          obtain ⟨q0, q1, q2, q3, q4, q5, q6⟩ := hF2.cells
          have hB2 : Below W.heap.size W w2 := below_tr ((Below.refl _ _).alloc (Nat.le_refl _) _) hb2
          have hx2 := hx1.below hB2
          have hv2 := hv1.below hB2
          clear hX2 hF2 hb2 hcc z0 z1 z2 z3 z4 z5 z6 hx1 hv1
          dsimp only
          rw [h0]
          go_wp2_with fail
          refine (beq_any _ _ _ _ _ _ _ hx2 hv2).mono ?_
          rintro e w3 ⟨rfl, rfl⟩
          rw [h2]
          go_wp2_with fail
          refine (fits_any _ _ _).mono ?_
          rintro e w4 ⟨rfl, rfl⟩
          rw [show (decide (x.number = 0) || decide (x.number = f.number)) = _ from h3]
          go_wp2
          go_ret
          exact ⟨ret_bool (by simp only [Fact.back, Fact.forth, Fact.same, Fact.like, Fact.num] at h0 h1 h2 h3 ⊢ <;> simp [h0, h1, h2, h3]), hB2⟩
        · go_wp2_with fail
          refine (HC.out _ (HW.out.alloc HW.out.size _)).mono ?_
          rintro e w2 ⟨rfl, hb2⟩
          have hX2 : FB w2 W.heap.size x vb := heap_bl hb2 (heap_new W _)
          have hF2 : FB w2 bf f vf := heap_bl hb2 (heap_al HF.out _)
          obtain ⟨y0, y1, y2, y3, y4, y5, y6⟩ := hX2.cells
          obtain ⟨q0, q1, q2, q3, q4, q5, q6⟩ := hF2.cells
          have hB2 : Below W.heap.size W w2 := below_tr ((Below.refl _ _).alloc (Nat.le_refl _) _) hb2
          have hx2 := hx1.below hB2
          have hv2 := hv1.below hB2
          clear hX2 hF2 hb2 hcc z0 z1 z2 z3 z4 z5 z6 hx1 hv1
          dsimp only
          rw [h0]
          go_wp2_with fail
          refine (beq_any _ _ _ _ _ _ _ hx2 hv2).mono ?_
          rintro e w3 ⟨rfl, rfl⟩
          rw [h2]
          go_wp2_with fail
          refine (fits_any _ _ _).mono ?_
          rintro e w4 ⟨rfl, rfl⟩
          rw [show (decide (x.number = 0) || decide (x.number = f.number)) = _ from h3]
          go_wp2
          go_ret
          exact ⟨ret_bool (by simp only [Fact.back, Fact.forth, Fact.same, Fact.like, Fact.num] at h0 h1 h2 h3 ⊢ <;> simp [h0, h1, h2, h3]), hB2⟩

set_option maxHeartbeats 2000000 in
theorem cl9 (bc : Nat) (bf : Nat) (f : Fact) (vf : Value) (w0 : World) (hf : FB w0 bf f vf) (hv : Bs w0 (· < w0.heap.size) vf f.bytes) (hc : w0.heap[bc]? = some (.cells #[.func (.func 19) #[] #[.pointer (some ⟨bf, 0, none⟩)]] 48)) : Holds 33 #[.pointer (some ⟨bc, 0, none⟩), .pointer (some ⟨bf, 0, none⟩)] (fun x => f.forth x && f.num x) w0 := by
  refine ⟨enters_of Try.func33 (by kernel_rfl) rfl, ?_⟩
  rintro W ⟨x, vb⟩ hW hx
  have hf1 : FB W bf f vf := heap_bb hW hf (heap_lt hf)
  have hlt := heap_lt hf1
  obtain ⟨z0, z1, z2, z3, z4, z5, z6⟩ := hf1.cells
  have hx1 := hx.belowB hW
  have hv1 := hv.belowB hW
  have hc1 := heap_bb hW hc (heap_lt hc)
  have hclt := heap_lt hc1
  have hcc := cell_of hc1 0
  simp at hcc
  have HC := Lib.hid (fun W2 h => (cl2 bf f vf w0 hf hv).2 W2 (x, vb) h hx)
  show Calls Try.prog 33 #[.agg (x.cells vb).toArray, .pointer (some ⟨bc, 0, none⟩), .pointer (some ⟨bf, 0, none⟩)] W _
  clear hf hx hv hc
  have HF := Lib.hid hf1
  clear hf1
  have HW := Lib.hid hW
  clear hc1
  unfold Fact.cells
  go_enter Try.func33, Try.ntmps33
  cases h0 : (f.forth x)
  · go_wp2_with fail
    refine (HC.out _ (HW.out.alloc HW.out.size _)).mono ?_
    rintro e w2 ⟨rfl, hb2⟩
    have hX2 : FB w2 W.heap.size x vb := heap_bl hb2 (heap_new W _)
    have hF2 : FB w2 bf f vf := heap_bl hb2 (heap_al HF.out _)
    obtain ⟨y0, y1, y2, y3, y4, y5, y6⟩ := hX2.cells
    obtain ⟨q0, q1, q2, q3, q4, q5, q6⟩ := hF2.cells
    have hB2 : Below W.heap.size W w2 := below_tr ((Below.refl _ _).alloc (Nat.le_refl _) _) hb2
    have hx2 := hx1.below hB2
    have hv2 := hv1.below hB2
    clear hX2 hF2 hb2 hcc z0 z1 z2 z3 z4 z5 z6 hx1 hv1
    dsimp only
    rw [h0]
    go_wp2
    go_ret
    exact ⟨ret_bool (by simp only [Fact.back, Fact.forth, Fact.same, Fact.like, Fact.num] at h0  ⊢ <;> simp [h0]), hB2⟩
  · cases h1 : ((x.number : Int) == (f.number : Int))
    · go_wp2_with fail
      refine (HC.out _ (HW.out.alloc HW.out.size _)).mono ?_
      rintro e w2 ⟨rfl, hb2⟩
      have hX2 : FB w2 W.heap.size x vb := heap_bl hb2 (heap_new W _)
      have hF2 : FB w2 bf f vf := heap_bl hb2 (heap_al HF.out _)
      obtain ⟨y0, y1, y2, y3, y4, y5, y6⟩ := hX2.cells
      obtain ⟨q0, q1, q2, q3, q4, q5, q6⟩ := hF2.cells
      have hB2 : Below W.heap.size W w2 := below_tr ((Below.refl _ _).alloc (Nat.le_refl _) _) hb2
      have hx2 := hx1.below hB2
      have hv2 := hv1.below hB2
      clear hX2 hF2 hb2 hcc z0 z1 z2 z3 z4 z5 z6 hx1 hv1
      dsimp only
      rw [h0]
      go_wp2
      go_ret
      exact ⟨ret_bool (by simp only [Fact.back, Fact.forth, Fact.same, Fact.like, Fact.num] at h0 h1 ⊢ <;> simp [h0, h1]), hB2⟩
    · go_wp2_with fail
      refine (HC.out _ (HW.out.alloc HW.out.size _)).mono ?_
      rintro e w2 ⟨rfl, hb2⟩
      have hX2 : FB w2 W.heap.size x vb := heap_bl hb2 (heap_new W _)
      have hF2 : FB w2 bf f vf := heap_bl hb2 (heap_al HF.out _)
      obtain ⟨y0, y1, y2, y3, y4, y5, y6⟩ := hX2.cells
      obtain ⟨q0, q1, q2, q3, q4, q5, q6⟩ := hF2.cells
      have hB2 : Below W.heap.size W w2 := below_tr ((Below.refl _ _).alloc (Nat.le_refl _) _) hb2
      have hx2 := hx1.below hB2
      have hv2 := hv1.below hB2
      clear hX2 hF2 hb2 hcc z0 z1 z2 z3 z4 z5 z6 hx1 hv1
      dsimp only
      rw [h0]
      go_wp2
      go_ret
      exact ⟨ret_bool (by simp only [Fact.back, Fact.forth, Fact.same, Fact.like, Fact.num] at h0 h1 ⊢ <;> simp [h0, h1]), hB2⟩

set_option maxHeartbeats 2000000 in
theorem cl10_1 (bc : Nat) (bf : Nat) (f : Fact) (vf : Value) (w0 : World) (hf : FB w0 bf f vf) (hv : Bs w0 (· < w0.heap.size) vf f.bytes) (hc : w0.heap[bc]? = some (.cells #[.func (.func 18) #[] #[.pointer (some ⟨bf, 0, none⟩)]] 48)) : Holds 35 #[.pointer (some ⟨bc, 0, none⟩), .pointer (some ⟨bf, 0, none⟩)] (fun x => f.back x && f.num x) w0 := by
  refine ⟨enters_of Try.func35 (by kernel_rfl) rfl, ?_⟩
  rintro W ⟨x, vb⟩ hW hx
  have hf1 : FB W bf f vf := heap_bb hW hf (heap_lt hf)
  have hlt := heap_lt hf1
  obtain ⟨z0, z1, z2, z3, z4, z5, z6⟩ := hf1.cells
  have hx1 := hx.belowB hW
  have hv1 := hv.belowB hW
  have hc1 := heap_bb hW hc (heap_lt hc)
  have hclt := heap_lt hc1
  have hcc := cell_of hc1 0
  simp at hcc
  have HC := Lib.hid (fun W2 h => (cl1 bf f vf w0 hf hv).2 W2 (x, vb) h hx)
  show Calls Try.prog 35 #[.agg (x.cells vb).toArray, .pointer (some ⟨bc, 0, none⟩), .pointer (some ⟨bf, 0, none⟩)] W _
  clear hf hx hv hc
  have HF := Lib.hid hf1
  clear hf1
  have HW := Lib.hid hW
  clear hc1
  unfold Fact.cells
  go_enter Try.func35, Try.ntmps35
  cases h0 : (f.back x)
  · go_wp2_with fail
    refine (HC.out _ (HW.out.alloc HW.out.size _)).mono ?_
    rintro e w2 ⟨rfl, hb2⟩
    have hX2 : FB w2 W.heap.size x vb := heap_bl hb2 (heap_new W _)
    have hF2 : FB w2 bf f vf := heap_bl hb2 (heap_al HF.out _)
    obtain ⟨y0, y1, y2, y3, y4, y5, y6⟩ := hX2.cells
    obtain ⟨q0, q1, q2, q3, q4, q5, q6⟩ := hF2.cells
    have hB2 : Below W.heap.size W w2 := below_tr ((Below.refl _ _).alloc (Nat.le_refl _) _) hb2
    have hx2 := hx1.below hB2
    have hv2 := hv1.below hB2
    clear hX2 hF2 hb2 hcc z0 z1 z2 z3 z4 z5 z6 hx1 hv1
    dsimp only
    rw [h0]
    go_wp2
    go_ret
    exact ⟨ret_bool (by simp only [Fact.back, Fact.forth, Fact.same, Fact.like, Fact.num] at h0  ⊢ <;> simp [h0]), hB2⟩
  · cases h1 : ((x.number : Int) == (f.number : Int))
    · go_wp2_with fail
      refine (HC.out _ (HW.out.alloc HW.out.size _)).mono ?_
      rintro e w2 ⟨rfl, hb2⟩
      have hX2 : FB w2 W.heap.size x vb := heap_bl hb2 (heap_new W _)
      have hF2 : FB w2 bf f vf := heap_bl hb2 (heap_al HF.out _)
      obtain ⟨y0, y1, y2, y3, y4, y5, y6⟩ := hX2.cells
      obtain ⟨q0, q1, q2, q3, q4, q5, q6⟩ := hF2.cells
      have hB2 : Below W.heap.size W w2 := below_tr ((Below.refl _ _).alloc (Nat.le_refl _) _) hb2
      have hx2 := hx1.below hB2
      have hv2 := hv1.below hB2
      clear hX2 hF2 hb2 hcc z0 z1 z2 z3 z4 z5 z6 hx1 hv1
      dsimp only
      rw [h0]
      go_wp2
      go_ret
      exact ⟨ret_bool (by simp only [Fact.back, Fact.forth, Fact.same, Fact.like, Fact.num] at h0 h1 ⊢ <;> simp [h0, h1]), hB2⟩
    · go_wp2_with fail
      refine (HC.out _ (HW.out.alloc HW.out.size _)).mono ?_
      rintro e w2 ⟨rfl, hb2⟩
      have hX2 : FB w2 W.heap.size x vb := heap_bl hb2 (heap_new W _)
      have hF2 : FB w2 bf f vf := heap_bl hb2 (heap_al HF.out _)
      obtain ⟨y0, y1, y2, y3, y4, y5, y6⟩ := hX2.cells
      obtain ⟨q0, q1, q2, q3, q4, q5, q6⟩ := hF2.cells
      have hB2 : Below W.heap.size W w2 := below_tr ((Below.refl _ _).alloc (Nat.le_refl _) _) hb2
      have hx2 := hx1.below hB2
      have hv2 := hv1.below hB2
      clear hX2 hF2 hb2 hcc z0 z1 z2 z3 z4 z5 z6 hx1 hv1
      dsimp only
      rw [h0]
      go_wp2
      go_ret
      exact ⟨ret_bool (by simp only [Fact.back, Fact.forth, Fact.same, Fact.like, Fact.num] at h0 h1 ⊢ <;> simp [h0, h1]), hB2⟩

set_option maxHeartbeats 2000000 in
theorem cl11 (bc : Nat) (bf : Nat) (f : Fact) (vf : Value) (w0 : World) (hf : FB w0 bf f vf) (hv : Bs w0 (· < w0.heap.size) vf f.bytes) (hc : w0.heap[bc]? = some (.cells #[.func (.func 19) #[] #[.pointer (some ⟨bf, 0, none⟩)]] 48)) : Holds 36 #[.pointer (some ⟨bc, 0, none⟩), .pointer (some ⟨bf, 0, none⟩)] (fun x => f.forth x && f.fits x) w0 := by
  refine ⟨enters_of Try.func36 (by kernel_rfl) rfl, ?_⟩
  rintro W ⟨x, vb⟩ hW hx
  have hf1 : FB W bf f vf := heap_bb hW hf (heap_lt hf)
  have hlt := heap_lt hf1
  obtain ⟨z0, z1, z2, z3, z4, z5, z6⟩ := hf1.cells
  have hx1 := hx.belowB hW
  have hv1 := hv.belowB hW
  have hc1 := heap_bb hW hc (heap_lt hc)
  have hclt := heap_lt hc1
  have hcc := cell_of hc1 0
  simp at hcc
  have HC := Lib.hid (fun W2 h => (cl2 bf f vf w0 hf hv).2 W2 (x, vb) h hx)
  show Calls Try.prog 36 #[.agg (x.cells vb).toArray, .pointer (some ⟨bc, 0, none⟩), .pointer (some ⟨bf, 0, none⟩)] W _
  clear hf hx hv hc
  have HF := Lib.hid hf1
  clear hf1
  have HW := Lib.hid hW
  clear hc1
  unfold Fact.cells
  go_enter Try.func36, Try.ntmps36
  cases h0 : (f.forth x)
  · go_wp2_with fail
    refine (HC.out _ (HW.out.alloc HW.out.size _)).mono ?_
    rintro e w2 ⟨rfl, hb2⟩
    have hX2 : FB w2 W.heap.size x vb := heap_bl hb2 (heap_new W _)
    have hF2 : FB w2 bf f vf := heap_bl hb2 (heap_al HF.out _)
    obtain ⟨y0, y1, y2, y3, y4, y5, y6⟩ := hX2.cells
    obtain ⟨q0, q1, q2, q3, q4, q5, q6⟩ := hF2.cells
    have hB2 : Below W.heap.size W w2 := below_tr ((Below.refl _ _).alloc (Nat.le_refl _) _) hb2
    have hx2 := hx1.below hB2
    have hv2 := hv1.below hB2
    clear hX2 hF2 hb2 hcc z0 z1 z2 z3 z4 z5 z6 hx1 hv1
    dsimp only
    rw [h0]
    go_wp2
    go_ret
    exact ⟨ret_bool (by simp only [Fact.back, Fact.forth, Fact.same, Fact.like, Fact.num] at h0  ⊢ <;> simp [h0]), hB2⟩
  · cases h1 : (f.fits x)
    · go_wp2_with fail
      refine (HC.out _ (HW.out.alloc HW.out.size _)).mono ?_
      rintro e w2 ⟨rfl, hb2⟩
      have hX2 : FB w2 W.heap.size x vb := heap_bl hb2 (heap_new W _)
      have hF2 : FB w2 bf f vf := heap_bl hb2 (heap_al HF.out _)
      obtain ⟨y0, y1, y2, y3, y4, y5, y6⟩ := hX2.cells
      obtain ⟨q0, q1, q2, q3, q4, q5, q6⟩ := hF2.cells
      have hB2 : Below W.heap.size W w2 := below_tr ((Below.refl _ _).alloc (Nat.le_refl _) _) hb2
      have hx2 := hx1.below hB2
      have hv2 := hv1.below hB2
      clear hX2 hF2 hb2 hcc z0 z1 z2 z3 z4 z5 z6 hx1 hv1
      dsimp only
      rw [h0]
      go_wp2_with fail
      refine (fits_any _ _ _).mono ?_
      rintro e w4 ⟨rfl, rfl⟩
      rw [show (decide (x.number = 0) || decide (x.number = f.number)) = _ from h1]
      go_wp2
      go_ret
      exact ⟨ret_bool (by simp only [Fact.back, Fact.forth, Fact.same, Fact.like, Fact.num] at h0 h1 ⊢ <;> simp [h0, h1]), hB2⟩
    · go_wp2_with fail
      refine (HC.out _ (HW.out.alloc HW.out.size _)).mono ?_
      rintro e w2 ⟨rfl, hb2⟩
      have hX2 : FB w2 W.heap.size x vb := heap_bl hb2 (heap_new W _)
      have hF2 : FB w2 bf f vf := heap_bl hb2 (heap_al HF.out _)
      obtain ⟨y0, y1, y2, y3, y4, y5, y6⟩ := hX2.cells
      obtain ⟨q0, q1, q2, q3, q4, q5, q6⟩ := hF2.cells
      have hB2 : Below W.heap.size W w2 := below_tr ((Below.refl _ _).alloc (Nat.le_refl _) _) hb2
      have hx2 := hx1.below hB2
      have hv2 := hv1.below hB2
      clear hX2 hF2 hb2 hcc z0 z1 z2 z3 z4 z5 z6 hx1 hv1
      dsimp only
      rw [h0]
      go_wp2_with fail
      refine (fits_any _ _ _).mono ?_
      rintro e w4 ⟨rfl, rfl⟩
      rw [show (decide (x.number = 0) || decide (x.number = f.number)) = _ from h1]
      go_wp2
      go_ret
      exact ⟨ret_bool (by simp only [Fact.back, Fact.forth, Fact.same, Fact.like, Fact.num] at h0 h1 ⊢ <;> simp [h0, h1]), hB2⟩

set_option maxHeartbeats 2000000 in
theorem cl12 (bf : Nat) (f : Fact) (vf : Value) (w0 : World) (hf : FB w0 bf f vf) (hv : Bs w0 (· < w0.heap.size) vf f.bytes) : Holds 37 #[.pointer (some ⟨bf, 0, none⟩)] (fun x => x.node == f.node && f.num x) w0 := by
  refine ⟨enters_of Try.func37 (by kernel_rfl) rfl, ?_⟩
  rintro W ⟨x, vb⟩ hW hx
  have hf1 : FB W bf f vf := heap_bb hW hf (heap_lt hf)
  have hlt := heap_lt hf1
  obtain ⟨z0, z1, z2, z3, z4, z5, z6⟩ := hf1.cells
  have hx1 := hx.belowB hW
  have hv1 := hv.belowB hW
  have hBx := (Below.refl W.heap.size W).alloc (Nat.le_refl _) (.cells #[.int .i64 x.kind, .int .i64 x.node, .int .i64 x.frm, .int .u32 (x.number : Nat), .string ⟨x.name.toArray⟩, .int .i64 x.code, vb] 26)
  have hx2 := hx1.below hBx
  have hv2 := hv1.below hBx
  clear hBx
  show Calls Try.prog 37 #[.agg (x.cells vb).toArray, .pointer (some ⟨bf, 0, none⟩)] W _
  clear hf hx hv
  have HF := Lib.hid hf1
  clear hf1
  unfold Fact.cells
  go_enter Try.func37, Try.ntmps37
  cases h0 : (x.node == f.node)
  · go_wp2
    go_ret
    exact ⟨ret_bool (by simp only [Fact.back, Fact.forth, Fact.same, Fact.like, Fact.num] at h0  ⊢ <;> simp [h0]), (Below.refl _ _).alloc (Nat.le_refl _) _⟩
  · cases h1 : ((x.number : Int) == (f.number : Int))
    · go_wp2
      go_ret
      exact ⟨ret_bool (by simp only [Fact.back, Fact.forth, Fact.same, Fact.like, Fact.num] at h0 h1 ⊢ <;> simp [h0, h1]), (Below.refl _ _).alloc (Nat.le_refl _) _⟩
    · go_wp2
      go_ret
      exact ⟨ret_bool (by simp only [Fact.back, Fact.forth, Fact.same, Fact.like, Fact.num] at h0 h1 ⊢ <;> simp [h0, h1]), (Below.refl _ _).alloc (Nat.le_refl _) _⟩

set_option maxHeartbeats 2000000 in
theorem cl13 (bf : Nat) (f : Fact) (vf : Value) (w0 : World) (hf : FB w0 bf f vf) (hv : Bs w0 (· < w0.heap.size) vf f.bytes) : Holds 38 #[.pointer (some ⟨bf, 0, none⟩)] (fun x => x.node == f.frm && f.like x && f.fits x) w0 := by
  refine ⟨enters_of Try.func38 (by kernel_rfl) rfl, ?_⟩
  rintro W ⟨x, vb⟩ hW hx
  have hf1 : FB W bf f vf := heap_bb hW hf (heap_lt hf)
  have hlt := heap_lt hf1
  obtain ⟨z0, z1, z2, z3, z4, z5, z6⟩ := hf1.cells
  have hx1 := hx.belowB hW
  have hv1 := hv.belowB hW
  have hBx := (Below.refl W.heap.size W).alloc (Nat.le_refl _) (.cells #[.int .i64 x.kind, .int .i64 x.node, .int .i64 x.frm, .int .u32 (x.number : Nat), .string ⟨x.name.toArray⟩, .int .i64 x.code, vb] 26)
  have hx2 := hx1.below hBx
  have hv2 := hv1.below hBx
  clear hBx
  show Calls Try.prog 38 #[.agg (x.cells vb).toArray, .pointer (some ⟨bf, 0, none⟩)] W _
  clear hf hx hv
  have HF := Lib.hid hf1
  clear hf1
  unfold Fact.cells
  go_enter Try.func38, Try.ntmps38
  cases h0 : (x.node == f.frm)
  · go_wp2
    go_ret
    exact ⟨ret_bool (by simp only [Fact.back, Fact.forth, Fact.same, Fact.like, Fact.num] at h0  ⊢ <;> simp [h0]), (Below.refl _ _).alloc (Nat.le_refl _) _⟩
  · cases h1 : (x.name == f.name)
    · go_wp2
      go_ret
      exact ⟨ret_bool (by simp only [Fact.back, Fact.forth, Fact.same, Fact.like, Fact.num] at h0 h1 ⊢ <;> simp [h0, h1]), (Below.refl _ _).alloc (Nat.le_refl _) _⟩
    · cases h2 : (x.bytes == f.bytes)
      · go_wp2_with fail
        refine (beq_any _ _ _ _ _ _ _ hx2 hv2).mono ?_
        rintro e w3 ⟨rfl, rfl⟩
        have hX2 : FB (W.alloc (.cells #[.int .i64 x.kind, .int .i64 x.node, .int .i64 x.frm, .int .u32 (x.number : Nat), .string ⟨x.name.toArray⟩, .int .i64 x.code, vb] 26)) W.heap.size x vb := heap_new W _
        have hF2 : FB (W.alloc (.cells #[.int .i64 x.kind, .int .i64 x.node, .int .i64 x.frm, .int .u32 (x.number : Nat), .string ⟨x.name.toArray⟩, .int .i64 x.code, vb] 26)) bf f vf := heap_al HF.out _
        obtain ⟨y0, y1, y2, y3, y4, y5, y6⟩ := hX2.cells
        obtain ⟨q0, q1, q2, q3, q4, q5, q6⟩ := hF2.cells
        clear hX2 hF2
        rw [h2]
        go_wp2
        go_ret
        exact ⟨ret_bool (by simp only [Fact.back, Fact.forth, Fact.same, Fact.like, Fact.num] at h0 h1 h2 ⊢ <;> simp [h0, h1, h2]), (Below.refl _ _).alloc (Nat.le_refl _) _⟩
      · cases h3 : (f.fits x)
        · go_wp2_with fail
          refine (beq_any _ _ _ _ _ _ _ hx2 hv2).mono ?_
          rintro e w3 ⟨rfl, rfl⟩
          have hX2 : FB (W.alloc (.cells #[.int .i64 x.kind, .int .i64 x.node, .int .i64 x.frm, .int .u32 (x.number : Nat), .string ⟨x.name.toArray⟩, .int .i64 x.code, vb] 26)) W.heap.size x vb := heap_new W _
          have hF2 : FB (W.alloc (.cells #[.int .i64 x.kind, .int .i64 x.node, .int .i64 x.frm, .int .u32 (x.number : Nat), .string ⟨x.name.toArray⟩, .int .i64 x.code, vb] 26)) bf f vf := heap_al HF.out _
          obtain ⟨y0, y1, y2, y3, y4, y5, y6⟩ := hX2.cells
          obtain ⟨q0, q1, q2, q3, q4, q5, q6⟩ := hF2.cells
          clear hX2 hF2
          rw [h2]
          go_wp2_with fail
          refine (fits_any _ _ _).mono ?_
          rintro e w4 ⟨rfl, rfl⟩
          rw [show (decide (x.number = 0) || decide (x.number = f.number)) = _ from h3]
          go_wp2
          go_ret
          exact ⟨ret_bool (by simp only [Fact.back, Fact.forth, Fact.same, Fact.like, Fact.num] at h0 h1 h2 h3 ⊢ <;> simp [h0, h1, h2, h3]), (Below.refl _ _).alloc (Nat.le_refl _) _⟩
        · go_wp2_with fail
          refine (beq_any _ _ _ _ _ _ _ hx2 hv2).mono ?_
          rintro e w3 ⟨rfl, rfl⟩
          have hX2 : FB (W.alloc (.cells #[.int .i64 x.kind, .int .i64 x.node, .int .i64 x.frm, .int .u32 (x.number : Nat), .string ⟨x.name.toArray⟩, .int .i64 x.code, vb] 26)) W.heap.size x vb := heap_new W _
          have hF2 : FB (W.alloc (.cells #[.int .i64 x.kind, .int .i64 x.node, .int .i64 x.frm, .int .u32 (x.number : Nat), .string ⟨x.name.toArray⟩, .int .i64 x.code, vb] 26)) bf f vf := heap_al HF.out _
          obtain ⟨y0, y1, y2, y3, y4, y5, y6⟩ := hX2.cells
          obtain ⟨q0, q1, q2, q3, q4, q5, q6⟩ := hF2.cells
          clear hX2 hF2
          rw [h2]
          go_wp2_with fail
          refine (fits_any _ _ _).mono ?_
          rintro e w4 ⟨rfl, rfl⟩
          rw [show (decide (x.number = 0) || decide (x.number = f.number)) = _ from h3]
          go_wp2
          go_ret
          exact ⟨ret_bool (by simp only [Fact.back, Fact.forth, Fact.same, Fact.like, Fact.num] at h0 h1 h2 h3 ⊢ <;> simp [h0, h1, h2, h3]), (Below.refl _ _).alloc (Nat.le_refl _) _⟩

set_option maxHeartbeats 2000000 in
theorem cl14 (bc : Nat) (bf : Nat) (f : Fact) (vf : Value) (w0 : World) (hf : FB w0 bf f vf) (hv : Bs w0 (· < w0.heap.size) vf f.bytes) (hc : w0.heap[bc]? = some (.cells #[.func (.func 19) #[] #[.pointer (some ⟨bf, 0, none⟩)]] 48)) : Holds 39 #[.pointer (some ⟨bc, 0, none⟩), .pointer (some ⟨bf, 0, none⟩)] f.same w0 := by
  refine ⟨enters_of Try.func39 (by kernel_rfl) rfl, ?_⟩
  rintro W ⟨x, vb⟩ hW hx
  have hf1 : FB W bf f vf := heap_bb hW hf (heap_lt hf)
  have hlt := heap_lt hf1
  obtain ⟨z0, z1, z2, z3, z4, z5, z6⟩ := hf1.cells
  have hx1 := hx.belowB hW
  have hv1 := hv.belowB hW
  have hc1 := heap_bb hW hc (heap_lt hc)
  have hclt := heap_lt hc1
  have hcc := cell_of hc1 0
  simp at hcc
  have HC := Lib.hid (fun W2 h => (cl2 bf f vf w0 hf hv).2 W2 (x, vb) h hx)
  show Calls Try.prog 39 #[.agg (x.cells vb).toArray, .pointer (some ⟨bc, 0, none⟩), .pointer (some ⟨bf, 0, none⟩)] W _
  clear hf hx hv hc
  have HF := Lib.hid hf1
  clear hf1
  have HW := Lib.hid hW
  clear hc1
  unfold Fact.cells
  go_enter Try.func39, Try.ntmps39
  cases h0 : (f.forth x)
  · go_wp2_with fail
    refine (HC.out _ (HW.out.alloc HW.out.size _)).mono ?_
    rintro e w2 ⟨rfl, hb2⟩
    have hX2 : FB w2 W.heap.size x vb := heap_bl hb2 (heap_new W _)
    have hF2 : FB w2 bf f vf := heap_bl hb2 (heap_al HF.out _)
    obtain ⟨y0, y1, y2, y3, y4, y5, y6⟩ := hX2.cells
    obtain ⟨q0, q1, q2, q3, q4, q5, q6⟩ := hF2.cells
    have hB2 : Below W.heap.size W w2 := below_tr ((Below.refl _ _).alloc (Nat.le_refl _) _) hb2
    have hx2 := hx1.below hB2
    have hv2 := hv1.below hB2
    clear hX2 hF2 hb2 hcc z0 z1 z2 z3 z4 z5 z6 hx1 hv1
    dsimp only
    rw [h0]
    go_wp2
    go_ret
    exact ⟨ret_bool (by simp only [Fact.back, Fact.forth, Fact.same, Fact.like, Fact.num] at h0  ⊢ <;> simp [h0]), hB2⟩
  · cases h1 : (x.name == f.name)
    · go_wp2_with fail
      refine (HC.out _ (HW.out.alloc HW.out.size _)).mono ?_
      rintro e w2 ⟨rfl, hb2⟩
      have hX2 : FB w2 W.heap.size x vb := heap_bl hb2 (heap_new W _)
      have hF2 : FB w2 bf f vf := heap_bl hb2 (heap_al HF.out _)
      obtain ⟨y0, y1, y2, y3, y4, y5, y6⟩ := hX2.cells
      obtain ⟨q0, q1, q2, q3, q4, q5, q6⟩ := hF2.cells
      have hB2 : Below W.heap.size W w2 := below_tr ((Below.refl _ _).alloc (Nat.le_refl _) _) hb2
      have hx2 := hx1.below hB2
      have hv2 := hv1.below hB2
      clear hX2 hF2 hb2 hcc z0 z1 z2 z3 z4 z5 z6 hx1 hv1
      dsimp only
      rw [h0]
      go_wp2
      go_ret
      exact ⟨ret_bool (by simp only [Fact.back, Fact.forth, Fact.same, Fact.like, Fact.num] at h0 h1 ⊢ <;> simp [h0, h1]), hB2⟩
    · go_wp2_with fail
      refine (HC.out _ (HW.out.alloc HW.out.size _)).mono ?_
      rintro e w2 ⟨rfl, hb2⟩
      have hX2 : FB w2 W.heap.size x vb := heap_bl hb2 (heap_new W _)
      have hF2 : FB w2 bf f vf := heap_bl hb2 (heap_al HF.out _)
      obtain ⟨y0, y1, y2, y3, y4, y5, y6⟩ := hX2.cells
      obtain ⟨q0, q1, q2, q3, q4, q5, q6⟩ := hF2.cells
      have hB2 : Below W.heap.size W w2 := below_tr ((Below.refl _ _).alloc (Nat.le_refl _) _) hb2
      have hx2 := hx1.below hB2
      have hv2 := hv1.below hB2
      clear hX2 hF2 hb2 hcc z0 z1 z2 z3 z4 z5 z6 hx1 hv1
      dsimp only
      rw [h0]
      go_wp2
      go_ret
      exact ⟨ret_bool (by simp only [Fact.back, Fact.forth, Fact.same, Fact.like, Fact.num] at h0 h1 ⊢ <;> simp [h0, h1]), hB2⟩

set_option maxHeartbeats 2000000 in
theorem cl15 (bc bt : Nat) (bf : Nat) (f : Fact) (vf : Value) (w0 : World) (hf : FB w0 bf f vf) (hv : Bs w0 (· < w0.heap.size) vf f.bytes) (hc : w0.heap[bc]? = some (.cells #[.func (.func 39) #[] #[.pointer (some ⟨bt, 0, none⟩), .pointer (some ⟨bf, 0, none⟩)]] 48)) (ht : w0.heap[bt]? = some (.cells #[.func (.func 19) #[] #[.pointer (some ⟨bf, 0, none⟩)]] 48)) : Holds 40 #[.pointer (some ⟨bc, 0, none⟩), .pointer (some ⟨bf, 0, none⟩)] (fun x => f.same x && decide ((f.number : Int) ≤ x.number)) w0 := by
  refine ⟨enters_of Try.func40 (by kernel_rfl) rfl, ?_⟩
  rintro W ⟨x, vb⟩ hW hx
  have hf1 : FB W bf f vf := heap_bb hW hf (heap_lt hf)
  have hlt := heap_lt hf1
  obtain ⟨z0, z1, z2, z3, z4, z5, z6⟩ := hf1.cells
  have hx1 := hx.belowB hW
  have hv1 := hv.belowB hW
  have hc1 := heap_bb hW hc (heap_lt hc)
  have hclt := heap_lt hc1
  have hcc := cell_of hc1 0
  simp at hcc
  have HC := Lib.hid (fun W2 h => (cl14 bt bf f vf w0 hf hv ht).2 W2 (x, vb) h hx)
  show Calls Try.prog 40 #[.agg (x.cells vb).toArray, .pointer (some ⟨bc, 0, none⟩), .pointer (some ⟨bf, 0, none⟩)] W _
  clear hf hx hv hc ht
  have HF := Lib.hid hf1
  clear hf1
  have HW := Lib.hid hW
  clear hc1
  unfold Fact.cells
  go_enter Try.func40, Try.ntmps40
  cases h0 : (f.same x)
  · go_wp2_with fail
    refine (HC.out _ (HW.out.alloc HW.out.size _)).mono ?_
    rintro e w2 ⟨rfl, hb2⟩
    have hX2 : FB w2 W.heap.size x vb := heap_bl hb2 (heap_new W _)
    have hF2 : FB w2 bf f vf := heap_bl hb2 (heap_al HF.out _)
    obtain ⟨y0, y1, y2, y3, y4, y5, y6⟩ := hX2.cells
    obtain ⟨q0, q1, q2, q3, q4, q5, q6⟩ := hF2.cells
    have hB2 : Below W.heap.size W w2 := below_tr ((Below.refl _ _).alloc (Nat.le_refl _) _) hb2
    have hx2 := hx1.below hB2
    have hv2 := hv1.below hB2
    clear hX2 hF2 hb2 hcc z0 z1 z2 z3 z4 z5 z6 hx1 hv1
    dsimp only
    rw [h0]
    go_wp2
    go_ret
    exact ⟨ret_bool (by simp only [Fact.back, Fact.forth, Fact.same, Fact.like, Fact.num] at h0  ⊢ <;> simp [h0]), hB2⟩
  · cases h1 : (decide ((f.number : Int) ≤ x.number))
    · go_wp2_with fail
      refine (HC.out _ (HW.out.alloc HW.out.size _)).mono ?_
      rintro e w2 ⟨rfl, hb2⟩
      have hX2 : FB w2 W.heap.size x vb := heap_bl hb2 (heap_new W _)
      have hF2 : FB w2 bf f vf := heap_bl hb2 (heap_al HF.out _)
      obtain ⟨y0, y1, y2, y3, y4, y5, y6⟩ := hX2.cells
      obtain ⟨q0, q1, q2, q3, q4, q5, q6⟩ := hF2.cells
      have hB2 : Below W.heap.size W w2 := below_tr ((Below.refl _ _).alloc (Nat.le_refl _) _) hb2
      have hx2 := hx1.below hB2
      have hv2 := hv1.below hB2
      clear hX2 hF2 hb2 hcc z0 z1 z2 z3 z4 z5 z6 hx1 hv1
      dsimp only
      rw [h0]
      go_wp2
      go_ret
      exact ⟨ret_bool (by simp only [Fact.back, Fact.forth, Fact.same, Fact.like, Fact.num] at h0 h1 ⊢; simp at h1; simp [h0]; omega), hB2⟩
    · go_wp2_with fail
      refine (HC.out _ (HW.out.alloc HW.out.size _)).mono ?_
      rintro e w2 ⟨rfl, hb2⟩
      have hX2 : FB w2 W.heap.size x vb := heap_bl hb2 (heap_new W _)
      have hF2 : FB w2 bf f vf := heap_bl hb2 (heap_al HF.out _)
      obtain ⟨y0, y1, y2, y3, y4, y5, y6⟩ := hX2.cells
      obtain ⟨q0, q1, q2, q3, q4, q5, q6⟩ := hF2.cells
      have hB2 : Below W.heap.size W w2 := below_tr ((Below.refl _ _).alloc (Nat.le_refl _) _) hb2
      have hx2 := hx1.below hB2
      have hv2 := hv1.below hB2
      clear hX2 hF2 hb2 hcc z0 z1 z2 z3 z4 z5 z6 hx1 hv1
      dsimp only
      rw [h0]
      go_wp2
      go_ret
      exact ⟨ret_bool (by simp only [Fact.back, Fact.forth, Fact.same, Fact.like, Fact.num] at h0 h1 ⊢; simp at h1; simp [h0]; omega), hB2⟩

set_option maxHeartbeats 2000000 in
theorem cl16 (bc : Nat) (bf : Nat) (f : Fact) (vf : Value) (w0 : World) (hf : FB w0 bf f vf) (hv : Bs w0 (· < w0.heap.size) vf f.bytes) (hc : w0.heap[bc]? = some (.cells #[.func (.func 18) #[] #[.pointer (some ⟨bf, 0, none⟩)]] 48)) : Holds 41 #[.pointer (some ⟨bc, 0, none⟩), .pointer (some ⟨bf, 0, none⟩)] (fun x => f.back x && f.fits x) w0 := by
  refine ⟨enters_of Try.func41 (by kernel_rfl) rfl, ?_⟩
  rintro W ⟨x, vb⟩ hW hx
  have hf1 : FB W bf f vf := heap_bb hW hf (heap_lt hf)
  have hlt := heap_lt hf1
  obtain ⟨z0, z1, z2, z3, z4, z5, z6⟩ := hf1.cells
  have hx1 := hx.belowB hW
  have hv1 := hv.belowB hW
  have hc1 := heap_bb hW hc (heap_lt hc)
  have hclt := heap_lt hc1
  have hcc := cell_of hc1 0
  simp at hcc
  have HC := Lib.hid (fun W2 h => (cl1 bf f vf w0 hf hv).2 W2 (x, vb) h hx)
  show Calls Try.prog 41 #[.agg (x.cells vb).toArray, .pointer (some ⟨bc, 0, none⟩), .pointer (some ⟨bf, 0, none⟩)] W _
  clear hf hx hv hc
  have HF := Lib.hid hf1
  clear hf1
  have HW := Lib.hid hW
  clear hc1
  unfold Fact.cells
  go_enter Try.func41, Try.ntmps41
  cases h0 : (f.back x)
  · go_wp2_with fail
    refine (HC.out _ (HW.out.alloc HW.out.size _)).mono ?_
    rintro e w2 ⟨rfl, hb2⟩
    have hX2 : FB w2 W.heap.size x vb := heap_bl hb2 (heap_new W _)
    have hF2 : FB w2 bf f vf := heap_bl hb2 (heap_al HF.out _)
    obtain ⟨y0, y1, y2, y3, y4, y5, y6⟩ := hX2.cells
    obtain ⟨q0, q1, q2, q3, q4, q5, q6⟩ := hF2.cells
    have hB2 : Below W.heap.size W w2 := below_tr ((Below.refl _ _).alloc (Nat.le_refl _) _) hb2
    have hx2 := hx1.below hB2
    have hv2 := hv1.below hB2
    clear hX2 hF2 hb2 hcc z0 z1 z2 z3 z4 z5 z6 hx1 hv1
    dsimp only
    rw [h0]
    go_wp2
    go_ret
    exact ⟨ret_bool (by simp only [Fact.back, Fact.forth, Fact.same, Fact.like, Fact.num] at h0  ⊢ <;> simp [h0]), hB2⟩
  · cases h1 : (f.fits x)
    · go_wp2_with fail
      refine (HC.out _ (HW.out.alloc HW.out.size _)).mono ?_
      rintro e w2 ⟨rfl, hb2⟩
      have hX2 : FB w2 W.heap.size x vb := heap_bl hb2 (heap_new W _)
      have hF2 : FB w2 bf f vf := heap_bl hb2 (heap_al HF.out _)
      obtain ⟨y0, y1, y2, y3, y4, y5, y6⟩ := hX2.cells
      obtain ⟨q0, q1, q2, q3, q4, q5, q6⟩ := hF2.cells
      have hB2 : Below W.heap.size W w2 := below_tr ((Below.refl _ _).alloc (Nat.le_refl _) _) hb2
      have hx2 := hx1.below hB2
      have hv2 := hv1.below hB2
      clear hX2 hF2 hb2 hcc z0 z1 z2 z3 z4 z5 z6 hx1 hv1
      dsimp only
      rw [h0]
      go_wp2_with fail
      refine (fits_any _ _ _).mono ?_
      rintro e w4 ⟨rfl, rfl⟩
      rw [show (decide (x.number = 0) || decide (x.number = f.number)) = _ from h1]
      go_wp2
      go_ret
      exact ⟨ret_bool (by simp only [Fact.back, Fact.forth, Fact.same, Fact.like, Fact.num] at h0 h1 ⊢ <;> simp [h0, h1]), hB2⟩
    · go_wp2_with fail
      refine (HC.out _ (HW.out.alloc HW.out.size _)).mono ?_
      rintro e w2 ⟨rfl, hb2⟩
      have hX2 : FB w2 W.heap.size x vb := heap_bl hb2 (heap_new W _)
      have hF2 : FB w2 bf f vf := heap_bl hb2 (heap_al HF.out _)
      obtain ⟨y0, y1, y2, y3, y4, y5, y6⟩ := hX2.cells
      obtain ⟨q0, q1, q2, q3, q4, q5, q6⟩ := hF2.cells
      have hB2 : Below W.heap.size W w2 := below_tr ((Below.refl _ _).alloc (Nat.le_refl _) _) hb2
      have hx2 := hx1.below hB2
      have hv2 := hv1.below hB2
      clear hX2 hF2 hb2 hcc z0 z1 z2 z3 z4 z5 z6 hx1 hv1
      dsimp only
      rw [h0]
      go_wp2_with fail
      refine (fits_any _ _ _).mono ?_
      rintro e w4 ⟨rfl, rfl⟩
      rw [show (decide (x.number = 0) || decide (x.number = f.number)) = _ from h1]
      go_wp2
      go_ret
      exact ⟨ret_bool (by simp only [Fact.back, Fact.forth, Fact.same, Fact.like, Fact.num] at h0 h1 ⊢ <;> simp [h0, h1]), hB2⟩

set_option maxHeartbeats 2000000 in
theorem cl17 (bc : Nat) (bf : Nat) (f : Fact) (vf : Value) (w0 : World) (hf : FB w0 bf f vf) (hv : Bs w0 (· < w0.heap.size) vf f.bytes) (hc : w0.heap[bc]? = some (.cells #[.func (.func 18) #[] #[.pointer (some ⟨bf, 0, none⟩)]] 48)) : Holds 42 #[.pointer (some ⟨bc, 0, none⟩), .pointer (some ⟨bf, 0, none⟩)] (fun x => f.back x && f.num x && x.code == f.code) w0 := by
  refine ⟨enters_of Try.func42 (by kernel_rfl) rfl, ?_⟩
  rintro W ⟨x, vb⟩ hW hx
  have hf1 : FB W bf f vf := heap_bb hW hf (heap_lt hf)
  have hlt := heap_lt hf1
  obtain ⟨z0, z1, z2, z3, z4, z5, z6⟩ := hf1.cells
  have hx1 := hx.belowB hW
  have hv1 := hv.belowB hW
  have hc1 := heap_bb hW hc (heap_lt hc)
  have hclt := heap_lt hc1
  have hcc := cell_of hc1 0
  simp at hcc
  have HC := Lib.hid (fun W2 h => (cl1 bf f vf w0 hf hv).2 W2 (x, vb) h hx)
  show Calls Try.prog 42 #[.agg (x.cells vb).toArray, .pointer (some ⟨bc, 0, none⟩), .pointer (some ⟨bf, 0, none⟩)] W _
  clear hf hx hv hc
  have HF := Lib.hid hf1
  clear hf1
  have HW := Lib.hid hW
  clear hc1
  unfold Fact.cells
  go_enter Try.func42, Try.ntmps42
  cases h0 : (f.back x)
  · go_wp2_with fail
    refine (HC.out _ (HW.out.alloc HW.out.size _)).mono ?_
    rintro e w2 ⟨rfl, hb2⟩
    have hX2 : FB w2 W.heap.size x vb := heap_bl hb2 (heap_new W _)
    have hF2 : FB w2 bf f vf := heap_bl hb2 (heap_al HF.out _)
    obtain ⟨y0, y1, y2, y3, y4, y5, y6⟩ := hX2.cells
    obtain ⟨q0, q1, q2, q3, q4, q5, q6⟩ := hF2.cells
    have hB2 : Below W.heap.size W w2 := below_tr ((Below.refl _ _).alloc (Nat.le_refl _) _) hb2
    have hx2 := hx1.below hB2
    have hv2 := hv1.below hB2
    clear hX2 hF2 hb2 hcc z0 z1 z2 z3 z4 z5 z6 hx1 hv1
    dsimp only
    rw [h0]
    go_wp2
    go_ret
    exact ⟨ret_bool (by simp only [Fact.back, Fact.forth, Fact.same, Fact.like, Fact.num] at h0  ⊢ <;> simp [h0]), hB2⟩
  · cases h1 : ((x.number : Int) == (f.number : Int))
    · go_wp2_with fail
      refine (HC.out _ (HW.out.alloc HW.out.size _)).mono ?_
      rintro e w2 ⟨rfl, hb2⟩
      have hX2 : FB w2 W.heap.size x vb := heap_bl hb2 (heap_new W _)
      have hF2 : FB w2 bf f vf := heap_bl hb2 (heap_al HF.out _)
      obtain ⟨y0, y1, y2, y3, y4, y5, y6⟩ := hX2.cells
      obtain ⟨q0, q1, q2, q3, q4, q5, q6⟩ := hF2.cells
      have hB2 : Below W.heap.size W w2 := below_tr ((Below.refl _ _).alloc (Nat.le_refl _) _) hb2
      have hx2 := hx1.below hB2
      have hv2 := hv1.below hB2
      clear hX2 hF2 hb2 hcc z0 z1 z2 z3 z4 z5 z6 hx1 hv1
      dsimp only
      rw [h0]
      go_wp2
      go_ret
      exact ⟨ret_bool (by simp only [Fact.back, Fact.forth, Fact.same, Fact.like, Fact.num] at h0 h1 ⊢ <;> simp [h0, h1]), hB2⟩
    · cases h2 : (x.code == f.code)
      · go_wp2_with fail
        refine (HC.out _ (HW.out.alloc HW.out.size _)).mono ?_
        rintro e w2 ⟨rfl, hb2⟩
        have hX2 : FB w2 W.heap.size x vb := heap_bl hb2 (heap_new W _)
        have hF2 : FB w2 bf f vf := heap_bl hb2 (heap_al HF.out _)
        obtain ⟨y0, y1, y2, y3, y4, y5, y6⟩ := hX2.cells
        obtain ⟨q0, q1, q2, q3, q4, q5, q6⟩ := hF2.cells
        have hB2 : Below W.heap.size W w2 := below_tr ((Below.refl _ _).alloc (Nat.le_refl _) _) hb2
        have hx2 := hx1.below hB2
        have hv2 := hv1.below hB2
        clear hX2 hF2 hb2 hcc z0 z1 z2 z3 z4 z5 z6 hx1 hv1
        dsimp only
        rw [h0]
        go_wp2
        go_ret
        exact ⟨ret_bool (by simp only [Fact.back, Fact.forth, Fact.same, Fact.like, Fact.num] at h0 h1 h2 ⊢ <;> simp [h0, h1, h2]), hB2⟩
      · go_wp2_with fail
        refine (HC.out _ (HW.out.alloc HW.out.size _)).mono ?_
        rintro e w2 ⟨rfl, hb2⟩
        have hX2 : FB w2 W.heap.size x vb := heap_bl hb2 (heap_new W _)
        have hF2 : FB w2 bf f vf := heap_bl hb2 (heap_al HF.out _)
        obtain ⟨y0, y1, y2, y3, y4, y5, y6⟩ := hX2.cells
        obtain ⟨q0, q1, q2, q3, q4, q5, q6⟩ := hF2.cells
        have hB2 : Below W.heap.size W w2 := below_tr ((Below.refl _ _).alloc (Nat.le_refl _) _) hb2
        have hx2 := hx1.below hB2
        have hv2 := hv1.below hB2
        clear hX2 hF2 hb2 hcc z0 z1 z2 z3 z4 z5 z6 hx1 hv1
        dsimp only
        rw [h0]
        go_wp2
        go_ret
        exact ⟨ret_bool (by simp only [Fact.back, Fact.forth, Fact.same, Fact.like, Fact.num] at h0 h1 h2 ⊢ <;> simp [h0, h1, h2]), hB2⟩

set_option maxHeartbeats 2000000 in
theorem cl18 (bc : Nat) (bf : Nat) (f : Fact) (vf : Value) (w0 : World) (hf : FB w0 bf f vf) (hv : Bs w0 (· < w0.heap.size) vf f.bytes) (hc : w0.heap[bc]? = some (.cells #[.func (.func 19) #[] #[.pointer (some ⟨bf, 0, none⟩)]] 48)) : Holds 43 #[.pointer (some ⟨bc, 0, none⟩), .pointer (some ⟨bf, 0, none⟩)] (fun x => f.forth x && f.fits x) w0 := by
  refine ⟨enters_of Try.func43 (by kernel_rfl) rfl, ?_⟩
  rintro W ⟨x, vb⟩ hW hx
  have hf1 : FB W bf f vf := heap_bb hW hf (heap_lt hf)
  have hlt := heap_lt hf1
  obtain ⟨z0, z1, z2, z3, z4, z5, z6⟩ := hf1.cells
  have hx1 := hx.belowB hW
  have hv1 := hv.belowB hW
  have hc1 := heap_bb hW hc (heap_lt hc)
  have hclt := heap_lt hc1
  have hcc := cell_of hc1 0
  simp at hcc
  have HC := Lib.hid (fun W2 h => (cl2 bf f vf w0 hf hv).2 W2 (x, vb) h hx)
  show Calls Try.prog 43 #[.agg (x.cells vb).toArray, .pointer (some ⟨bc, 0, none⟩), .pointer (some ⟨bf, 0, none⟩)] W _
  clear hf hx hv hc
  have HF := Lib.hid hf1
  clear hf1
  have HW := Lib.hid hW
  clear hc1
  unfold Fact.cells
  go_enter Try.func43, Try.ntmps43
  cases h0 : (f.forth x)
  · go_wp2_with fail
    refine (HC.out _ (HW.out.alloc HW.out.size _)).mono ?_
    rintro e w2 ⟨rfl, hb2⟩
    have hX2 : FB w2 W.heap.size x vb := heap_bl hb2 (heap_new W _)
    have hF2 : FB w2 bf f vf := heap_bl hb2 (heap_al HF.out _)
    obtain ⟨y0, y1, y2, y3, y4, y5, y6⟩ := hX2.cells
    obtain ⟨q0, q1, q2, q3, q4, q5, q6⟩ := hF2.cells
    have hB2 : Below W.heap.size W w2 := below_tr ((Below.refl _ _).alloc (Nat.le_refl _) _) hb2
    have hx2 := hx1.below hB2
    have hv2 := hv1.below hB2
    clear hX2 hF2 hb2 hcc z0 z1 z2 z3 z4 z5 z6 hx1 hv1
    dsimp only
    rw [h0]
    go_wp2
    go_ret
    exact ⟨ret_bool (by simp only [Fact.back, Fact.forth, Fact.same, Fact.like, Fact.num] at h0  ⊢ <;> simp [h0]), hB2⟩
  · cases h1 : (f.fits x)
    · go_wp2_with fail
      refine (HC.out _ (HW.out.alloc HW.out.size _)).mono ?_
      rintro e w2 ⟨rfl, hb2⟩
      have hX2 : FB w2 W.heap.size x vb := heap_bl hb2 (heap_new W _)
      have hF2 : FB w2 bf f vf := heap_bl hb2 (heap_al HF.out _)
      obtain ⟨y0, y1, y2, y3, y4, y5, y6⟩ := hX2.cells
      obtain ⟨q0, q1, q2, q3, q4, q5, q6⟩ := hF2.cells
      have hB2 : Below W.heap.size W w2 := below_tr ((Below.refl _ _).alloc (Nat.le_refl _) _) hb2
      have hx2 := hx1.below hB2
      have hv2 := hv1.below hB2
      clear hX2 hF2 hb2 hcc z0 z1 z2 z3 z4 z5 z6 hx1 hv1
      dsimp only
      rw [h0]
      go_wp2_with fail
      refine (fits_any _ _ _).mono ?_
      rintro e w4 ⟨rfl, rfl⟩
      rw [show (decide (x.number = 0) || decide (x.number = f.number)) = _ from h1]
      go_wp2
      go_ret
      exact ⟨ret_bool (by simp only [Fact.back, Fact.forth, Fact.same, Fact.like, Fact.num] at h0 h1 ⊢ <;> simp [h0, h1]), hB2⟩
    · go_wp2_with fail
      refine (HC.out _ (HW.out.alloc HW.out.size _)).mono ?_
      rintro e w2 ⟨rfl, hb2⟩
      have hX2 : FB w2 W.heap.size x vb := heap_bl hb2 (heap_new W _)
      have hF2 : FB w2 bf f vf := heap_bl hb2 (heap_al HF.out _)
      obtain ⟨y0, y1, y2, y3, y4, y5, y6⟩ := hX2.cells
      obtain ⟨q0, q1, q2, q3, q4, q5, q6⟩ := hF2.cells
      have hB2 : Below W.heap.size W w2 := below_tr ((Below.refl _ _).alloc (Nat.le_refl _) _) hb2
      have hx2 := hx1.below hB2
      have hv2 := hv1.below hB2
      clear hX2 hF2 hb2 hcc z0 z1 z2 z3 z4 z5 z6 hx1 hv1
      dsimp only
      rw [h0]
      go_wp2_with fail
      refine (fits_any _ _ _).mono ?_
      rintro e w4 ⟨rfl, rfl⟩
      rw [show (decide (x.number = 0) || decide (x.number = f.number)) = _ from h1]
      go_wp2
      go_ret
      exact ⟨ret_bool (by simp only [Fact.back, Fact.forth, Fact.same, Fact.like, Fact.num] at h0 h1 ⊢ <;> simp [h0, h1]), hB2⟩

set_option maxHeartbeats 2000000 in
theorem cl19 (bc : Nat) (bf : Nat) (f : Fact) (vf : Value) (w0 : World) (hf : FB w0 bf f vf) (hv : Bs w0 (· < w0.heap.size) vf f.bytes) (hc : w0.heap[bc]? = some (.cells #[.func (.func 19) #[] #[.pointer (some ⟨bf, 0, none⟩)]] 48)) : Holds 44 #[.pointer (some ⟨bc, 0, none⟩), .pointer (some ⟨bf, 0, none⟩)] (fun x => f.forth x && f.num x) w0 := by
  refine ⟨enters_of Try.func44 (by kernel_rfl) rfl, ?_⟩
  rintro W ⟨x, vb⟩ hW hx
  have hf1 : FB W bf f vf := heap_bb hW hf (heap_lt hf)
  have hlt := heap_lt hf1
  obtain ⟨z0, z1, z2, z3, z4, z5, z6⟩ := hf1.cells
  have hx1 := hx.belowB hW
  have hv1 := hv.belowB hW
  have hc1 := heap_bb hW hc (heap_lt hc)
  have hclt := heap_lt hc1
  have hcc := cell_of hc1 0
  simp at hcc
  have HC := Lib.hid (fun W2 h => (cl2 bf f vf w0 hf hv).2 W2 (x, vb) h hx)
  show Calls Try.prog 44 #[.agg (x.cells vb).toArray, .pointer (some ⟨bc, 0, none⟩), .pointer (some ⟨bf, 0, none⟩)] W _
  clear hf hx hv hc
  have HF := Lib.hid hf1
  clear hf1
  have HW := Lib.hid hW
  clear hc1
  unfold Fact.cells
  go_enter Try.func44, Try.ntmps44
  cases h0 : (f.forth x)
  · go_wp2_with fail
    refine (HC.out _ (HW.out.alloc HW.out.size _)).mono ?_
    rintro e w2 ⟨rfl, hb2⟩
    have hX2 : FB w2 W.heap.size x vb := heap_bl hb2 (heap_new W _)
    have hF2 : FB w2 bf f vf := heap_bl hb2 (heap_al HF.out _)
    obtain ⟨y0, y1, y2, y3, y4, y5, y6⟩ := hX2.cells
    obtain ⟨q0, q1, q2, q3, q4, q5, q6⟩ := hF2.cells
    have hB2 : Below W.heap.size W w2 := below_tr ((Below.refl _ _).alloc (Nat.le_refl _) _) hb2
    have hx2 := hx1.below hB2
    have hv2 := hv1.below hB2
    clear hX2 hF2 hb2 hcc z0 z1 z2 z3 z4 z5 z6 hx1 hv1
    dsimp only
    rw [h0]
    go_wp2
    go_ret
    exact ⟨ret_bool (by simp only [Fact.back, Fact.forth, Fact.same, Fact.like, Fact.num] at h0  ⊢ <;> simp [h0]), hB2⟩
  · cases h1 : ((x.number : Int) == (f.number : Int))
    · go_wp2_with fail
      refine (HC.out _ (HW.out.alloc HW.out.size _)).mono ?_
      rintro e w2 ⟨rfl, hb2⟩
      have hX2 : FB w2 W.heap.size x vb := heap_bl hb2 (heap_new W _)
      have hF2 : FB w2 bf f vf := heap_bl hb2 (heap_al HF.out _)
      obtain ⟨y0, y1, y2, y3, y4, y5, y6⟩ := hX2.cells
      obtain ⟨q0, q1, q2, q3, q4, q5, q6⟩ := hF2.cells
      have hB2 : Below W.heap.size W w2 := below_tr ((Below.refl _ _).alloc (Nat.le_refl _) _) hb2
      have hx2 := hx1.below hB2
      have hv2 := hv1.below hB2
      clear hX2 hF2 hb2 hcc z0 z1 z2 z3 z4 z5 z6 hx1 hv1
      dsimp only
      rw [h0]
      go_wp2
      go_ret
      exact ⟨ret_bool (by simp only [Fact.back, Fact.forth, Fact.same, Fact.like, Fact.num] at h0 h1 ⊢ <;> simp [h0, h1]), hB2⟩
    · go_wp2_with fail
      refine (HC.out _ (HW.out.alloc HW.out.size _)).mono ?_
      rintro e w2 ⟨rfl, hb2⟩
      have hX2 : FB w2 W.heap.size x vb := heap_bl hb2 (heap_new W _)
      have hF2 : FB w2 bf f vf := heap_bl hb2 (heap_al HF.out _)
      obtain ⟨y0, y1, y2, y3, y4, y5, y6⟩ := hX2.cells
      obtain ⟨q0, q1, q2, q3, q4, q5, q6⟩ := hF2.cells
      have hB2 : Below W.heap.size W w2 := below_tr ((Below.refl _ _).alloc (Nat.le_refl _) _) hb2
      have hx2 := hx1.below hB2
      have hv2 := hv1.below hB2
      clear hX2 hF2 hb2 hcc z0 z1 z2 z3 z4 z5 z6 hx1 hv1
      dsimp only
      rw [h0]
      go_wp2
      go_ret
      exact ⟨ret_bool (by simp only [Fact.back, Fact.forth, Fact.same, Fact.like, Fact.num] at h0 h1 ⊢ <;> simp [h0, h1]), hB2⟩

end Go.Proofs.Ytfdijgdojejimaa
