/- Layer 2's walks: read. No condition beyond sizes. -/
import Derived.Test.YthjlmkmijehnjaaDk9
namespace Go.Proofs.Ythjlmkmijehnjaa
open Go.RowKit Go.Shelf K L
set_option linter.unusedVariables false
set_option linter.unusedSimpArgs false
attribute [local go_sem] Oper.semAt_some

theorem build_zero (w : World) : (Instr.build 27 #[]).run Try.prog w = .ok (.agg (bvs zblk).toArray) w := by
  unfold Instr.build
  simp only [Sem.run_bind, zero_block, Result.andThen_ok, run_underlying Try.underlying27, Value.cells]
  rfl

/-- What 'Read' leaves in its results' cells is what it returns. -/
theorem read_results {tmps : Array Value} {W : World} {r4 r5 : Nat} {bl : Blk} {e : Int} (hb : bl.length = 64) (h4 : tmps.getD 4 undef = .pointer (some ⟨r4, 0, none⟩)) (h5 : tmps.getD 5 undef = .pointer (some ⟨r5, 0, none⟩))
    (g4 : W.heap[r4]? = some (.cells (bvs bl).toArray 27 (0, 0))) (g5 : W.heap[r5]? = some (.cells #[.int .i64 e] 38 (0, 0))) :
    (results Try.f22 tmps).run Try.prog W = .ok (.tuple #[.agg (bvs bl).toArray, .int .i64 e]) W := by
  have h6 := run_loadVar_row (P := Try.prog) W r4 27 27 (bvs bl).toArray (0, 0) _ g4 Try.underlying27 rfl (size_blk hb)
  have c5 : W.cell? ⟨r5, 0, none⟩ = some (.int .i64 e) := cell_in g5 0
  exact results_two Try.results22 tmps W h4 h5 h6 (by simp [loadVar, go_sem, c5])

/-- What 'Read' leaves. -/
def RdPost (w : World) (S : Nat → Prop) (b : Nat) (r : Int × Blk × PD) (e : Ending) (w' : World) : Prop :=
  e = .returned (.tuple #[.agg (bvs r.2.1).toArray, .int .i64 r.1]) ∧ IsD w' S b r.2.2 ∧ Upd S w w'

theorem PD.read_no {d : PD} {i : Int} (h : ¬ (d.ready i).1 = 0) : d.read i = ((d.ready i).1, zblk, (d.ready i).2) := by unfold PD.read; rw [if_neg h]
theorem PD.read_yes {d : PD} {i : Int} (h : (d.ready i).1 = 0) : d.read i = (0, (d.ready i).2.holds i.toNat, { (d.ready i).2 with ops := (d.ready i).2.ops + 1 }) := by unfold PD.read; rw [if_pos h]

/-- The boxes of a call of 'Read'. -/
structure RdB (w : World) (r : Nat) (p : Option Addr) (i : Int) : Prop where
  b0 : w.heap[r]? = some (.cells #[.pointer p] 24 (0, 0))
  b1 : w.heap[r + 1]? = some (.cells #[.int .i64 i] 3 (0, 0))
  b2 : w.heap[r + 1 + 1]? = some (.cells (bvs zblk).toArray 27 (0, 0))
  b3 : w.heap[r + 1 + 1 + 1]? = some (.cells #[.int .i64 0] 38 (0, 0))
theorem RdB.new (w : World) (p : Option Addr) (i : Int) : RdB ((((w.alloc (.cells #[.pointer p] 24)).alloc (.cells #[.int .i64 i] 3)).alloc (.cells (bvs zblk).toArray 27)).alloc (.cells #[.int .i64 0] 38)) w.heap.size p i := by
  refine ⟨heap_al (heap_al (heap_al (heap_alloc_last _ _) _) _) _, ?_, ?_, ?_⟩
  · exact heap_al (heap_al (by have := heap_alloc_last (w.alloc (.cells #[.pointer p] 24)) (.cells #[.int .i64 i] 3); rwa [World.size_alloc] at this) _) _
  · exact heap_al (by have := heap_alloc_last ((w.alloc (.cells #[.pointer p] 24)).alloc (.cells #[.int .i64 i] 3)) (.cells (bvs zblk).toArray 27); rwa [World.size_alloc, World.size_alloc] at this) _
  · have := heap_alloc_last (((w.alloc (.cells #[.pointer p] 24)).alloc (.cells #[.int .i64 i] 3)).alloc (.cells (bvs zblk).toArray 27)) (.cells #[.int .i64 0] 38); rwa [World.size_alloc, World.size_alloc, World.size_alloc] at this
theorem RdB.upd {S : Nat → Prop} {w w' : World} {r : Nat} {p : Option Addr} {i : Int} (h : RdB w r p i) (hu : Upd S w w') (hS : ∀ x, r ≤ x → ¬ S x) : RdB w' r p i :=
  ⟨hu.heap h.b0 (hS _ (by omega)), hu.heap h.b1 (hS _ (by omega)), hu.heap h.b2 (hS _ (by omega)), hu.heap h.b3 (hS _ (by omega))⟩

set_option maxRecDepth 100000 in
set_option maxHeartbeats 4000000 in
theorem read_nil (i : Int) (w : World) : Calls Try.prog 22 #[.pointer none, .int .i64 i] w fun e w' => e = .returned (.tuple #[.agg (bvs zblk).toArray, .int .i64 1]) ∧ Below w.heap.size w w' := by
  refine (callsIn_wide (n := 9)).1 ?_
  refine callsIn_of_wp_marks Try.func22 rfl trivial ?_ rfl
  simp only [Try.ntmps22, List.size_toArray, List.length_cons, List.length_nil, Nat.reduceAdd, Nat.reduceSub, Array.replicate_succ, Array.replicate_zero, List.push_toArray, List.append_toArray, List.nil_append, List.cons_append]
  refine wpIn_wide.2 ?_
  have hn := RdB.new w none i
  obtain ⟨W, hW⟩ : ∃ W, (((w.alloc (.cells #[.pointer none] 24)).alloc (.cells #[.int .i64 i] 3)).alloc (.cells (bvs zblk).toArray 27)).alloc (.cells #[.int .i64 0] 38) = W := ⟨_, rfl⟩
  have hb0 : Below w.heap.size w W := by rw [← hW]; exact below_al (below_al (below_al (below_al (Below.refl _ _) _) _) _) _
  rw [hW] at hn
  have q0 := cell_in hn.b0 0
  have q1 := cell_in hn.b1 0
  have q5 := cell_in (setRow_other W (w.heap.size + 1 + 1) (w.heap.size + 1 + 1 + 1) (bvs zblk).toArray (by omega) ▸ hn.b3) 0
  have f5 := frozen_in (setRow_other W (w.heap.size + 1 + 1) (w.heap.size + 1 + 1 + 1) (bvs zblk).toArray (by omega) ▸ hn.b3) 0
  simp at q0 q1 q5
  have HN := Lib.hid hn
  have HB := Lib.hid hb0
  have HW := Lib.hid hW
  clear hn hb0 hW
  go_wp2_with (first | (refine wl_alloc rfl 27 rfl zero_block ?_) | fail)
  rw [HW.out]
  refine (ready_nil i W).mono ?_
  rintro e w' ⟨rfl, rfl⟩
  go_wp2_with (first | (refine wl_build rfl 27 #[] rfl (vs := #[]) (by simp) build_zero ?_) | (refine wl_store_row rfl 27 _ _ rfl _ _ _ _ HN.out.b2 rfl rfl (size_blk zblk_len) rfl (one_blk _) ?_) | fail)
  have g4 : ((W.setRow (w.heap.size + 1 + 1) (bvs zblk).toArray).setCell ⟨w.heap.size + 1 + 1 + 1, 0, none⟩ (.int .i64 1)).heap[w.heap.size + 1 + 1]? = some (.cells (bvs zblk).toArray 27 (0, 0)) :=
    (heap_setCell_other _ _ _ _ (by simp)).trans (setRow_heap W _ _ _ _ _ HN.out.b2)
  have g5 : ((W.setRow (w.heap.size + 1 + 1) (bvs zblk).toArray).setCell ⟨w.heap.size + 1 + 1 + 1, 0, none⟩ (.int .i64 1)).heap[w.heap.size + 1 + 1 + 1]? = some (.cells #[.int .i64 1] 38 (0, 0)) :=
    heap_setCell_same _ _ 0 _ _ _ ((setRow_other W _ _ _ (by omega)).trans HN.out.b3)
  exact ⟨_, read_results zblk_len rfl rfl g4 g5, rfl, ((HB.out.trans (((upd_setRow W (w.heap.size + 1 + 1) (bvs zblk).toArray).below (B := w.heap.size) HB.out.size (fun b e => by omega)))).setCell (by simp; omega) _)⟩

/-- The pending writes of a right disk. -/
def pas (d : PD) (h : ∀ p ∈ d.pend, p.2.length = 64) : List WA := d.pend.attach.map fun p => ⟨p.1, h p.1 p.2⟩
theorem pas_map (d : PD) (h : ∀ p ∈ d.pend, p.2.length = 64) : (pas d h).map (·.1) = d.pend := by
  unfold pas; rw [List.map_map]
  have : ((fun x : WA => x.1) ∘ fun p : {x // x ∈ d.pend} => (⟨p.1, h p.1 p.2⟩ : WA)) = Subtype.val := rfl
  rw [this, List.attach_map_subtype_val]
theorem pas_len (d : PD) (h : ∀ p ∈ d.pend, p.2.length = 64) : (pas d h).length = d.pend.length := by simp [pas]

/-- A round that came upon the sector's last write has left so. -/
def RdX (w : World) (S : Nat → Prop) (b r4 r5 : Nat) (vs vp : Value) (d : PD) (i : Nat) (c : Code) (l : List (WA × Nat)) (W : World) : Prop :=
  c = .ret ∧ ∃ bl, (∃ pre x, l = pre ++ [x] ∧ x.1.1.1 = i ∧ (∀ y ∈ pre, y.1.1.1 ≠ i) ∧ x.1.1.2 = bl) ∧ bl.length = 64 ∧ W.heap[r4]? = some (.cells (bvs bl).toArray 27 (0, 0)) ∧ W.heap[r5]? = some (.cells #[.int .i64 0] 38 (0, 0)) ∧ Dk W S b vs vp { d with ops := d.ops + 1 } ∧ Upd S w W

theorem upd_late {w W W' : World} {S : Nat → Prop} {row : Option Nat} (h : Upd S w W) (hg : W.grownBy W' row) (hr : ∀ r, row = some r → w.heap.size ≤ r) : Upd S w W' :=
  h.trans (Upd.of_grown hg) fun b hb e => absurd (hr b e.symm) (by omega)

theorem upd_keepsFrom {S : Nat → Prop} {B : Nat} {W W' : World} (h : Upd S W W') (hS : ∀ x, B ≤ x → ¬ S x) : KeepsFrom B W W' :=
  ⟨h.size, fun k o hB hk _ => (h.block k (Array.getElem?_eq_some_iff.1 hk).1 (hS k hB)).trans hk⟩

/-- The end of 'Read' behind its loop: the loop's mark is taken, and all is as it was. -/
theorem rd_put {w Z : World} {S : Nat → Prop} {b r4 r5 D : Nat} {d : PD} {bl : Blk} {e : Int} (g4 : Z.heap[r4]? = some (.cells (bvs bl).toArray 27 (0, 0))) (g5 : Z.heap[r5]? = some (.cells #[.int .i64 e] 38 (0, 0)))
    (hd : IsD Z S b d) (hu : Upd S w Z) (hS : ∀ x, w.heap.size ≤ x → ¬ S x) (hD : w.heap.size ≤ D) (hK : Z.heap[D]? = some (.deferred (some []))) :
    (Z.putObj D (.deferred none)).heap[r4]? = some (.cells (bvs bl).toArray 27 (0, 0)) ∧ (Z.putObj D (.deferred none)).heap[r5]? = some (.cells #[.int .i64 e] 38 (0, 0)) ∧ IsD (Z.putObj D (.deferred none)) S b d ∧ Upd S w (Z.putObj D (.deferred none)) := by
  have n4 : r4 ≠ D := fun e => by rw [e, hK] at g4; cases g4
  have n5 : r5 ≠ D := fun e => by rw [e, hK] at g5; cases g5
  have hg := grownBy_putObj' Z D (.deferred none)
  exact ⟨(World.putObj_heap_other n4).trans g4, (World.putObj_heap_other n5).trans g5, hd.keep (Upd.of_grown hg) (fun x hx e => by cases e; exact hS _ hD hx), upd_late hu hg fun r e => by cases e; exact hD⟩

set_option maxRecDepth 100000 in
set_option maxHeartbeats 8000000 in
theorem read_any {w : World} {S : Nat → Prop} {b : Nat} {d : PD} (h : IsD w S b d) (hn : d.ops < 1073741823) (i : Int) (i1 : -9223372036854775808 ≤ i) (i2 : i ≤ 9223372036854775807) :
    Calls Try.prog 22 #[.pointer (some ⟨b, 0, none⟩), .int .i64 i] w (RdPost w S b (d.read i)) := by
  obtain ⟨vs, vp, h⟩ := h
  refine (callsIn_wide (n := 9)).1 ?_
  refine callsIn_of_wp_marks Try.func22 rfl trivial ?_ rfl
  simp only [Try.ntmps22, List.size_toArray, List.length_cons, List.length_nil, Nat.reduceAdd, Nat.reduceSub, Array.replicate_succ, Array.replicate_zero, List.push_toArray, List.append_toArray, List.nil_append, List.cons_append]
  refine wpIn_wide.2 ?_
  have hnw := RdB.new w (some ⟨b, 0, none⟩) i
  obtain ⟨W, hW⟩ : ∃ W, (((w.alloc (.cells #[.pointer (some ⟨b, 0, none⟩)] 24)).alloc (.cells #[.int .i64 i] 3)).alloc (.cells (bvs zblk).toArray 27)).alloc (.cells #[.int .i64 0] 38) = W := ⟨_, rfl⟩
  have hb0 : Below w.heap.size w W := by rw [← hW]; exact below_al (below_al (below_al (below_al (Below.refl _ _) _) _) _) _
  have hszW : W.heap.size = w.heap.size + 1 + 1 + 1 + 1 := by rw [← hW]; simp only [World.size_alloc]
  rw [hW] at hnw
  have hS : ∀ x, w.heap.size ≤ x → ¬ S x := fun x hx hs => by have := h.lt x hs; omega
  have HR := Lib.hid (ready_any (h.below hb0) i i1 i2)
  have HU0 := Lib.hid (Upd.of_below hb0 : Upd S w W)
  have HS := Lib.hid hS
  have q0 := cell_in hnw.b0 0
  have q1 := cell_in hnw.b1 0
  simp at q0 q1
  have HN := Lib.hid hnw
  have HW := Lib.hid hW
  clear hnw hb0 hW h hS
  go_wp2_with (first | (refine wl_alloc rfl 27 rfl zero_block ?_) | fail)
  rw [HW.out]
  refine HR.out.mono ?_
  rintro e w1 ⟨rfl, hd1, hu1, hs1⟩
  have hn1 := HN.out.upd hu1 HS.out
  have HU1 := Lib.hid (HU0.out.trans hu1 (fun _ _ h => h))
  have hle1 : w.heap.size + 1 + 1 + 1 + 1 ≤ w1.heap.size := by omega
  clear q0 q1 hs1 hszW
  have q0 := cell_in hn1.b0 0
  have q1 := cell_in hn1.b1 0
  simp at q0 q1
  have HN1 := Lib.hid hn1
  have HD1 := Lib.hid hd1
  by_cases hr : (d.ready i).1 = 0
  · have hin := PD.ready_in hr
    have ho := PD.ready_ops d i
    have hRD := PD.read_yes hr
    rw [hr]
    obtain ⟨d1, hd1'⟩ : ∃ d1, (d.ready i).2 = d1 := ⟨_, rfl⟩
    have hsf := PD.ready_safe d i
    rw [hd1'] at hd1 HD1 ho hRD hsf
    obtain ⟨k, rfl⟩ : ∃ k : Nat, i = k := ⟨i.toNat, by omega⟩
    have HRD := Lib.hid hRD
    obtain ⟨c0, c1, -, -, -, -, c6⟩ := hd1.hd.cells
    obtain ⟨Ap, cp, rfl, -, -, -, -⟩ := own_slice hd1.pend
    have hp64 : ∀ p ∈ d1.pend, p.2.length = 64 := fun p hp => (hd1.ok.pnd p hp).2
    have hnum := hd1.ok.num
    have hpl := hd1.pend
    have hops1 : d1.ops < 1073741823 := by omega
    have HSF := Lib.hid hsf
    clear hr hd1 hd1' hn1 hu1 hRD ho hsf
    go_wp2_with fail
    refine (backward_any Ap d1.pend.length cp w1).mono ?_
    rintro e w2 ⟨rfl, rfl⟩
    have hx2 := heap_alloc_last w1 (.cells #[.slice Ap d1.pend.length cp] 67)
    have hb2 : Below w1.heap.size w1 (w1.alloc (.cells #[.slice Ap d1.pend.length cp] 67)) := below_al (Below.refl _ _) _
    have hsz2 : w1.heap.size + 1 ≤ (w1.alloc (.cells #[.slice Ap d1.pend.length cp] 67)).heap.size := Nat.le_of_eq (World.size_alloc _ _).symm
    generalize w1.alloc (.cells #[.slice Ap d1.pend.length cp] 67) = W2 at *
    have hd2 := HD1.out.below hb2
    have hn2 := HN1.out.upd (Upd.of_below hb2 : Upd S w1 W2) HS.out
    have HU2 := Lib.hid (HU1.out.trans (Upd.of_below hb2 : Upd S w1 W2) (fun _ _ h => h))
    have hrow : W2.ownsRow 0 80 65 (.slice Ap d1.pend.length cp) (pas d1 hp64).length (((pas d1 hp64).map (·.1)).flatMap wcells) := by rw [pas_map, pas_len]; exact hd2.pend
    go_wp2
    refine (wpIn_wide (n := 9)).1 ?_
    refine wpIn_rangeFunc_ownH rfl (by decide) (gf := 56) (lb := #[.pointer (some ⟨w1.heap.size, 0, none⟩)]) rfl trivial (enters_of Try.func56 (by kernel_rfl) rfl)
      (back1_stops Fence.wide 8 trivial rfl (by decide) w1.heap.size W2.heap.size _ (pas d1 hp64) W2 (cell_in hx2 0) (by omega) hrow (fun g hg => (hd2.pend.lt g hg).2) (by rw [pas_len]; omega)) belowK_t (belowK_b (Nat.le_refl _)) (Below.refl _ _) (fun _ => rfl)
      (fun pre W => Hid (∀ x ∈ pre, x.1.1.1 ≠ k) ∧ Below W2.heap.size W2 W)
      (fun c l W => RdX w S b (w.heap.size + 1 + 1) (w.heap.size + 1 + 1 + 1) vs (.slice Ap d1.pend.length cp) d1 k c l W)
      (OwnFrom.and (ownFrom_pure _ _) (ownFrom_below (Nat.le_refl _) (Nat.le_refl _)))
      (fun c _ X Y row hs hg hrow => by
        obtain ⟨h1, bl, h2, h3, h4, h5, h6, h7⟩ := hs
        have hge : ∀ r, row = some r → W2.heap.size ≤ r := fun r e => (hrow r e).1
        have hne : ∀ x, x < W2.heap.size → some x ≠ row := fun x hx e => by have := hge x e.symm; omega
        refine ⟨h1, bl, h2, h3, (hg.block _ (Array.getElem?_eq_some_iff.1 h4).1 (hne _ (by omega))).trans h4, (hg.block _ (Array.getElem?_eq_some_iff.1 h5).1 (hne _ (by omega))).trans h5, h6.keep (Upd.of_grown hg) (fun x hx e => hne x (Nat.lt_of_lt_of_le (hd2.lt x hx) (Nat.le_refl _)) e), upd_late h7 hg fun r e => by have := hge r e; omega⟩)
      ⟨Lib.hid (fun x hx => by cases hx), Below.refl _ _⟩
      (fun x a' W => ∃ Bx, W2.heap.size ≤ Bx ∧ W.heap[Bx]? = some (.cells (wcells x.1.1).toArray 80 (0, 0)) ∧ a' = { tmps := #[.pointer (some ⟨b, 0, none⟩), .int .i64 (k : Nat), .pointer (some ⟨w.heap.size, 0, none⟩), .pointer (some ⟨w.heap.size + 1, 0, none⟩), .pointer (some ⟨w.heap.size + 1 + 1, 0, none⟩), .pointer (some ⟨w.heap.size + 1 + 1 + 1, 0, none⟩), .int .i64 0, undef, .pointer (some ⟨Bx, 0, none⟩),
        .pointer (some ⟨b, 0, none⟩), .int .i64 (k : Nat), .int .i64 0, .int .i64 0, .bool false, undef, undef, .pointer (some ⟨b, 0, none⟩), .pointer (some ⟨b, 0, none⟩), .pointer (some ⟨b, 1, none⟩), .slice Ap d1.pend.length cp, .func (.func 56) #[] #[.pointer (some ⟨w1.heap.size, 0, none⟩)],
        .int .i64 (x.2 : Nat), .agg (wcells x.1.1).toArray, undef, undef, undef, undef, undef, undef, undef, undef, undef, undef, undef, undef, undef, undef, undef, undef, undef, undef, undef, undef, undef, undef, undef, undef, undef, undef, undef], defers := [] })
      (fun x a' _ X Y row hs hg hr => by
        obtain ⟨Bx, h1, h2, h3⟩ := hs
        exact ⟨Bx, h1, (hg.block Bx (Array.getElem?_eq_some_iff.1 h2).1 (fun e => by obtain ⟨o, ho, hc⟩ := (hr Bx e.symm).2; rw [h2] at ho; cases ho; cases hc)).trans h2, h3⟩)
      ?assign ?body ?done ?stop
    case assign =>
      rintro l pre ⟨⟨x, hx⟩, m⟩ W' K ⟨hp, hbW⟩ hK
      dsimp only [wenc]
      have HK := Lib.hid hK
      clear hK
      rw [show (#[21, 22] : Array Tmp).zip #[Value.int .i64 (m : Nat), .agg (wcells x).toArray] = #[(21, Value.int .i64 (m : Nat)), (22, .agg (wcells x).toArray)] from by simp]
      simp only [List.foldl_toArray, List.foldl_cons, List.foldl_nil, List.setIfInBounds_toArray, List.set_cons_succ, List.set_cons_zero]
      gi_wp2_with (first | (refine wi_alloc rfl 80 rfl zero_wrote ?_) | (refine wi_store_new rfl 80 _ _ rfl _ _ _ rfl rfl (size_wrote hx) (size_zw hx) (one_wcells x) ?_))
      exact HK.out _ _ ((KeepsOthers.alloc _ _).from _) ((Below.refl _ W').alloc hbW.size _) ⟨hp, hbW.alloc hbW.size _⟩ ⟨W'.heap.size, hbW.size, heap_alloc_last _ _, rfl⟩
    case body =>
      rintro l pre ⟨⟨x, hx⟩, m⟩ a' W' hl ⟨r, hr⟩ ⟨hp, hbW⟩ ⟨Bx, hBx, hxB, rfl⟩ hlt
      dsimp only at hxB ⊢
      have hdW := hd2.below hbW
      have hnW := hn2.upd (Upd.of_below hbW : Upd S W2 W') HS.out
      have x0 := (wbox hxB).1
      have k1 := cell_in hnW.b1 0
      simp at k1
      by_cases hk : x.1 = k
      · obtain ⟨-, -, -, -, -, -, c6⟩ := hdW.hd.cells
        have f6 := hdW.hd.frozen 6
        have k0 := cell_in hnW.b0 0
        simp at k0
        have hbk : b < W2.heap.size := hd2.lt b hd2.sb
        have hu6 : Upd S W' (W'.setCell ⟨b, 6, none⟩ (.int .i64 ((d1.ops + 1 : Nat) : Int))) := upd_head hdW.sb 6 _
        have hd6 := Dk.head hdW 6 _ (hdW.hd.ops (d1.ops + 1)) rfl rfl (PD.ok_ops hdW.ok)
        have hn6 := hnW.upd hu6 HS.out
        have hxB6 : (W'.setCell ⟨b, 6, none⟩ (.int .i64 ((d1.ops + 1 : Nat) : Int))).heap[Bx]? = some (.cells (wcells x).toArray 80 (0, 0)) := (heap_setCell_other _ _ _ _ (by dsimp only; omega)).trans hxB
        have HRG := Lib.hid (wbox hxB6).2
        have HB2 := Lib.hid hn6.b2
        have s4 : ((W'.setCell ⟨b, 6, none⟩ (.int .i64 ((d1.ops + 1 : Nat) : Int))).setRow (w.heap.size + 1 + 1) (bvs x.2).toArray).heap[w.heap.size + 1 + 1 + 1]? = some (.cells #[.int .i64 0] 38 (0, 0)) := (setRow_other _ _ _ _ (by omega)).trans hn6.b3
        have y5 := cell_in s4 0
        have f5 := frozen_in s4 0
        simp at y5
        push_cast at f5
        have hv : Upd (fun y => y = w.heap.size + 1 + 1 ∨ y = w.heap.size + 1 + 1 + 1) (W'.setCell ⟨b, 6, none⟩ (.int .i64 ((d1.ops + 1 : Nat) : Int))) (((W'.setCell ⟨b, 6, none⟩ (.int .i64 ((d1.ops + 1 : Nat) : Int))).setRow (w.heap.size + 1 + 1) (bvs x.2).toArray).setCell ⟨w.heap.size + 1 + 1 + 1, 0, none⟩ (.int .i64 0)) :=
          ((upd_setRow _ _ _).mono fun y _ e => .inl e).setCell _ _ (fun _ => .inr rfl)
        have HX := Lib.hid (show RdX w S b (w.heap.size + 1 + 1) (w.heap.size + 1 + 1 + 1) vs (.slice Ap d1.pend.length cp) d1 k .ret (pre ++ [((⟨x, hx⟩, m) : WA × Nat)]) (((W'.setCell ⟨b, 6, none⟩ (.int .i64 ((d1.ops + 1 : Nat) : Int))).setRow (w.heap.size + 1 + 1) (bvs x.2).toArray).setCell ⟨w.heap.size + 1 + 1 + 1, 0, none⟩ (.int .i64 0)) from
          ⟨rfl, x.2, ⟨pre, _, rfl, hk, hp.out, rfl⟩, hx,
            (heap_setCell_other _ _ _ _ (by dsimp only; omega)).trans (setRow_heap _ _ _ _ _ _ hn6.b2), heap_setCell_same _ _ 0 _ _ _ s4,
            hd6.keep hv (fun y hy e => by rcases e with e | e <;> exact HS.out y (by omega) hy),
            ((HU2.out.trans (Upd.of_below hbW : Upd S W2 W') (fun _ _ h => h)).trans hu6 (fun _ _ h => h)).trans hv (fun y hy e => by omega)⟩)
        have HKF := Lib.hid (show KeepsFrom W2.heap.size W' (((W'.setCell ⟨b, 6, none⟩ (.int .i64 ((d1.ops + 1 : Nat) : Int))).setRow (w.heap.size + 1 + 1) (bvs x.2).toArray).setCell ⟨w.heap.size + 1 + 1 + 1, 0, none⟩ (.int .i64 0)) from
          (upd_keepsFrom hu6 fun y hy hs => by have := hd2.lt y hs; omega).trans (upd_keepsFrom hv fun y hy hs => by omega))
        have hke : ((x.1 : Int) == (k : Int)) = true := by simp [hk]
        have hke2 : (x.1 == k) = true := by simp [hk]
        have hke3 : decide (x.1 = k) = true := by simp [hk]
        have hops : d1.ops + 1 < 1073741824 := by omega
        clear hk hdW hnW hu6 hd6 hn6 hxB6 s4 hv hbW hxB hp
        gi_wp2_with (first | (refine wi_load rfl 27 _ rfl _ _ rfl _ _ HRG.out Try.underlying27 rfl (size_blk' hx) ?_) | (refine wi_store_row rfl 27 _ _ rfl _ _ _ _ HB2.out rfl rfl (size_blk hx) (size_zb hx) (one_blk _) ?_))
        exact ⟨HKF.out, HX.out⟩
      · have hke : ((x.1 : Int) == (k : Int)) = false := by rw [beq_eq_false_iff_ne]; omega
        have hke2 : (x.1 == k) = false := by simp [hk]
        have hke3 : decide (x.1 = k) = false := by simp [hk]
        have HI := Lib.hid (Lib.hid (fun y hy => by
          rcases List.mem_append.1 hy with hy | hy
          · exact hp.out y hy
          · obtain rfl := List.mem_singleton.1 hy
            exact hk) : Hid (∀ y ∈ pre ++ [((⟨x, hx⟩, m) : WA × Nat)], y.1.1.1 ≠ k))
        have HB := Lib.hid hbW
        clear hk hdW hnW hxB hp hbW
        gi_wp2
        exact ⟨KeepsFrom.refl _ _, Below.refl _ _, HI.out, HB.out⟩
    case done =>
      rintro D ys W' hD rfl ⟨hp, hbW⟩ hK
      have hdW := hd2.below hbW
      have hnW := hn2.upd (Upd.of_below hbW : Upd S W2 W') HS.out
      have hla : lastAt k d1.pend = none := by have := backs_none hp.out; rwa [pas_map] at this
      obtain ⟨-, -, -, -, -, -, e6⟩ := hdW.hd.cells
      have f6 := hdW.hd.frozen 6
      have k0 := cell_in hnW.b0 0
      simp at k0
      have hbk : b < W2.heap.size := hd2.lt b hd2.sb
      have hu6 : Upd S W' (W'.setCell ⟨b, 6, none⟩ (.int .i64 ((d1.ops + 1 : Nat) : Int))) := upd_head hdW.sb 6 _
      have hd6 := Dk.head hdW 6 _ (hdW.hd.ops (d1.ops + 1)) rfl rfl (PD.ok_ops hdW.ok)
      have HN6 := Lib.hid (hnW.upd hu6 HS.out)
      have HD6 := Lib.hid hd6
      have HU6 := Lib.hid ((HU2.out.trans (Upd.of_below hbW : Upd S W2 W') (fun _ _ h => h)).trans hu6 (fun _ _ h => h))
      have HK6 := Lib.hid (show (W'.setCell ⟨b, 6, none⟩ (.int .i64 ((d1.ops + 1 : Nat) : Int))).heap[D]? = some (.deferred (some [])) from (heap_setCell_other _ _ _ _ (by dsimp only; omega)).trans hK)
      have hkl : k < d1.safe.length := by rw [HSF.out]; omega
      have hgl := HD1.out.ok.blk
      have HLA := Lib.hid hla
      obtain ⟨gs, cs, rfl, -, -, -⟩ := hdW.safe_form
      have hops : d1.ops + 1 < 1073741824 := by omega
      clear hdW hnW hu6 hd6 hbW hp hK hla
      go_wp2
      push_cast at HN6 HD6 HU6 HK6
      generalize hW6 : W'.setCell ⟨b, 6, none⟩ (.int .i64 ((d1.ops : Int) + 1)) = W6 at *
      refine G.region_split 7 (by kernel_rfl) (by kernel_rfl) (G.any_inv (by kernel_rfl) (fun w w' => Below w.heap.size w w') (fun _ _ _ h k => below_tr h k) (fun w _ => Below.refl _ _) (Below.refl _ _)
        (G.of [(fun (_ : World) (v : Value) => v = .pointer (some ⟨b, 0, none⟩)), (fun (_ : World) (v : Value) => v = .pointer (some ⟨b, 0, none⟩)), (fun (_ : World) (v : Value) => v = .pointer (some ⟨b, 0, none⟩)), (fun (_ : World) (v : Value) => v = .slice (some ⟨gs, 0, none⟩) d1.safe.length cs), (fun (_ : World) (v : Value) => v = .int .i64 (k : Nat)), (fun (_ : World) (v : Value) => v = .pointer (some ⟨gs, k * 64, none⟩)), (fun (_ : World) (v : Value) => v = .agg (bvs d1.safe[k]).toArray)])
        (G.of_stays _ ?_) ?_ (G.each_ops ?_) ?_)
      · exact ⟨(fun w w' v h k => h), (fun w w' v h k => h), (fun w w' v h k => h), (fun w w' v h k => h), (fun w w' v h k => h), (fun w w' v h k => h), (fun w w' v h k => h), trivial⟩
      · intro i o hi hd; exact absurd hd (G.no_none (by kernel_rfl) hi)
      · refine ⟨?_, ?_, ?_, ?_, ?_, ?_, ?_, trivial⟩
        all_goals intro a wq hT hS hp
        all_goals (have hT' : Below W6.heap.size W6 wq := below_tr (Below.refl _ _).drew hT; have hnq := HN6.out.upd (Upd.of_below hT' : Upd S W6 wq) HS.out; have z0 := cell_in hnq.b0 0; have z1 := cell_in hnq.b1 0; have z2 := (HD6.out.below hT').hd.cells.1; obtain ⟨g9, c9, e9, -, -, -, -, hrg, -⟩ := own_range (f := bvs) (fun x hx => by rw [bvs_len]; exact hgl x hx) (HD6.out.below hT').safe rfl k hkl; simp only [Value.slice.injEq, Option.some.injEq, Addr.mk.injEq] at e9; obtain ⟨⟨rfl, -, -⟩, -, -⟩ := e9; simp at z0 z1)
        · refine G.wanted_yes (G.wanted_plain rfl) ?_
          have e2 : a.tmps[2]?.getD undef = .pointer (some ⟨w.heap.size, 0, none⟩) := hS.at_ 2 rfl
          exact G.st_val (v := .pointer (some ⟨b, 0, none⟩)) (w' := wq) (by simp [execOp, go_sem, e2, z0, z1, z2, hkl] <;> omega) ⟨_, rfl, Below.refl _ _, rfl⟩
        · refine G.wanted_yes (G.wanted_plain rfl) ?_
          have e43 : a.tmps[43]?.getD undef = .pointer (some ⟨b, 0, none⟩) := hp ⟨0, .data⟩ (by simp) rfl _ rfl
          exact G.st_val (v := .pointer (some ⟨b, 0, none⟩)) (w' := wq) (by simp [execOp, go_sem, e43, z0, z1, z2, hkl] <;> omega) ⟨_, rfl, Below.refl _ _, rfl⟩
        · refine G.wanted_yes (G.wanted_plain rfl) ?_
          have e44 : a.tmps[44]?.getD undef = .pointer (some ⟨b, 0, none⟩) := hp ⟨1, .data⟩ (by simp) rfl _ rfl
          exact G.st_val (v := .pointer (some ⟨b, 0, none⟩)) (w' := wq) (by simp [execOp, go_sem, e44, z0, z1, z2, hkl] <;> omega) ⟨_, rfl, Below.refl _ _, rfl⟩
        · refine G.wanted_yes (G.wanted_plain rfl) ?_
          have e45 : a.tmps[45]?.getD undef = .pointer (some ⟨b, 0, none⟩) := hp ⟨2, .data⟩ (by simp) rfl _ rfl
          exact G.st_val (v := .slice (some ⟨gs, 0, none⟩) d1.safe.length cs) (w' := wq) (by simp [execOp, go_sem, e45, z0, z1, z2, hkl] <;> omega) ⟨_, rfl, Below.refl _ _, rfl⟩
        · refine G.wanted_yes (G.wanted_plain rfl) ?_
          have e3 : a.tmps[3]?.getD undef = .pointer (some ⟨w.heap.size + 1, 0, none⟩) := hS.at_ 3 rfl
          exact G.st_val (v := .int .i64 (k : Nat)) (w' := wq) (by simp [execOp, go_sem, e3, z0, z1, z2, hkl] <;> omega) ⟨_, rfl, Below.refl _ _, rfl⟩
        · refine G.wanted_yes (G.wanted_plain rfl) ?_
          have e46 : a.tmps[46]?.getD undef = .slice (some ⟨gs, 0, none⟩) d1.safe.length cs := hp ⟨3, .data⟩ (by simp) rfl _ rfl
          have e47 : a.tmps[47]?.getD undef = .int .i64 (k : Nat) := hp ⟨4, .data⟩ (by simp) rfl _ rfl
          exact G.st_val (v := .pointer (some ⟨gs, k * 64, none⟩)) (w' := wq) (by simp [execOp, go_sem, e46, e47, z0, z1, z2, hkl] <;> omega) ⟨_, rfl, Below.refl _ _, rfl⟩
        · refine G.wanted_yes (G.wanted_plain rfl) ?_
          have e48 : a.tmps[48]?.getD undef = .pointer (some ⟨gs, k * 64, none⟩) := hp ⟨5, .data⟩ (by simp) rfl _ rfl
          exact G.st_val (v := .agg (bvs d1.safe[k]).toArray) (w' := wq) (ex_load 27 _ rfl gs (k * 64) (by rw [G.eval_tmp]; exact e48) _ _ hrg Try.underlying27 rfl (size_blk' (hgl _ (List.getElem_mem hkl)))) ⟨_, rfl, Below.refl _ _, rfl⟩
      · intro a wq hT hS hp
        have e43 : G.slot a (some 43) = .pointer (some ⟨b, 0, none⟩) := hp 0 _ rfl
        have e44 : G.slot a (some 44) = .pointer (some ⟨b, 0, none⟩) := hp 1 _ rfl
        have e45 : G.slot a (some 45) = .pointer (some ⟨b, 0, none⟩) := hp 2 _ rfl
        have e46 : G.slot a (some 46) = .slice (some ⟨gs, 0, none⟩) d1.safe.length cs := hp 3 _ rfl
        have e47 : G.slot a (some 47) = .int .i64 (k : Nat) := hp 4 _ rfl
        have e48 : G.slot a (some 48) = .pointer (some ⟨gs, k * 64, none⟩) := hp 5 _ rfl
        have e49 : G.slot a (some 49) = .agg (bvs d1.safe[k]).toArray := hp 6 _ rfl
        have ha := G.act_of hS
        simp only [List.take_succ_cons, List.take_zero, List.foldl_cons, List.foldl_nil, Act.put, List.setIfInBounds_toArray, List.set_cons_succ, List.set_cons_zero, e43, e44, e45, e46, e47, e48, e49] at ha
        clear hp hS e43 e44 e45 e46 e47 e48 e49
        subst ha
        show wpList _ _ _ _ _ _
        simp only [List.drop_succ_cons, List.drop_zero]
        have hT2 : Below W6.heap.size W6 wq := below_tr (Below.refl _ _).drew hT
        have hnq := HN6.out.upd (Upd.of_below hT2 : Upd S W6 wq) HS.out
        have hdq := HD6.out.below hT2
        have hbl := hgl _ (List.getElem_mem hkl)
        have HB2 := Lib.hid hnq.b2
        have s4 : (wq.setRow (w.heap.size + 1 + 1) (bvs d1.safe[k]).toArray).heap[w.heap.size + 1 + 1 + 1]? = some (.cells #[.int .i64 0] 38 (0, 0)) := (setRow_other _ _ _ _ (by omega)).trans hnq.b3
        have y5 := cell_in s4 0
        have f5 := frozen_in s4 0
        simp at y5
        have hv : Upd (fun y => y = w.heap.size + 1 + 1 ∨ y = w.heap.size + 1 + 1 + 1) wq ((wq.setRow (w.heap.size + 1 + 1) (bvs d1.safe[k]).toArray).setCell ⟨w.heap.size + 1 + 1 + 1, 0, none⟩ (.int .i64 0)) :=
          ((upd_setRow _ _ _).mono fun y _ e => .inl e).setCell _ _ (fun _ => .inr rfl)
        have hKq := heap_bl hT2 HK6.out
        have hne : ∀ y, y = w.heap.size + 1 + 1 ∨ y = w.heap.size + 1 + 1 + 1 → y < W2.heap.size := fun y hy => by
          have := (Array.getElem?_eq_some_iff.1 hn2.b3).1; omega
        have hKf := hv.heap hKq (fun hD' => by have := hne D hD'; omega)
        have g4 : ((wq.setRow (w.heap.size + 1 + 1) (bvs d1.safe[k]).toArray).setCell ⟨w.heap.size + 1 + 1 + 1, 0, none⟩ (.int .i64 0)).heap[w.heap.size + 1 + 1]? = some (.cells (bvs d1.safe[k]).toArray 27 (0, 0)) := (heap_setCell_other _ _ _ _ (by dsimp only; omega)).trans (setRow_heap _ _ _ _ _ _ hnq.b2)
        have g5 : ((wq.setRow (w.heap.size + 1 + 1) (bvs d1.safe[k]).toArray).setCell ⟨w.heap.size + 1 + 1 + 1, 0, none⟩ (.int .i64 0)).heap[w.heap.size + 1 + 1 + 1]? = some (.cells #[.int .i64 0] 38 (0, 0)) := heap_setCell_same _ _ 0 _ _ _ s4
        obtain ⟨r4, r5, rd, ru⟩ := rd_put (S := S) (w := w) g4 g5 ⟨_, _, hdq.keep hv (fun y hy e => by rcases e with e | e <;> exact HS.out y (by omega) hy)⟩ (((HU6.out.trans (Upd.of_below hT2 : Upd S W6 wq) (fun _ _ h => h)).trans hv (fun y hy e => by omega))) HS.out (by have := HU2.out.size; omega) hKf
        have R4 := Lib.hid r4
        have R5 := Lib.hid r5
        have RD := Lib.hid rd
        have RU := Lib.hid ru
        have HKF := Lib.hid hKf
        have HBL := Lib.hid hbl
        have hho : d1.holds ((k : Int)).toNat = d1.safe[k] := by unfold PD.holds; rw [Int.toNat_natCast, HLA.out, Option.getD_none, List.getD_eq_getElem?_getD, List.getElem?_eq_getElem hkl]; rfl
        have HHO := Lib.hid hho
        clear hnq hdq hbl s4 hv hKq hne hKf g4 g5 r4 r5 rd ru hho hT hT2 hW6
        go_wp2_with (refine wl_store_row rfl 27 _ _ rfl _ _ _ _ HB2.out rfl rfl (size_blk HBL.out) (size_zb HBL.out) (one_blk _) ?_)
        refine ⟨by simp, .inl ⟨_, _, rfl, run_takeDeferred HKF.out, ?_⟩⟩
        refine ⟨_, read_results HBL.out rfl rfl R4.out R5.out, ?_⟩
        rw [HRD.out]
        refine ⟨?_, RD.out, RU.out⟩
        rw [HHO.out]
    case stop =>
      rintro D c pre W' hD hpre hX hK
      obtain ⟨rfl, bl, ⟨p0, x, rfl, hx, hp, rfl⟩, hb64, g4, g5, hdx, hux⟩ := hX
      have hls := backs_some hpre hx hp
      rw [pas_map] at hls
      obtain ⟨r4, r5, rd, ru⟩ := rd_put g4 g5 ⟨_, _, hdx⟩ hux HS.out (by have := HU2.out.size; omega) hK
      refine wpIn_wide.2 ?_
      go_wp2
      refine ⟨by simp, .inl ⟨_, _, rfl, run_takeDeferred hK, ?_⟩⟩
      refine ⟨_, read_results hb64 rfl rfl r4 r5, ?_⟩
      rw [HRD.out]
      refine ⟨?_, rd, ru⟩
      have : d1.holds ((k : Int)).toNat = x.1.1.2 := by unfold PD.holds; rw [Int.toNat_natCast, hls]; rfl
      rw [this]
  · have HRD := Lib.hid (PD.read_no hr)
    have hb : ((d.ready i).1 == 0) = false := by simpa using hr
    have hb2 : ((d.ready i).1 != 0) = true := by simpa using hr
    obtain ⟨z, hz⟩ : ∃ z, (d.ready i).1 = z := ⟨_, rfl⟩
    have s4 : (w1.setRow (w.heap.size + 1 + 1) (bvs zblk).toArray).heap[w.heap.size + 1 + 1 + 1]? = some (.cells #[.int .i64 0] 38 (0, 0)) := (setRow_other _ _ _ _ (by omega)).trans hn1.b3
    have y5 := cell_in s4 0
    have f5 := frozen_in s4 0
    simp at y5
    have hv : Upd (fun y => y = w.heap.size + 1 + 1 ∨ y = w.heap.size + 1 + 1 + 1) w1 ((w1.setRow (w.heap.size + 1 + 1) (bvs zblk).toArray).setCell ⟨w.heap.size + 1 + 1 + 1, 0, none⟩ (.int .i64 z)) :=
      ((upd_setRow _ _ _).mono fun y _ e => .inl e).setCell _ _ (fun _ => .inr rfl)
    have G4 := Lib.hid (show ((w1.setRow (w.heap.size + 1 + 1) (bvs zblk).toArray).setCell ⟨w.heap.size + 1 + 1 + 1, 0, none⟩ (.int .i64 z)).heap[w.heap.size + 1 + 1]? = some (.cells (bvs zblk).toArray 27 (0, 0)) from (heap_setCell_other _ _ _ _ (by dsimp only; omega)).trans (setRow_heap _ _ _ _ _ _ hn1.b2))
    have G5 := Lib.hid (show ((w1.setRow (w.heap.size + 1 + 1) (bvs zblk).toArray).setCell ⟨w.heap.size + 1 + 1 + 1, 0, none⟩ (.int .i64 z)).heap[w.heap.size + 1 + 1 + 1]? = some (.cells #[.int .i64 z] 38 (0, 0)) from heap_setCell_same _ _ 0 _ _ _ s4)
    have RD := Lib.hid (hd1.keep hv (fun y hy e => by rcases e with e | e <;> exact HS.out y (by omega) hy))
    have RU := Lib.hid (HU1.out.trans hv (fun y hy e => by omega))
    have HZ := Lib.hid hz
    rw [hz] at hb hb2 ⊢
    clear hd1 hu1 hn1 s4 hv hr hz
    go_wp2_with (first | (refine wl_build rfl 27 #[] rfl (vs := #[]) (by simp) build_zero ?_) | (refine wl_store_row rfl 27 _ _ rfl _ _ _ _ HN1.out.b2 rfl rfl (size_blk zblk_len) rfl (one_blk _) ?_) | fail)
    refine ⟨_, read_results zblk_len rfl rfl G4.out G5.out, ?_⟩
    rw [HRD.out, HZ.out]
    exact ⟨rfl, ⟨_, _, RD.out⟩, RU.out⟩

end Go.Proofs.Ythjlmkmijehnjaa
