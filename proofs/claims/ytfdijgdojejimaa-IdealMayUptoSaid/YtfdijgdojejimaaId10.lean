/- Layer 27: ideal.Files. No condition beyond sizes. -/
import Derived.Test.YtfdijgdojejimaaId9
namespace Go.Proofs.Ytfdijgdojejimaa
open Go.RowKit Go.Shelf K L
set_option linter.unusedVariables false
set_option linter.unusedSimpArgs false
attribute [local go_sem] Oper.semAt_some

/-- Bytes in a block of bytes from n on. -/
def BsT (W : World) (n : Nat) (v : Value) (xs : List UInt8) : Prop := Bs W (fun b => n ≤ b ∧ ∃ cs, W.heap[b]? = some (.cells cs 5)) v xs
theorem bst_kept {X Y : World} {row : Option Nat} {n : Nat} {v : Value} {xs : List UInt8} (hg : X.grownBy Y row) (hne : ∀ r, row = some r → ∀ cs, X.heap[r]? ≠ some (.cells cs 5)) (h : BsT X n v xs) : BsT Y n v xs := by
  have key : ∀ b, b < X.heap.size → (n ≤ b ∧ ∃ cs, X.heap[b]? = some (.cells cs 5)) → Y.heap[b]? = X.heap[b]? := by
    rintro b hb ⟨_, cs, hc⟩
    exact hg.block b hb (fun e => hne b e.symm cs hc)
  have h1 : Bs Y (fun b => b < X.heap.size ∧ (n ≤ b ∧ ∃ cs, X.heap[b]? = some (.cells cs 5))) v xs := by
    have h0 : Bs X (fun b => b < X.heap.size ∧ (n ≤ b ∧ ∃ cs, X.heap[b]? = some (.cells cs 5))) v xs := Bs.imp h (fun b hb hF => ⟨hb, hF⟩)
    exact Sl.keep h0 (by decide) (fun b hb hF => key b hb hF.2)
  refine h1.imp (fun b _ hF => ⟨hF.2.1, ?_⟩)
  obtain ⟨hb, hn, cs, hc⟩ := hF
  exact ⟨cs, (key b hb ⟨hn, cs, hc⟩).trans hc⟩
theorem bst_below {X Y : World} {n : Nat} {v : Value} {xs : List UInt8} (h : BsT X n v xs) (hb : Below X.heap.size X Y) : BsT Y n v xs := bst_kept (below_any hb) (fun r e => by cases e) h
theorem bst_of_ob {X : World} {n : Nat} {v : Value} {xs : List UInt8} (h : Ob X n 5 v xs) : BsT X n v xs := by
  obtain ⟨hl, h2⟩ := h
  have hs := Sl.of_own (⟨hl, h2⟩ : X.ownsRow n 5 1 v xs.length (bvs xs))
  rcases h2 with ⟨rfl, h0⟩ | ⟨g, cap, cur, rfl, hb, hh, hn, hc, hcs, ht⟩
  · obtain rfl : xs = [] := List.eq_nil_of_length_eq_zero h0
    unfold BsT Bs bvs
    exact Sl.nil X _ 1
  · obtain ⟨h1, A, c, hv, l1, l2, l3, l4⟩ := hs
    cases hv
    refine ⟨h1, _, _, rfl, l1, l2, l3, fun hp => ?_⟩
    obtain ⟨ad, e, hf, hat⟩ := l4 hp
    cases e
    exact ⟨_, rfl, ⟨hb, cur, hh⟩, hat⟩
theorem bst_lt {X : World} {n : Nat} {v : Value} {xs : List UInt8} (h : BsT X n v xs) : Bs X (· < X.heap.size) v xs := Bs.lt h

/-- The files that a node has told of. -/
def fileOf (node : Int) (x : Fact) : Bool := x.node == node && x.kind == 6
/-- A row of facts of the call's own, their bytes too. -/
def OwnFs (W : World) (n B : Nat) (u : Value) (ls : List FE) : Prop := W.ownsRow n 26 7 u ls.length (ls.flatMap FE.cells) ∧ ∀ e ∈ ls, BsT W n e.2 e.1.bytes

theorem not5_of_row {X : World} {n k : Nat} {u : Value} {xs : List Value} (h : X.ownsRow n 26 7 u k xs) : ∀ r, u.ownBlock = some r → ∀ cs, X.heap[r]? ≠ some (.cells cs 5) := by
  intro r hr cs hc
  rcases h.2 with ⟨rfl, _⟩ | ⟨g, cap, cur, rfl, _, hgb, _⟩
  · cases hr
  · obtain rfl : g = r := by simpa [Value.ownBlock] using hr
    rw [hgb] at hc
    cases hc
theorem not5_of_box {X : World} {B : Nat} {t : TypeId} {cs : Array Value} (h : X.heap[B]? = some (.cells cs t)) (ht : t ≠ 5) : ∀ r, some B = some r → ∀ ds, X.heap[r]? ≠ some (.cells ds 5) := by
  rintro r e ds hd
  cases e
  rw [h] at hd
  cases hd
  exact ht rfl
theorem grownBy_set (W : World) (b i : Nat) (v : Value) : W.grownBy (W.setCell ⟨b, i, none⟩ v) (some b) :=
  ⟨rfl, rfl, rfl, (KeepsWalks.setCell W _ v).size, fun k _ hk => Below.heap_setCell _ _ _ k (fun e => hk (by rw [e]))⟩

theorem owns_own (N B : Nat) (node : Int) {w0 : World} (q : FA w0 → Bool) : Own (fun (pre : List (FA w0)) W => ∃ u ls, Boxed W B 22 u ∧ OwnFs W N B u ls ∧ ls.map (·.1) = (pre.filter q).map (·.1.1)) := by
  rintro s X Y row ⟨u, ls, hu, ⟨hr, hbs⟩, hl⟩ hg hrow
  have hnr : ∀ r, row = some r → ∀ (cs : Array Value) (t : TypeId), X.heap[r]? ≠ some (.cells cs t) := by
    intro r e cs t hc
    obtain ⟨o, ho, hn⟩ := hrow r e
    rw [ho] at hc
    cases hc
    cases hn
  refine ⟨u, ls, hu.kept hg (fun e => hnr B e.symm _ _ hu), ⟨hr.kept hg ?_, fun e he => bst_kept hg (fun r e cs => hnr r e cs _) (hbs e he)⟩, hl⟩
  rcases hr.2 with ⟨rfl, _⟩ | ⟨g, cap, cur, rfl, _, hgb, _⟩
  · exact .inl rfl
  · exact .inr fun e' => hnr g (by simpa [Value.ownBlock] using e'.symm) _ _ hgb

theorem row_none_or {X : World} {base e k n : Nat} {v : Value} {xs : List Value} (h : X.ownsRow base e k v n xs) : v.ownBlock = none ∨ v.ownBlock ≠ none := by
  by_cases h : v.ownBlock = none
  · exact .inl h
  · exact .inr h

set_option maxRecDepth 100000 in
set_option maxHeartbeats 8000000 in
theorem files_any (v : Value) (node : Int) (w : World) (es : List FE) (hle : es.length ≤ 1048576) (hL : Ls w v es) :
    Calls Try.prog 15 #[v, .int .i64 node] w fun e W' => ∃ u ls, e = .returned u ∧ OwnFs W' w.heap.size 0 u ls ∧ ls.map (·.1) = (es.map (·.1)).filter (fileOf node) ∧ Below w.heap.size w W' := by
  obtain ⟨hS, hx⟩ := hL
  obtain ⟨ys, rfl⟩ := attach_fcells es hx
  rw [List.length_map] at hle hS
  clear hx
  have hS' := hS
  obtain ⟨i0, hi, hz0, hz1, hz2⟩ := info_parts elF.info
  obtain ⟨-, A, c, rfl, -, -, -, -⟩ := hS
  refine (callsIn_wide (n := 9)).1 ?_
  refine callsIn_of_wp_marks Try.func15 rfl trivial ?_ rfl
  simp only [Try.ntmps15, List.size_toArray, List.length_cons, List.length_nil, Nat.reduceAdd, Nat.reduceSub, Array.replicate_succ, Array.replicate_zero, List.push_toArray, List.append_toArray, List.nil_append, List.cons_append]
  gi_wp2_with (refine ⟨trivial, ?_⟩; gi_at_call 23; refine (callsIn_wide.2 (kind_any A ys.length c 6 _)).mono ?_; rintro e w' ⟨rfl, rfl⟩)
  have bG := ((((Boxed.new w 3 (.int .i64 node)).alloc (.cells #[.slice none 0 0] 22)).alloc (.cells #[.slice A ys.length c] 22)).alloc (.cells #[.int .i64 6] 3))
  have bN := ((Boxed.new (w.alloc (.cells #[.int .i64 node] 3)) 22 (.slice none 0 0)).alloc (.cells #[.slice A ys.length c] 22)).alloc (.cells #[.int .i64 6] 3)
  have bL := (Boxed.new ((w.alloc (.cells #[.int .i64 node] 3)).alloc (.cells #[.slice none 0 0] 22)) 22 (.slice A ys.length c)).alloc (.cells #[.int .i64 6] 3)
  have bK := Boxed.new (((w.alloc (.cells #[.int .i64 node] 3)).alloc (.cells #[.slice none 0 0] 22)).alloc (.cells #[.slice A ys.length c] 22)) 3 (.int .i64 6)
  have hB0 : Below w.heap.size w ((((w.alloc (.cells #[.int .i64 node] 3)).alloc (.cells #[.slice none 0 0] 22)).alloc (.cells #[.slice A ys.length c] 22)).alloc (.cells #[.int .i64 6] 3)) :=
    ((((Below.refl _ w).alloc (Nat.le_refl _) _).alloc (by simp) _).alloc (by simp; omega) _).alloc (by simp; omega) _
  simp only [World.size_alloc] at bG bN bL bK ⊢
  have hsz : ((((w.alloc (.cells #[.int .i64 node] 3)).alloc (.cells #[.slice none 0 0] 22)).alloc (.cells #[.slice A ys.length c] 22)).alloc (.cells #[.int .i64 6] 3)).heap.size = w.heap.size + 4 := by simp
  obtain ⟨W0, hW0⟩ : ∃ W0, (((w.alloc (.cells #[.int .i64 node] 3)).alloc (.cells #[.slice none 0 0] 22)).alloc (.cells #[.slice A ys.length c] 22)).alloc (.cells #[.int .i64 6] 3) = W0 := ⟨_, rfl⟩
  rw [hW0] at bG bN bL bK hB0 hsz ⊢
  clear hW0
  refine wpIn_rangeFunc_ownH rfl (by decide) (gf := 50) (lb := #[.pointer (some ⟨w.heap.size + 1 + 1, 0, none⟩), .pointer (some ⟨w.heap.size + 1 + 1 + 1, 0, none⟩)]) rfl trivial (enters_of Try.func50 (by kernel_rfl) rfl)
    (kind1_stops w Fence.wide 8 trivial rfl (by decide) (w.heap.size + 1 + 1) (w.heap.size + 1 + 1 + 1) w.heap.size _ 6 ys W0 bL.cell bK.cell (by omega) (Sl.below hS' (by decide) hB0) (by omega)) kk_t (kk_b (by omega) (by omega)) (Below.refl _ _) (fun _ => rfl)
    (fun pre W => (((∃ u ls, Boxed W (w.heap.size + 1) 22 u ∧ OwnFs W w.heap.size (w.heap.size + 1) u ls ∧ ls.map (·.1) = (pre.filter (fun x => x.1.1.node == node)).map (·.1.1)) ∧ Boxed W w.heap.size 3 (.int .i64 node)) ∧ Boxed W (w.heap.size + 1 + 1 + 1) 3 (.int .i64 6)) ∧ Below w.heap.size w W)
    (fun _ _ _ => False)
    (OwnFrom.and (OwnFrom.and (OwnFrom.and (Own.from (owns_own _ _ node _) _) (Own.from (boxed_own _ _ _) _)) (Own.from (boxed_own _ _ _) _)) (ownFrom_below (Nat.le_refl _) (by omega)))
    (fun _ _ _ _ _ hs _ _ => hs)
    ⟨⟨⟨⟨_, [], bN, ⟨World.ownsRow_nil _ _ _ _, fun e he => by cases he⟩, rfl⟩, bG⟩, bK⟩, hB0⟩
    (fun x a' W => ∃ Bx u, w.heap.size + 1 + 1 + 1 < Bx ∧ FB W Bx x.1.1 x.1.2 ∧ Boxed W (w.heap.size + 1) 22 u ∧ u.ownBlock ≠ some Bx ∧ a' = { tmps := #[.slice A ys.length c, .int .i64 node, undef, .pointer (some ⟨w.heap.size, 0, none⟩), .slice none 0 0, .pointer (some ⟨w.heap.size + 1, 0, none⟩), .pointer (some ⟨Bx, 0, none⟩), .slice A ys.length c, .func (.func 50) #[] #[.pointer (some ⟨w.heap.size + 1 + 1, 0, none⟩), .pointer (some ⟨w.heap.size + 1 + 1 + 1, 0, none⟩)], x.1.agg, undef, undef, undef, undef, undef, undef, undef, undef, undef, undef, undef, undef, undef], defers := [] })
    (fun x a' _ X Y row hs hg hr => by obtain ⟨Bx, u, h1, h2, h4, h5, h3⟩ := hs; exact ⟨Bx, u, h1, fb_own Bx (fun (_ : Unit) => x.1.1) (fun _ => x.1.2) () X Y row h2 hg (fun r e => (hr r e).2), boxed_own _ _ (fun (_ : Unit) => u) () X Y row h4 hg (fun r e => (hr r e).2), h5, h3⟩)
    ?assign ?body ?done ?stop
  case assign =>
    rintro l pre ⟨⟨x, vb⟩, hy⟩ W K ⟨⟨⟨⟨u, ls, b1, ⟨b2, b4⟩, b3⟩, bI⟩, bK1⟩, hB1⟩ hK
    obtain ⟨Ab, cb, hvb, -, -, -, -⟩ := Bs.open_ hy.1
    dsimp only at hvb
    subst hvb
    dsimp only [FE.agg, FE.cells, Fact.cells] at hK ⊢
    gi_wp2
    have hk1 := bK1.lt
    have hal := (Below.refl _ W).alloc (Nat.le_refl _) (.cells #[.int .i64 x.kind, .int .i64 x.node, .int .i64 x.frm, .int .u32 (x.number : Nat), .string ⟨x.name.toArray⟩, .int .i64 x.code, .slice Ab x.bytes.length cb] 26)
    exact hK _ _ ((KeepsOthers.alloc _ _).from _) ⟨(Below.refl _ W).alloc hB1.size _, Below.heap_alloc _ _ _ hk1⟩ ⟨⟨⟨⟨u, ls, b1.alloc _, ⟨b2.alloc _, fun e he => bst_below (b4 e he) hal⟩, b3⟩, bI.alloc _⟩, bK1.alloc _⟩, hB1.alloc hB1.size _⟩ ⟨W.heap.size, u, hk1, heap_new W _, b1.alloc _, (fun e => by have := (b2.lt _ e).2; omega), rfl⟩
  case body =>
    rintro l pre ⟨⟨x, vb⟩, hy⟩ a' W hl ⟨r, hr⟩ ⟨⟨⟨⟨u, ls, b1, ⟨b2, b4⟩, b3⟩, bI⟩, bK1⟩, hB1⟩ ⟨Bx, u', hBx, bX, hbu', hne', rfl⟩ hlt
    obtain rfl : u = u' := by have := (show W.heap[w.heap.size + 1]? = _ from b1).symm.trans hbu'; simpa using this
    have hy' := hy
    obtain ⟨Ab, cb, hvb, -, -, -, -⟩ := Bs.open_ hy.1
    dsimp only at hvb
    subst hvb
    obtain ⟨y0, y1, y2, y3, y4, y5, y6⟩ := FB.cells bX
    have hcn := bI.cell
    dsimp only [FE.agg, FE.cells, Fact.cells] at y0 y1 y2 y3 y4 y5 y6 ⊢
    by_cases hq : x.node = node
    · have hd : (x.node == node) = true := by simp [hq]
      have hbw : Bs W (· < w.heap.size) (.slice Ab x.bytes.length cb) x.bytes := Bs.belowB hy'.1 hB1
      have hxl : x.bytes.length ≤ 1048576 := hy'.2
      have HQ := Lib.hid hd
      have hfl : (pre ++ [(⟨(x, .slice Ab x.bytes.length cb), hy⟩ : FA w)]).filter (fun x => x.1.1.node == node) = pre.filter (fun x => x.1.1.node == node) ++ [⟨(x, .slice Ab x.bytes.length cb), hy⟩] := by
        rw [List.filter_append, List.filter_cons_of_pos (by exact hd)]; rfl
      have HFL := Lib.hid hfl
      clear hfl hq
      gi_wp2
      refine ⟨trivial, ?_⟩
      refine (CallsIn.inRound l (callsIn_wide.2 (clone_any _ x.bytes W _ hbw (by omega)))).mono ?_
      rintro e w2 ⟨v', rfl, hob, hb2⟩
      have hw2 := hb2.size
      have hbx2 := heap_bl hb2 bX
      have hn1 : Boxed w2 (w.heap.size + 1) 22 u := heap_bl hb2 b1
      have hn2 : Boxed w2 w.heap.size 3 (.int .i64 node) := heap_bl hb2 bI
      have hn3 : Boxed w2 (w.heap.size + 1 + 1 + 1) 3 (.int .i64 6) := heap_bl hb2 bK1
      have hr2 := b2.kept (below_any hb2) (row_none_or b2)
      have hbs2 : ∀ e ∈ ls, BsT w2 w.heap.size e.2 e.1.bytes := fun e he => bst_below (b4 e he) hb2
      have hbv2 : BsT w2 w.heap.size v' x.bytes := bst_of_ob (hob.low hB1.size)
      obtain ⟨Av, cv, rfl, -, -, -, -⟩ := hbv2.open_
      have hne1 : ∀ r, some Bx = some r → ∀ ds, w2.heap[r]? ≠ some (.cells ds 5) := not5_of_box hbx2 (by decide)
      have gset := grownBy_set w2 Bx 6 (.slice Av x.bytes.length cv)
      have hf6 := frozen_of hbx2 6
      have hq6 := cell_of hbx2 6
      simp at hq6
      have hX3 := heap_setCell_same w2 Bx 6 _ _ (.slice Av x.bytes.length cv) hbx2
      simp only [Fact.cells, List.setIfInBounds_toArray, List.set_cons_succ, List.set_cons_zero] at hX3
      have hu3 : Boxed (w2.setCell ⟨Bx, 6, none⟩ (.slice Av x.bytes.length cv)) (w.heap.size + 1) 22 u := hn1.kept gset (by intro e; cases e; omega)
      have hc3 := hu3.cell
      have hr3 : World.ownsRow (w2.setCell ⟨Bx, 6, none⟩ (.slice Av x.bytes.length cv)) w.heap.size 26 7 u ls.length (ls.flatMap FE.cells) := hr2.kept gset (.inr hne')
      have x0 := cell_of hX3 0
      have x1 := cell_of hX3 1
      have x2 := cell_of hX3 2
      have x3 := cell_of hX3 3
      have x4 := cell_of hX3 4
      have x5 := cell_of hX3 5
      have x6 := cell_of hX3 6
      simp at x0 x1 x2 x3 x4 x5 x6
      have hsz3 : w2.heap.size = (w2.setCell ⟨Bx, 6, none⟩ (.slice Av x.bytes.length cv)).heap.size := by simp
      have hN3 : w.heap.size ≤ (w2.setCell ⟨Bx, 6, none⟩ (.slice Av x.bytes.length cv)).heap.size := by rw [← hsz3]; exact Nat.le_trans hB1.size hw2
      have hk3 : Boxed (w2.setCell ⟨Bx, 6, none⟩ (.slice Av x.bytes.length cv)) (w.heap.size + 1 + 1 + 1) 3 (.int .i64 6) := hn3.kept gset (by intro e; cases e; omega)
      have hn4 : Boxed (w2.setCell ⟨Bx, 6, none⟩ (.slice Av x.bytes.length cv)) w.heap.size 3 (.int .i64 node) := hn2.kept gset (by intro e; cases e; omega)
      have hbs3 : ∀ e ∈ ls ++ [(x, .slice Av x.bytes.length cv)], BsT (w2.setCell ⟨Bx, 6, none⟩ (.slice Av x.bytes.length cv)) w.heap.size e.2 e.1.bytes := by
        intro e he
        rcases List.mem_append.1 he with he | he
        · exact bst_kept gset hne1 (hbs2 e he)
        · obtain rfl := List.mem_singleton.1 he
          exact bst_kept gset hne1 hbv2
      have hB3 : Below w.heap.size W (w2.setCell ⟨Bx, 6, none⟩ (.slice Av x.bytes.length cv)) := (hb2.mono hB1.size).setCell (p := ⟨Bx, 6, none⟩) (by dsimp only; omega) _
      have hK3 : KeepsFrom W0.heap.size W (w2.setCell ⟨Bx, 6, none⟩ (.slice Av x.bytes.length cv)) := (KeepsFrom.of_grownBy (below_any hb2) (fun j e => by cases e)).trans ((KeepsOthers.setCell _ _ _).from _)
      have one7 : ∀ q ∈ [Value.int .i64 x.kind, .int .i64 x.node, .int .i64 x.frm, .int .u32 (x.number : Nat), .string ⟨x.name.toArray⟩, .int .i64 x.code, .slice Av x.bytes.length cv], q.oneCell' = true := by
        intro q hq
        simp only [List.mem_cons, List.not_mem_nil, or_false] at hq
        rcases hq with rfl | rfl | rfl | rfl | rfl | rfl | rfl <;> rfl
      have hll : ls.length ≤ 1048576 := by
        have h1 := congrArg List.length b3
        rw [List.length_map, List.length_map] at h1
        have h2 := List.length_filter_le (fun x : FA w => x.1.1.node == node) pre
        omega
      clear hX3 hbx2 hn1 hn2 hn3 hr2 hbs2 hbv2 hne1 gset bX b1 b2 b4 bI hbu' hob hb2 hbw
      have HKB := Lib.hid bK1
      have HB3 := Lib.hid b3
      clear bK1 b3
      have HU3 := Lib.hid hu3
      have HR3 := Lib.hid hr3
      have HK3 := Lib.hid hk3
      have HN4 := Lib.hid hn4
      have HBS3 := Lib.hid hbs3
      have HB4 := Lib.hid hB3
      have HKF := Lib.hid hK3
      have HN3 := Lib.hid hN3
      have HONE := Lib.hid one7
      have HBW := Lib.hid hB1
      have HSZ := Lib.hid hsz3
      clear hsz3
      clear hu3 hr3 hk3 hn4 hbs3 hB3 hK3 hN3 one7 hB1 hr hy' hne'
      gi_wp2_with (gi_at_builtin; go_loud (refine wpListIn_append_own _ rfl _ _ 22 rfl w.heap.size 26 i0 _ 7 80 elF.ut hi hz0 hz1 hz2 rfl (by decide) _ _ _ rfl (HR3.out.alloc _) ⟨(w2.setCell ⟨Bx, 6, none⟩ (.slice Av x.bytes.length cv)).heap.size, 0, none⟩ 1 1 [.int .i64 x.kind, .int .i64 x.node, .int .i64 x.frm, .int .u32 (x.number : Nat), .string ⟨x.name.toArray⟩, .int .i64 x.code, .slice Av x.bytes.length cv] (by rw [← HSZ.out]; rfl) rfl (cells_new _ _ _ (by simp)) HONE.out (by simp only [maxLen]; omega) (by omega) (by have := HN3.out; simp only [World.size_alloc]; omega) ?_); intro v' w1 hown' hgrow _; obtain ⟨g', cap', rfl⟩ := ownsRow_succ hown'; obtain ⟨hv1, hv2, hr4, hk2, hb3⟩ := HU3.out.appended (by decide) HR3.out HN3.out (by omega) hown' hgrow; have hc1 := hv1.cell; have hf1 := hv1.frozen)
      have hn5 := not5_of_row HR3.out
      have hk4 : Boxed (w1.setCell ⟨w.heap.size + 1, 0, none⟩ (.slice (some ⟨g', 0, none⟩) (ls.length + 1) cap')) (w.heap.size + 1 + 1 + 1) 3 (.int .i64 6) := ((HK3.out.alloc _).kept hgrow (HK3.out.not_row (by decide) HR3.out)).other (by omega) _
      have hn6 : Boxed (w1.setCell ⟨w.heap.size + 1, 0, none⟩ (.slice (some ⟨g', 0, none⟩) (ls.length + 1) cap')) w.heap.size 3 (.int .i64 node) := ((HN4.out.alloc _).kept hgrow (HN4.out.not_row (by decide) HR3.out)).other (by omega) _
      have hbs4 : ∀ e ∈ ls ++ [(x, .slice Av x.bytes.length cv)], BsT (w1.setCell ⟨w.heap.size + 1, 0, none⟩ (.slice (some ⟨g', 0, none⟩) (ls.length + 1) cap')) w.heap.size e.2 e.1.bytes := by
        intro e he
        have e1 := bst_below (HBS3.out e he) ((Below.refl _ _).alloc (Nat.le_refl _) (.cells #[.int .i64 x.kind, .int .i64 x.node, .int .i64 x.frm, .int .u32 (x.number : Nat), .string ⟨x.name.toArray⟩, .int .i64 x.code, .slice Av x.bytes.length cv] 26))
        have e2 := bst_kept hgrow (not5_of_row (HR3.out.alloc _)) e1
        exact bst_kept (grownBy_set w1 _ 0 _) (not5_of_box hv1 (by decide)) e2
      have hfc : (ls ++ [((x, .slice Av x.bytes.length cv) : FE)]).flatMap FE.cells = ls.flatMap FE.cells ++ [.int .i64 x.kind, .int .i64 x.node, .int .i64 x.frm, .int .u32 (x.number : Nat), .string ⟨x.name.toArray⟩, .int .i64 x.code, .slice Av x.bytes.length cv] := by rw [List.flatMap_append]; simp [FE.cells, Fact.cells]
      refine ⟨HKF.out.trans (hk2.from _), ⟨HB4.out.trans hb3, ?_⟩, ⟨⟨⟨_, ls ++ [(x, .slice Av x.bytes.length cv)], hv2, ⟨row_cast hr4 (by simp) hfc.symm, hbs4⟩, ?_⟩, hn6⟩, hk4⟩, ?_⟩
      · exact hk4.trans (show W.heap[w.heap.size + 1 + 1 + 1]? = _ from HKB.out).symm
      · rw [HFL.out, List.map_append, List.map_append, HB3.out]; rfl
      · exact HBW.out.trans (HB4.out.trans hb3)
    · have hd : (x.node == node) = false := by simp [hq]
      have hfl : (pre ++ [(⟨(x, .slice Ab x.bytes.length cb), hy⟩ : FA w)]).filter (fun x => x.1.1.node == node) = pre.filter (fun x => x.1.1.node == node) := by
        rw [List.filter_append, List.filter_cons_of_neg (by rw [hd]; decide)]; simp
      have hI : (((∃ u ls, Boxed W (w.heap.size + 1) 22 u ∧ OwnFs W w.heap.size (w.heap.size + 1) u ls ∧ ls.map (·.1) = ((pre ++ [(⟨(x, .slice Ab x.bytes.length cb), hy⟩ : FA w)]).filter (fun x => x.1.1.node == node)).map (·.1.1)) ∧ Boxed W w.heap.size 3 (.int .i64 node)) ∧ Boxed W (w.heap.size + 1 + 1 + 1) 3 (.int .i64 6)) ∧ Below w.heap.size w W :=
        ⟨⟨⟨⟨u, ls, b1, ⟨b2, b4⟩, by rw [hfl]; exact b3⟩, bI⟩, bK1⟩, hB1⟩
      have HX := Lib.hid hI
      clear hI hfl b1 b2 b3 b4 bI bK1 hB1 bX hbu' hq
      gi_wp2
      obtain ⟨⟨⟨⟨u, ls, q1, q2, q3⟩, q4⟩, q5⟩, q6⟩ := HX.out
      exact ⟨KeepsFrom.refl _ _, ⟨Below.refl _ _, rfl⟩, ⟨⟨⟨u, q1, ls, q2, q3⟩, q4⟩, q5⟩, q6⟩
  case done =>
    rintro D zs W hD rfl ⟨⟨⟨⟨u, ls, b1, ⟨b2, b4⟩, b3⟩, bI⟩, bK1⟩, hB1⟩ hK
    have hc := b1.cell
    gi_wp2
    refine ⟨by simp, .inl ⟨_, _, rfl, run_takeDeferred hK, ?_⟩⟩
    refine ⟨_, results_tmp rfl _ _ _, u, ls, rfl, ⟨ownsRow_putObj b2 _ hK rfl, fun e he => bst_kept (grownBy_putObj' W D _) (fun r e cs hc => by cases e; rw [hK] at hc; cases hc) (b4 e he)⟩, ?_, hB1.trans (belowK_b (w := w) (Nat.le_refl _) W D _ _ (by omega) hK rfl rfl)⟩
    rw [b3, List.filter_map, List.filter_map, List.map_map, List.filter_filter]
    rfl
  case stop =>
    rintro D c pre W _ _ h _
    exact h.elim

end Go.Proofs.Ytfdijgdojejimaa
