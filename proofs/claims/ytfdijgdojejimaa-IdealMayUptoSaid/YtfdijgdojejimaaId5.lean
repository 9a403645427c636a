/- Layer 27: the greatest number of a kind. No condition beyond sizes. -/
import Derived.Test.YtfdijgdojejimaaId4
namespace Go.Proofs.Ytfdijgdojejimaa
open Go.RowKit Go.Shelf K L
set_option linter.unusedVariables false
set_option linter.unusedSimpArgs false
attribute [local go_sem] Oper.semAt_some

def greatL {w0 : World} (p : Fact → Bool) (es : List (FA w0)) : Nat := es.foldl (fun n e => if p e.1.1 = true then max n e.1.1.number else n) 0
theorem greatL_snoc {w0 : World} (p : Fact → Bool) (es : List (FA w0)) (x : FA w0) : greatL p (es ++ [x]) = if p x.1.1 = true then max (greatL p es) x.1.1.number else greatL p es := by simp [greatL]
theorem greatL_all {w0 : World} (p : Fact → Bool) (k : Int) (es : List (FA w0)) : greatL p (es.filter (kin k)) = great (facts es) k p := by
  rw [← great_filter]
  unfold greatL facts
  rw [List.filter_map, List.foldl_map]
  congr 1

theorem uponIn_fn {F : Fence} {n : Nat} {P : Program} {g : Nat} {args : Array Value} {w : World} {o : Oper} {a : Act} {next : Act → World → Prop} {Q : Exit → Act → World → Prop} {v : Value} (l : Nat) (hF : F = Fence.wide.inRound l)
    (eg : ∀ args w, (callFunc g args).run P w = .ok (.enter g args) w) (h : Calls P g args w fun r w' => r = .returned v ∧ Below w.heap.size w w') (k : ∀ w', Below w.heap.size w w' → next (a.put o.dst v) w') :
    o.uponIn F n P a next Q ((callFunc g args).run P w) := by
  subst hF
  rw [eg, Oper.uponIn_enter]
  refine ⟨fun h => absurd h (by simp [Fence.inRound, Fence.wide]), ?_⟩
  refine (CallsIn.inRound l (callsIn_wide.2 h)).mono ?_
  rintro e w' ⟨rfl, hb⟩
  exact k w' hb

set_option maxRecDepth 100000 in
set_option maxHeartbeats 4000000 in
theorem greatest_any (w0 : World) (v : Value) (k : Int) (es : List (FA w0)) (hle : es.length ≤ 1048576) (g : Nat) (lb : Array Value) (p : Fact → Bool) (wp : World) (hp : Holds g lb p wp) (hp0 : Below w0.heap.size w0 wp) (w : World) (hpw : Below wp.heap.size wp w) (hS : Sl w (· < w.heap.size) 7 v es.length (fcells es)) :
    Calls Try.prog 27 #[v, .int .i64 k, .func (.func g) #[] lb] w fun e W' => e = .returned (.int .u32 (great (facts es) k p : Nat)) ∧ Below w.heap.size w W' := by
  have hS' := hS
  obtain ⟨-, A, c, rfl, -, -, -, -⟩ := hS
  have HP := Lib.hid hp
  clear hp
  refine (callsIn_wide (n := 9)).1 ?_
  refine callsIn_of_wp_marks Try.func27 rfl trivial ?_ rfl
  simp only [Try.ntmps27, List.size_toArray, List.length_cons, List.length_nil, Nat.reduceAdd, Nat.reduceSub, Array.replicate_succ, Array.replicate_zero, List.push_toArray, List.append_toArray, List.nil_append, List.cons_append]
  gi_wp2_with (refine ⟨trivial, ?_⟩; gi_at_call 23; refine (callsIn_wide.2 (kind_any A es.length c k _)).mono ?_; rintro e w' ⟨rfl, rfl⟩)
  have bG := ((((Boxed.new w 48 (.func (.func g) #[] lb)).alloc (.cells #[.int .u32 0] 23)).alloc (.cells #[.slice A es.length c] 22)).alloc (.cells #[.int .i64 k] 3))
  have bN := ((Boxed.new (w.alloc (.cells #[.func (.func g) #[] lb] 48)) 23 (.int .u32 0)).alloc (.cells #[.slice A es.length c] 22)).alloc (.cells #[.int .i64 k] 3)
  have bL := (Boxed.new ((w.alloc (.cells #[.func (.func g) #[] lb] 48)).alloc (.cells #[.int .u32 0] 23)) 22 (.slice A es.length c)).alloc (.cells #[.int .i64 k] 3)
  have bK := Boxed.new (((w.alloc (.cells #[.func (.func g) #[] lb] 48)).alloc (.cells #[.int .u32 0] 23)).alloc (.cells #[.slice A es.length c] 22)) 3 (.int .i64 k)
  have hB0 : Below w.heap.size w ((((w.alloc (.cells #[.func (.func g) #[] lb] 48)).alloc (.cells #[.int .u32 0] 23)).alloc (.cells #[.slice A es.length c] 22)).alloc (.cells #[.int .i64 k] 3)) :=
    ((((Below.refl _ w).alloc (Nat.le_refl _) _).alloc (by simp) _).alloc (by simp; omega) _).alloc (by simp; omega) _
  simp only [World.size_alloc] at bG bN bL bK ⊢
  have hsz : ((((w.alloc (.cells #[.func (.func g) #[] lb] 48)).alloc (.cells #[.int .u32 0] 23)).alloc (.cells #[.slice A es.length c] 22)).alloc (.cells #[.int .i64 k] 3)).heap.size = w.heap.size + 4 := by simp
  obtain ⟨W0, hW0⟩ : ∃ W0, (((w.alloc (.cells #[.func (.func g) #[] lb] 48)).alloc (.cells #[.int .u32 0] 23)).alloc (.cells #[.slice A es.length c] 22)).alloc (.cells #[.int .i64 k] 3) = W0 := ⟨_, rfl⟩
  rw [hW0] at bG bN bL bK hB0 hsz ⊢
  clear hW0
  refine wpIn_rangeFunc_ownH rfl (by decide) (gf := 50) (lb := #[.pointer (some ⟨w.heap.size + 1 + 1, 0, none⟩), .pointer (some ⟨w.heap.size + 1 + 1 + 1, 0, none⟩)]) rfl trivial (enters_of Try.func50 (by kernel_rfl) rfl)
    (kind1_stops w0 Fence.wide 8 trivial rfl (by decide) (w.heap.size + 1 + 1) (w.heap.size + 1 + 1 + 1) w.heap.size _ k es W0 bL.cell bK.cell (by omega) (Sl.below hS' (by decide) hB0) (by omega)) kk_t (kk_b (by omega) (by omega)) (Below.refl _ _) (fun _ => rfl)
    (fun pre W => ((Boxed W (w.heap.size + 1) 23 (.int .u32 (greatL p pre : Nat)) ∧ Boxed W w.heap.size 48 (.func (.func g) #[] lb)) ∧ Boxed W (w.heap.size + 1 + 1 + 1) 3 (.int .i64 k)) ∧ Below w.heap.size w W)
    (fun _ _ _ => False)
    (OwnFrom.and (OwnFrom.and (OwnFrom.and (Own.from (boxed_own _ _ _) _) (Own.from (boxed_own _ _ _) _)) (Own.from (boxed_own _ _ _) _)) (ownFrom_below (Nat.le_refl _) (by omega)))
    (fun _ _ _ _ _ hs _ _ => hs)
    ⟨⟨⟨bN, bG⟩, bK⟩, hB0⟩
    (fun x a' W => ∃ Bx, w.heap.size + 1 + 1 + 1 < Bx ∧ FB W Bx x.1.1 x.1.2 ∧ a' = { tmps := #[.slice A es.length c, .int .i64 k, .func (.func g) #[] lb, undef, undef, .pointer (some ⟨w.heap.size, 0, none⟩), .int .u32 0, .pointer (some ⟨w.heap.size + 1, 0, none⟩), .pointer (some ⟨Bx, 0, none⟩), .slice A es.length c, .int .i64 k, .func (.func 50) #[] #[.pointer (some ⟨w.heap.size + 1 + 1, 0, none⟩), .pointer (some ⟨w.heap.size + 1 + 1 + 1, 0, none⟩)], x.1.agg, undef, undef, undef, undef, undef, undef, undef, undef], defers := [] })
    (fun x a' _ X Y row hs hg hr => by obtain ⟨Bx, h1, h2, h3⟩ := hs; exact ⟨Bx, h1, fb_own Bx (fun (_ : Unit) => x.1.1) (fun _ => x.1.2) () X Y row h2 hg (fun r e => (hr r e).2), h3⟩)
    ?assign ?body ?done ?stop
  case assign =>
    rintro l pre ⟨⟨x, vb⟩, hy⟩ W K ⟨⟨⟨b1, b2⟩, bK1⟩, hB1⟩ hK
    obtain ⟨Ab, cb, hvb, -, -, -, -⟩ := Bs.open_ hy.1
    dsimp only at hvb
    subst hvb
    dsimp only [FE.agg, FE.cells, Fact.cells] at hK ⊢
    gi_wp2
    have hsz1 := hB1.size
    have hk1 := bK1.lt
    exact hK _ _ ((KeepsOthers.alloc _ _).from _) ⟨(Below.refl _ W).alloc hB1.size _, Below.heap_alloc _ _ _ hk1⟩ ⟨⟨⟨b1.alloc _, b2.alloc _⟩, bK1.alloc _⟩, hB1.alloc hB1.size _⟩ ⟨W.heap.size, hk1, heap_new W _, rfl⟩
  case body =>
    rintro l pre ⟨⟨x, vb⟩, hy⟩ a' W hl ⟨r, hr⟩ ⟨⟨⟨b1, b2⟩, bK1⟩, hB1⟩ ⟨Bx, hBx, bX, rfl⟩ hlt
    have hy' := hy
    obtain ⟨Ab, cb, hvb, -, -, -, -⟩ := Bs.open_ hy.1
    dsimp only at hvb
    subst hvb
    obtain ⟨y0, y1, y2, y3, y4, y5, y6⟩ := FB.cells bX
    have hc := b2.cell
    have hcall := HP.out.2 W (x, .slice Ab x.bytes.length cb) (hpw.trans (hB1.mono hpw.size)) ((Bs.belowB hy'.1 hp0).imp (fun _ _ hl => Nat.lt_of_lt_of_le hl hp0.size))
    dsimp only [FE.agg, FE.cells, Fact.cells] at y0 y1 y2 y3 y4 y5 y6 hcall ⊢
    cases hq : p x with
    | true =>
      rw [hq] at hcall
      have HC := Lib.hid hcall
      clear hcall
      gi_wp2
      refine ⟨trivial, ?_⟩
      refine uponIn_fn l rfl HP.out.1 HC.out ?_
      intro w2 hb2
      have n1 : Boxed w2 (w.heap.size + 1) 23 (.int .u32 (greatL p pre : Nat)) := heap_bl hb2 b1
      have n2 : Boxed w2 w.heap.size 48 (.func (.func g) #[] lb) := heap_bl hb2 b2
      have n3 : Boxed w2 (w.heap.size + 1 + 1 + 1) 3 (.int .i64 k) := heap_bl hb2 bK1
      have nX : FB w2 Bx x (.slice Ab x.bytes.length cb) := heap_bl hb2 bX
      obtain ⟨x0, x1, x2, x3, x4, x5, x6⟩ := FB.cells nX
      have m1 := n1.cell
      have m2 := n1.frozen
      have fin : ∀ q : Nat, q = greatL p (pre ++ [(⟨(x, .slice Ab x.bytes.length cb), hy⟩ : FA w0)]) → KeepsFrom (w.heap.size + 4) W (w2.setCell ⟨w.heap.size + 1, 0, none⟩ (.int .u32 (q : Nat))) ∧ KK w.heap.size (w.heap.size + 1 + 1 + 1) W (w2.setCell ⟨w.heap.size + 1, 0, none⟩ (.int .u32 (q : Nat))) ∧
          (((Boxed (w2.setCell ⟨w.heap.size + 1, 0, none⟩ (.int .u32 (q : Nat))) (w.heap.size + 1) 23 (.int .u32 (greatL p (pre ++ [(⟨(x, .slice Ab x.bytes.length cb), hy⟩ : FA w0)]) : Nat)) ∧ Boxed (w2.setCell ⟨w.heap.size + 1, 0, none⟩ (.int .u32 (q : Nat))) w.heap.size 48 (.func (.func g) #[] lb)) ∧
            Boxed (w2.setCell ⟨w.heap.size + 1, 0, none⟩ (.int .u32 (q : Nat))) (w.heap.size + 1 + 1 + 1) 3 (.int .i64 k)) ∧ Below w.heap.size w (w2.setCell ⟨w.heap.size + 1, 0, none⟩ (.int .u32 (q : Nat)))) := by
        rintro q rfl
        refine ⟨(KeepsFrom.of_grownBy (below_any hb2) (fun j e => by cases e)).trans ((KeepsOthers.setCell _ _ _).from _), ⟨(hb2.mono hB1.size).setCell (p := ⟨w.heap.size + 1, 0, none⟩) (by simp) _, ?_⟩, ⟨⟨n1.set _, n2.other (by omega) _⟩, n3.other (by omega) _⟩, (hB1.trans (hb2.mono hB1.size)).setCell (p := ⟨w.heap.size + 1, 0, none⟩) (by simp) _⟩
        exact (Below.heap_setCell _ _ _ _ (by dsimp only; omega)).trans (hb2.block _ bK1.lt)
      have hgs := greatL_snoc p pre ⟨(x, .slice Ab x.bytes.length cb), hy⟩
      rw [if_pos hq] at hgs
      have HG := Lib.hid hgs
      have FIN := Lib.hid fin
      clear hgs fin n1 n2 n3 nX b1 b2 bK1 bX hB1 hb2
      gi_wp2
      · exact FIN.out _ (by rw [HG.out]; omega)
      · exact FIN.out _ (by rw [HG.out]; omega)
    | false =>
      rw [hq] at hcall
      have HC := Lib.hid hcall
      clear hcall
      gi_wp2
      refine ⟨trivial, ?_⟩
      refine uponIn_fn l rfl HP.out.1 HC.out ?_
      intro w2 hb2
      have n1 : Boxed w2 (w.heap.size + 1) 23 (.int .u32 (greatL p pre : Nat)) := heap_bl hb2 b1
      have n2 : Boxed w2 w.heap.size 48 (.func (.func g) #[] lb) := heap_bl hb2 b2
      have n3 : Boxed w2 (w.heap.size + 1 + 1 + 1) 3 (.int .i64 k) := heap_bl hb2 bK1
      have hgs := greatL_snoc p pre ⟨(x, .slice Ab x.bytes.length cb), hy⟩
      rw [if_neg (by rw [hq]; decide)] at hgs
      have HG := Lib.hid hgs
      have hkk : KK w.heap.size (w.heap.size + 1 + 1 + 1) W w2 := ⟨hb2.mono hB1.size, hb2.block _ bK1.lt⟩
      have hkf : KeepsFrom W0.heap.size W w2 := KeepsFrom.of_grownBy (below_any hb2) (fun j e => by cases e)
      have HX := Lib.hid (And.intro hkf (And.intro hkk (And.intro (And.intro (And.intro n1 n2) n3) (hB1.trans (hb2.mono hB1.size)))))
      clear hgs n1 n2 n3 b1 b2 bK1 bX hB1 hb2 hkk hkf
      gi_wp2
      have := HX.out
      rw [← HG.out] at this
      exact this
  case done =>
    rintro D ys W hD rfl ⟨⟨⟨b1, b2⟩, bK1⟩, hB1⟩ hK
    have hc := b1.cell
    gi_wp2
    refine ⟨by simp, .inl ⟨_, _, rfl, run_takeDeferred hK, ?_⟩⟩
    exact ⟨_, results_tmp rfl _ _ _, by rw [greatL_all]; rfl, hB1.trans (belowK_b (w := w) (Nat.le_refl _) W D _ _ (by omega) hK rfl rfl)⟩
  case stop =>
    rintro D c pre W _ _ h _
    exact h.elim

end Go.Proofs.Ytfdijgdojejimaa
