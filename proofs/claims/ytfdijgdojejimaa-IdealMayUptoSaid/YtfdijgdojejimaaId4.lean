/- Layer 27: the facts of a kind, collected. No condition beyond sizes. -/
import Derived.Test.YtfdijgdojejimaaId3
namespace Go.Proofs.Ytfdijgdojejimaa
open Go.RowKit Go.Shelf K L
set_option linter.unusedVariables false
set_option linter.unusedSimpArgs false
attribute [local go_sem] Oper.semAt_some

theorem kind_any (A : Option Addr) (n c : Nat) (k : Int) (w : World) : Calls Try.prog 23 #[.slice A n c, .int .i64 k] w fun e w' =>
    e = .returned (.func (.func 50) #[] #[.pointer (some ⟨w.heap.size, 0, none⟩), .pointer (some ⟨w.heap.size + 1, 0, none⟩)]) ∧ w' = (w.alloc (.cells #[.slice A n c] 22)).alloc (.cells #[.int .i64 k] 3) := by
  go_enter Try.func23, Try.ntmps23
  go_wp2
  go_ret
  exact ⟨rfl, rfl⟩

theorem kind1_stops (w0 : World) (F : Fence) (n : Nat) (h50 : F.fn 50) (hro : F.round = none) (hn : 1 ≤ n) (Bl Bk n₀ : Nat) (v : Value) (k : Int) (es : List (FA w0)) (w : World)
    (hl : w.cell? ⟨Bl, 0, none⟩ = some v) (hk : w.cell? ⟨Bk, 0, none⟩ = some (.int .i64 k)) (hBl : Bl < w.heap.size) (hS : Sl w (· < n₀) 7 v es.length ((es.map (·.1)).flatMap FE.cells)) (hn0 : n₀ ≤ w.heap.size) :
    SeqStopsK F n Try.prog 50 #[.pointer (some ⟨Bl, 0, none⟩), .pointer (some ⟨Bk, 0, none⟩)] (fun x : FA w0 => #[x.1.agg]) (KK n₀ Bk) (fun ys => ys = es.filter (kin k)) (fun pre => pre <+: es.filter (kin k)) es.length w :=
  fun l J Jx W hW hJ hJx hY h0 =>
    kind1_in w0 F n h50 hro hn l Bl Bk n₀ v k es J Jx W hJ hY ((hW.cell (p := ⟨Bl, 0, none⟩) hBl).trans hl) ((hW.cell (p := ⟨Bk, 0, none⟩) (World.block_lt_of_cell? w _ hk)).trans hk) (Sl.below hS (by decide) hW) h0 (Nat.le_trans hn0 hW.size)

/-- Elements of facts. -/
theorem elF : Elem Try.prog 22 26 7 80 (.agg #[.int .i64 0, .int .i64 0, .int .i64 0, .int .u32 0, .string ⟨#[]⟩, .int .i64 0, .slice none 0 0]) :=
  ⟨Try.underlying22, by kernel_rfl, rfl, by decide⟩

theorem cells_new (w : World) (cs : List Value) (t : TypeId) (hm : 1 ≤ cs.length) : ∀ j u, cs[j]? = some u → (w.alloc (.cells cs.toArray t)).cell? ((⟨w.heap.size, 0, none⟩ : Addr).add j) = some u := by
  intro j u hj
  obtain ⟨_, A, c, e, _, _, _, h⟩ := Sl.lit w cs t cs.length 1 (by simp) (by decide)
  cases e
  obtain ⟨ad, e, _, h⟩ := h (by decide)
  cases e
  exact h j u hj

theorem fb_own {β : Type} (B : Nat) (f : β → Fact) (v : β → Value) : Own (fun s W => FB W B (f s) (v s)) := fun s X Y row hs hg hrow =>
  (hg.block B (heap_lt hs) (fun e' => by obtain ⟨o, ho, hc⟩ := hrow B e'.symm; rw [show X.heap[B]? = _ from hs] at ho; cases ho; cases hc)).trans hs

theorem one_fact {e : FE} {F : Nat → Prop} {w : World} (h : Bs w F e.2 e.1.bytes) : ∀ u ∈ e.cells, u.oneCell' = true := by
  obtain ⟨x, vb⟩ := e
  obtain ⟨A, c, hv, -⟩ := h.open_
  dsimp only at hv
  subst hv
  intro u hu
  simp only [FE.cells, Fact.cells, List.mem_cons, List.not_mem_nil, or_false] at hu
  rcases hu with rfl | rfl | rfl | rfl | rfl | rfl | rfl <;> rfl

/-- The cells of a list. -/
def fcells {w0 : World} (es : List (FA w0)) : List Value := (es.map (·.1)).flatMap FE.cells
theorem fcells_snoc {w0 : World} (es : List (FA w0)) (x : FA w0) : fcells (es ++ [x]) = fcells es ++ x.1.cells := by simp [fcells]

theorem row_cast {W : World} {base e k n m : Nat} {v : Value} {xs ys : List Value} (h : W.ownsRow base e k v n xs) (hn : n = m) (hx : xs = ys) : W.ownsRow base e k v m ys := by subst hn hx; exact h

set_option maxRecDepth 100000 in
set_option maxHeartbeats 4000000 in
theorem appendSeq (w0 : World) (Bl Bk : Nat) (v : Value) (k : Int) (es : List (FA w0)) (hle : es.length ≤ 1048576) (w : World)
    (hl : w.cell? ⟨Bl, 0, none⟩ = some v) (hk : w.cell? ⟨Bk, 0, none⟩ = some (.int .i64 k)) (hS : Sl w (· < w.heap.size) 7 v es.length (fcells es)) :
    Calls Try.prog 49 #[.slice none 0 0, .func (.func 50) #[] #[.pointer (some ⟨Bl, 0, none⟩), .pointer (some ⟨Bk, 0, none⟩)]] w fun e W' =>
      ∃ v', e = .returned v' ∧ W'.ownsRow w.heap.size 26 7 v' (es.filter (kin k)).length (fcells (es.filter (kin k))) ∧ Below w.heap.size w W' := by
  obtain ⟨i0, hi, hz0, hz1, hz2⟩ := info_parts elF.info
  have hBl : Bl < w.heap.size := World.block_lt_of_cell? w _ hl
  have hBk : Bk < w.heap.size := World.block_lt_of_cell? w _ hk
  refine (callsIn_wide (n := 9)).1 ?_
  refine callsIn_of_wp_marks Try.func49 rfl trivial ?_ rfl
  simp only [Try.ntmps49, List.size_toArray, List.length_cons, List.length_nil, Nat.reduceAdd, Nat.reduceSub, Array.replicate_succ, Array.replicate_zero, List.push_toArray, List.append_toArray, List.nil_append, List.cons_append]
  gi_wp2
  have bO := Boxed.new w 22 (.slice none 0 0)
  have hB0 : Below w.heap.size w (w.alloc (.cells #[.slice none 0 0] 22)) := (Below.refl _ w).alloc (Nat.le_refl _) _
  refine wpIn_rangeFunc_ownH rfl (by decide) (gf := 50) (lb := #[.pointer (some ⟨Bl, 0, none⟩), .pointer (some ⟨Bk, 0, none⟩)]) rfl trivial (enters_of Try.func50 (by kernel_rfl) rfl)
    (kind1_stops w0 Fence.wide 8 trivial rfl (by decide) Bl Bk w.heap.size v k es _ (cell_al hl _) (cell_al hk _) (by simp; omega) (Sl.below hS (by decide) hB0) (by simp)) kk_t (kk_b (by simp) (by simp; omega)) (Below.refl _ _) (fun _ => rfl)
    (fun pre W => (∃ u, Boxed W w.heap.size 22 u ∧ W.ownsRow w.heap.size 26 7 u pre.length (fcells pre) ∧ True) ∧ Below w.heap.size w W)
    (fun _ _ _ => False)
    (OwnFrom.and (Own.from (holdsRow_own w.heap.size w.heap.size 22 26 7 (fun pre => pre.length) (fun pre => fcells pre) (fun pre v => True)) _) (ownFrom_below (Nat.le_refl _) (by simp)))
    (fun _ _ _ _ _ hs _ _ => hs)
    ⟨⟨_, bO, World.ownsRow_nil _ _ _ _, trivial⟩, hB0⟩
    (fun x a' W => ∃ Bx, w.heap.size < Bx ∧ FB W Bx x.1.1 x.1.2 ∧ a' = { tmps := #[.slice none 0 0, .func (.func 50) #[] #[.pointer (some ⟨Bl, 0, none⟩), .pointer (some ⟨Bk, 0, none⟩)], .pointer (some ⟨w.heap.size, 0, none⟩), undef, .slice none 0 0, .pointer (some ⟨Bx, 0, none⟩), .func (.func 50) #[] #[.pointer (some ⟨Bl, 0, none⟩), .pointer (some ⟨Bk, 0, none⟩)], x.1.agg, undef, undef, undef, undef, undef], defers := [] })
    (fun x a' _ X Y row hs hg hr => by obtain ⟨Bx, h1, h2, h3⟩ := hs; exact ⟨Bx, h1, fb_own Bx (fun (_ : Unit) => x.1.1) (fun _ => x.1.2) () X Y row h2 hg (fun r e => (hr r e).2), h3⟩)
    ?assign ?body ?done ?stop
  case assign =>
    rintro l pre ⟨⟨x, vb⟩, hy⟩ W K ⟨⟨u, hu, hrow, -⟩, hB1⟩ hK
    obtain ⟨Ab, cb, hvb, -, -, -, -⟩ := Bs.open_ hy.1
    dsimp only at hvb
    subst hvb
    dsimp only [FE.agg, FE.cells, Fact.cells] at hK ⊢
    gi_wp2
    exact hK _ _ ((KeepsOthers.alloc _ _).from _) (kk_low ((Below.refl _ W).alloc hB1.size _) hBk) ⟨⟨u, hu.alloc _, hrow.alloc _, trivial⟩, hB1.alloc hB1.size _⟩ ⟨W.heap.size, hu.lt, heap_new W _, rfl⟩
  case body =>
    rintro l pre ⟨⟨x, vb⟩, hy⟩ a' W hl ⟨r, hr⟩ ⟨⟨u, hu, hrow, -⟩, hB1⟩ ⟨Bx, hBx, bX, rfl⟩ hlt
    obtain ⟨Ab, cb, hvb, -, -, -, -⟩ := Bs.open_ hy.1
    dsimp only at hvb
    subst hvb
    obtain ⟨y0, y1, y2, y3, y4, y5, y6⟩ := FB.cells bX
    have hc := hu.cell
    dsimp only [FE.agg, FE.cells, Fact.cells] at y0 y1 y2 y3 y4 y5 y6 ⊢
    gi_wp2_with (gi_at_builtin; refine wpListIn_append_own _ rfl _ _ 22 rfl w.heap.size 26 i0 _ 7 80 elF.ut hi hz0 hz1 hz2 rfl (by decide) _ _ _ rfl (hrow.alloc _) ⟨W.heap.size, 0, none⟩ 1 1 [.int .i64 x.kind, .int .i64 x.node, .int .i64 x.frm, .int .u32 (x.number : Nat), .string ⟨x.name.toArray⟩, .int .i64 x.code, .slice Ab x.bytes.length cb] rfl rfl (cells_new _ _ _ (by simp)) (one_fact hy.1) (by simp only [maxLen]; omega) (by omega) (by have := hB1.size; simp; omega) ?_; intro v' w1 hown' hgrow _; obtain ⟨g', cap', rfl⟩ := ownsRow_succ hown'; obtain ⟨hv1, hv2, hr2, hk2, hb2⟩ := hu.appended (by decide) hrow hB1.size (Nat.le_refl _) hown' hgrow; have hc1 := hv1.cell; have hf1 := hv1.frozen)
    exact ⟨hk2.from _, kk_low hb2 hBk, ⟨_, hv2, row_cast hr2 (by simp) (fcells_snoc pre ⟨(x, .slice Ab x.bytes.length cb), hy⟩).symm⟩, hB1.trans hb2⟩
  case done =>
    rintro D ys W hD rfl ⟨⟨u, hu, hrow, -⟩, hB1⟩ hK
    have hc := hu.cell
    gi_wp2
    refine ⟨by simp, .inl ⟨_, _, rfl, run_takeDeferred hK, ?_⟩⟩
    exact ⟨_, results_tmp rfl _ _ _, u, rfl, ownsRow_putObj hrow _ hK rfl, hB1.trans (belowK_b (w := w) (Nat.le_refl _) W D _ _ (by simp at hD; omega) hK rfl rfl)⟩
  case stop =>
    rintro D c pre W _ _ h _
    exact h.elim

set_option maxHeartbeats 1000000 in
theorem collect_any (w0 : World) (Bl Bk : Nat) (v : Value) (k : Int) (es : List (FA w0)) (hle : es.length ≤ 1048576) (w : World)
    (hl : w.cell? ⟨Bl, 0, none⟩ = some v) (hk : w.cell? ⟨Bk, 0, none⟩ = some (.int .i64 k)) (hS : Sl w (· < w.heap.size) 7 v es.length (fcells es)) :
    Calls Try.prog 22 #[.func (.func 50) #[] #[.pointer (some ⟨Bl, 0, none⟩), .pointer (some ⟨Bk, 0, none⟩)]] w fun e W' =>
      ∃ v', e = .returned v' ∧ W'.ownsRow w.heap.size 26 7 v' (es.filter (kin k)).length (fcells (es.filter (kin k))) ∧ Below w.heap.size w W' := by
  go_enter Try.func22, Try.ntmps22
  go_wp2_with fail
  refine (appendSeq w0 Bl Bk v k es hle w hl hk hS).mono ?_
  rintro e w' ⟨v', rfl, ho, hb⟩
  go_wp2
  go_ret
  exact ⟨_, rfl, ho, hb⟩

/-- The past: a slice of facts in a box. -/
def PB (w : World) (b : Nat) (w0 : World) (es : List (FA w0)) : Prop := ∃ v, w.heap[b]? = some (.cells #[v] 22) ∧ Sl w (· < w.heap.size) 7 v es.length (fcells es)
theorem PB.below {w w' w0 : World} {b : Nat} {es : List (FA w0)} (h : PB w b w0 es) (hb : Below w.heap.size w w') : PB w' b w0 es := by
  obtain ⟨v, h1, h2⟩ := h
  exact ⟨v, heap_bl hb h1, (Sl.below h2 (by decide) hb).imp (fun _ hl _ => hl) (by decide)⟩

def facts {w0 : World} (es : List (FA w0)) : List Fact := es.map (·.1.1)

theorem hv_facts {w0 : World} (es : List (FA w0)) (k : Int) (p : Fact → Bool) : (((es.filter (kin k)).map (·.1)).any fun e => p e.1) = hv (facts es) k p := by
  induction es with
  | nil => rfl
  | cons x es ih =>
    have ih' : (((es.filter (kin k)).map (·.1)).any fun e => p e.1) = (es.map (·.1.1)).any fun x => decide (x.kind = k) && p x := ih
    show (((List.filter (kin k) (x :: es)).map (·.1)).any fun e => p e.1) = ((decide (x.1.1.kind = k) && p x.1.1) || (es.map (·.1.1)).any fun x => decide (x.kind = k) && p x)
    by_cases h : x.1.1.kind = k
    · rw [List.filter_cons_of_pos (by simp [kin, h]), ← ih', List.map_cons, List.any_cons]; simp [h]
    · rw [List.filter_cons_of_neg (by simp [kin, h]), ← ih']; simp [h]

theorem hv_facts2 {w0 : World} (es : List (FA w0)) (k : Int) (p : Fact → Bool) : (es.any fun a => kin k a && p a.val.fst) = hv (facts es) k p := by
  rw [← hv_facts, List.any_map, List.any_filter]; rfl

set_option maxHeartbeats 2000000 in
/-- 'have': is there one of a kind of which a function value tells? -/
theorem have_any (w0 : World) (b : Nat) (es : List (FA w0)) (hle : es.length ≤ 1048576) (k : Int) (g : Nat) (lb : Array Value) (p : Fact → Bool) (wp : World) (hp : Holds g lb p wp) (hp0 : Below w0.heap.size w0 wp) (w : World) (hpw : Below wp.heap.size wp w) (hB : PB w b w0 es) :
    Calls Try.prog 20 #[.int .i64 k, .func (.func g) #[] lb, .pointer (some ⟨b, 0, none⟩)] w fun e w' => e = .returned (.bool (hv (facts es) k p)) ∧ Below w.heap.size w w' := by
  obtain ⟨v, hbx, hS⟩ := hB
  have hcb := cell_of hbx 0
  simp at hcb
  have hS' := hS
  obtain ⟨-, A, c, rfl, -, -, -, -⟩ := hS
  clear hbx
  have HP := Lib.hid hp
  clear hp
  go_enter Try.func20, Try.ntmps20
  go_wp2_with fail
  refine (kind_any A es.length c k w).mono ?_
  rintro e w' ⟨rfl, rfl⟩
  have hb1 : Below w.heap.size w ((w.alloc (.cells #[.slice A es.length c] 22)).alloc (.cells #[.int .i64 k] 3)) := ((Below.refl _ _).alloc (Nat.le_refl _) _).alloc (by simp) _
  have hl1 := (Boxed.new w 22 (.slice A es.length c)).alloc (.cells #[.int .i64 k] 3)
  have hk1 := Boxed.new (w.alloc (.cells #[.slice A es.length c] 22)) 3 (.int .i64 k)
  rw [World.size_alloc] at hk1
  have hS1 := (Sl.below hS' (by decide) hb1).imp_lt (by decide)
  generalize (w.alloc (.cells #[.slice A es.length c] 22)).alloc (.cells #[.int .i64 k] 3) = w1 at *
  go_wp2_with fail
  refine (collect_any w0 w.heap.size (w.heap.size + 1) _ k es hle w1 hl1.cell hk1.cell hS1).mono ?_
  rintro e w2 ⟨v2, rfl, ho, hb2⟩
  have hs2 := Sl.of_own ho
  have hs2' := hs2
  obtain ⟨-, A2, c2, rfl, -, -, -, -⟩ := hs2
  go_wp2_with fail
  refine (some_any g lb p wp HP.out _ ((es.filter (kin k)).map (·.1)) w2 _ (by rw [List.length_map]; exact hs2') (hpw.trans ((hb1.mono hpw.size).trans (hb2.mono (Nat.le_trans hpw.size hb1.size)))) ?_).mono ?_
  · intro e he
    obtain ⟨x, -, rfl⟩ := List.mem_map.1 he
    exact (Bs.belowB x.2.1 hp0).imp (fun _ _ hl => Nat.lt_of_lt_of_le hl hp0.size)
  · rintro e w3 ⟨rfl, hb3⟩
    go_wp2
    go_ret
    exact ⟨ret_bool (hv_facts2 es k p), below_tr (below_tr hb1 hb2) hb3⟩

end Go.Proofs.Ytfdijgdojejimaa
