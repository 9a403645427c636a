/- Law 27's walk: IdealMay. No condition beyond sizes. -/
import Derived.Test.YtfdijgdojejimaaIdV
import Derived.Test.YtfdijgdojejimaaG2
namespace Go.Proofs.Ytfdijgdojejimaa
open Go.RowKit Go.Shelf K L
set_option linter.unusedVariables false
set_option linter.unusedSimpArgs false

def CopP (n : Nat) (es : List FE) (w : World) (v : Value) : Prop := ∃ ls, OwnFs w n 0 v ls ∧ ls.map (·.1) = es.map (·.1)
theorem CopP.fresh {n : Nat} {es : List FE} {w w' : World} {v : Value} (h : CopP n es w v) (hb : Below w.heap.size w w') : CopP n es w' v := by
  obtain ⟨ls, h1, h2⟩ := h
  exact ⟨ls, h1.below hb, h2⟩
def LitP (f : Fact) (vf : Value) (w : World) (v : Value) : Prop := ∃ F, Sl w F 7 v 1 (f.cells vf)
theorem LitP.fresh {f : Fact} {vf : Value} {w w' : World} {v : Value} (h : LitP f vf w v) (hb : Below w.heap.size w w') : LitP f vf w' v := by
  obtain ⟨F, h⟩ := h
  exact ⟨F, Sl.below h (by decide) hb⟩
def AppP (fs : List Fact) (w : World) (v : Value) : Prop := ∃ es, Ls w v es ∧ es.map (·.1) = fs
theorem AppP.fresh {fs : List Fact} {w w' : World} {v : Value} (h : AppP fs w v) (hb : Below w.heap.size w w') : AppP fs w' v := by
  obtain ⟨es, h1, h2⟩ := h
  exact ⟨es, h1.below hb, h2⟩

theorem ownfs_low {w : World} {n m : Nat} {u : Value} {ls : List FE} (h : OwnFs w n 0 u ls) (hm : m ≤ n) : OwnFs w m 0 u ls :=
  ⟨own_low h.1 hm, fun e he => (h.2 e he).imp fun b _ hF => ⟨Nat.le_trans hm hF.1, hF.2⟩⟩

theorem app_ls {w1 wq w' : World} {v v' vf : Value} {ls : List FE} {f : Fact} (hO : OwnFs wq w1.heap.size 0 v ls) (hg : wq.grownBy w' v.ownBlock) (ho : w'.ownsRow w1.heap.size 26 7 v' (ls.length + 1) (ls.flatMap FE.cells ++ f.cells vf))
    (hf : Bs w1 (· < w1.heap.size) vf f.bytes) (hB : Below w1.heap.size w1 w') (hl : ∀ e ∈ ls, e.1.bytes.length ≤ 1048576) (hfl : f.bytes.length ≤ 1048576) : Ls w' v' (ls ++ [((f, vf) : FE)]) := by
  refine ⟨(Sl.of_own (row_cast ho (by simp) (show ls.flatMap FE.cells ++ f.cells vf = (ls ++ [((f, vf) : FE)]).flatMap FE.cells by rw [List.flatMap_append]; simp [FE.cells]))).imp_lt (by decide), fun e he => ?_⟩
  rcases List.mem_append.1 he with he | he
  · exact ⟨bst_lt (bst_kept hg (not5_of_row hO.1) (hO.2 e he)), hl e he⟩
  · obtain rfl := List.mem_singleton.1 he
    exact ⟨bs_lift hf hB, hfl⟩

section
variable {P : Program} {o : Oper} {a : Act} {w : World} {K : Act → World → Prop} {Q : Exit → Act → World → Prop}
theorem st_appF {t e k bytes : Nat} {z : Value} (E : Elem P t e k bytes z) (s x : Operand) (ho : o.op = .call { callee := .builtin .append, args := #[s, x], argTypes := #[t, t] }) (base : Nat) {F : Nat → Prop} {v vx : Value} {n m : Nat} {xs news : List Value}
    (hown : w.ownsRow base e k v n xs) (hsrc : Sl w F k vx m news) (hs : a.eval s = v) (hx : a.eval x = vx) (h1 : ∀ u ∈ news, u.oneCell' = true) (hb : n + m ≤ 1073741824) (hby : bytes ≤ 65536) (hbase : base ≤ w.heap.size)
    (h : ∀ v' w', w'.ownsRow base e k v' (n + m) (xs ++ news) → w.grownBy w' v.ownBlock → K (a.put o.dst v') w') : o.wp P a w K Q := by
  obtain ⟨v', w', hr, h2, h3⟩ := run_app E o.type base hown hsrc h1 hb hby hbase
  unfold Oper.wp execOp
  simp only [ho, resolve, invoke, builtin, Sem.run_bind, Sem.run_pure, Result.andThen_ok, List.map_toArray, List.map_cons, List.map_nil, hs, hx, hr]
  exact h v' w' h2 h3
end

set_option maxRecDepth 100000 in
set_option maxHeartbeats 8000000 in
theorem idealMay_walk (v : Value) (f : Fact) (vf : Value) (w : World) (es : List FE) (hle : es.length + 1 ≤ 1048576) (hL : Ls w v es) (hg : ∀ e ∈ es, e.1.number < 4294967296) (hvf : Bs w (· < w.heap.size) vf f.bytes) (hn : f.number < 4294967296) (hfl : f.bytes.length ≤ 1048576) :
    Calls Try.prog 3 #[v, .agg (f.cells vf).toArray] w fun e w' => e = .returned (.bool true) ∧ Below w.heap.size w w' := by
  have hL' := hL
  obtain ⟨⟨-, A, c, rfl, l1, l2, -, -⟩, -⟩ := hL
  unfold maxLen at l2
  have hvf' := hvf
  obtain ⟨Af, cf, rfl, -, -, -, -⟩ := hvf.open_
  show Calls Try.prog 3 #[.slice A es.length c, .agg #[.int .i64 f.kind, .int .i64 f.node, .int .i64 f.frm, .int .u32 (f.number : Nat), .string ⟨f.name.toArray⟩, .int .i64 f.code, .slice Af f.bytes.length cf]] w _
  have hb0 : Below w.heap.size w (w.alloc (.cells #[.int .i64 f.kind, .int .i64 f.node, .int .i64 f.frm, .int .u32 (f.number : Nat), .string ⟨f.name.toArray⟩, .int .i64 f.code, .slice Af f.bytes.length cf] 26)) := (Below.refl _ _).alloc (Nat.le_refl _) _
  have hX := heap_new w (.cells #[.int .i64 f.kind, .int .i64 f.node, .int .i64 f.frm, .int .u32 (f.number : Nat), .string ⟨f.name.toArray⟩, .int .i64 f.code, .slice Af f.bytes.length cf] 26)
  have hone := one_fact (e := (f, .slice Af f.bytes.length cf)) hvf'
  have HONE := Lib.hid hone
  have HX := Lib.hid hX
  have HB0 := Lib.hid hb0
  clear hX hone hb0
  go_enter Try.func3, Try.ntmps3
  go_wp2_with fail
  refine (wakes_any _).mono ?_
  rintro e w1 ⟨rfl, hb1⟩
  have hX1 := heap_bl hb1 HX.out
  have hb := below_tr HB0.out hb1
  have hL1 := hL'.below hb
  have hv1 := bs_lift hvf' hb
  have HX1 := Lib.hid hX1
  have HL := Lib.hid hL1
  have HV := Lib.hid hv1
  clear hb1 hX1 hL1 hv1 HX HB0 hL' hvf'
  go_wp2
  have hBe : G.Bears [⟨fun (_ : World) (v : Value) => v = .slice A es.length c, none⟩, ⟨fun w v => CopP w1.heap.size es w v, some 4⟩, ⟨fun (_ : World) (v : Value) => v = .agg #[.int .i64 f.kind, .int .i64 f.node, .int .i64 f.frm, .int .u32 (f.number : Nat), .string ⟨f.name.toArray⟩, .int .i64 f.code, .slice Af f.bytes.length cf], none⟩, ⟨fun w v => LitP f (.slice Af f.bytes.length cf) w v, some 4⟩, ⟨fun w v => AppP (es.map (·.1) ++ [f]) w v, none⟩, ⟨fun (_ : World) (v : Value) => v = .bool (largeL (es.map (·.1) ++ [f])), none⟩] := ⟨fun w w' v h hb => h, fun w w' v h hb => by first | exact G.ob_fresh h hb | exact G.keep_bs h hb | exact G.row_fresh h hb | exact CopP.fresh h hb | exact LitP.fresh h hb | exact AppP.fresh h hb, fun w w' v h hb => h, fun w w' v h hb => by first | exact G.ob_fresh h hb | exact G.keep_bs h hb | exact G.row_fresh h hb | exact CopP.fresh h hb | exact LitP.fresh h hb | exact AppP.fresh h hb, fun w w' v h hb => by first | exact G.ob_fresh h hb | exact G.keep_bs h hb | exact G.row_fresh h hb | exact CopP.fresh h hb | exact LitP.fresh h hb | exact AppP.fresh h hb, fun w w' v h hb => h, trivial⟩
  have hP0 : ∀ w w', (fun _ => True) w → Below w.heap.size w w' → (fun _ => True) w' := fun w w' h hb => by first | exact G.ob_fresh h hb | exact G.keep_bs h hb | exact G.row_fresh h hb | trivial
  refine G.region_two (by kernel_rfl) (by kernel_rfl) (G.Own w1 (fun _ => True) 4) (G.of2 [⟨fun (_ : World) (v : Value) => v = .slice A es.length c, none⟩, ⟨fun w v => CopP w1.heap.size es w v, some 4⟩, ⟨fun (_ : World) (v : Value) => v = .agg #[.int .i64 f.kind, .int .i64 f.node, .int .i64 f.frm, .int .u32 (f.number : Nat), .string ⟨f.name.toArray⟩, .int .i64 f.code, .slice Af f.bytes.length cf], none⟩, ⟨fun w v => LitP f (.slice Af f.bytes.length cf) w v, some 4⟩, ⟨fun w v => AppP (es.map (·.1) ++ [f]) w v, none⟩, ⟨fun (_ : World) (v : Value) => v = .bool (largeL (es.map (·.1) ++ [f])), none⟩]) (fun L hL => ⟨(Below.refl _ _).drew, .inr trivial⟩) ?_ (G.each_ops ?_) ?_
  · intro i o hi hd; exact absurd hd (G.no_none (by kernel_rfl) hi)
  · refine ⟨?_, ?_, ?_, ?_, ?_, ?_, trivial⟩
    all_goals intro L a wq hLi hd hcl hU hI hS hp
    all_goals (have hff := heap_bl hI.1 HX1.out; have z0 := cell_of hff 0; have z1 := cell_of hff 1; have z2 := cell_of hff 2; have z3 := cell_of hff 3; have z4 := cell_of hff 4; have z5 := cell_of hff 5; have z6 := cell_of hff 6; simp at z0 z1 z2 z3 z4 z5 z6)
    · refine G.wanted_yes (G.wanted_plain rfl) ?_
      have e0 : a.tmps[0]?.getD undef = .slice A es.length c := hS.at_ 0 rfl
      exact G.st_val (v := .slice A es.length c) (w' := wq) (by simp [execOp, go_sem, e0, z0, z1, z2, z3, z4, z5, z6] <;> omega) ⟨_, rfl, hI.fresh hP0 0 (Below.refl _ _), rfl, G.of2_fresh hBe 0 (Below.refl _ _)⟩
    · refine G.wanted_yes (G.wanted_plain rfl) ?_
      have e7 : a.tmps[7]?.getD undef = .slice A es.length c := hp 0 _ rfl (hd ⟨0, .data⟩ (by simp) rfl)
      exact G.st_call (f := 10) (args := #[.slice A es.length c]) (by simp [execOp, go_sem, e7]) ((copied_any _ wq es (by omega) (HL.out.below hI.1)).mono fun e w' ⟨u, ls, he, hO, hlm, hb⟩ => ⟨_, he, _, rfl, (hI.fresh hP0 1 hb), .inr ⟨ls, ownfs_low hO hI.1.size, hlm⟩, (G.of2_fresh hBe 1 hb)⟩)
    · refine G.wanted_yes (G.wanted_plain rfl) ?_
      have e3 : a.tmps[3]?.getD undef = .pointer (some ⟨w.heap.size, 0, none⟩) := hS.at_ 3 rfl
      exact G.st_val (v := .agg #[.int .i64 f.kind, .int .i64 f.node, .int .i64 f.frm, .int .u32 (f.number : Nat), .string ⟨f.name.toArray⟩, .int .i64 f.code, .slice Af f.bytes.length cf]) (w' := wq) (by simp [execOp, go_sem, e3, z0, z1, z2, z3, z4, z5, z6] <;> omega) ⟨_, rfl, hI.fresh hP0 2 (Below.refl _ _), rfl, G.of2_fresh hBe 2 (Below.refl _ _)⟩
    · refine G.wanted_yes (G.wanted_plain rfl) ?_
      have e9 : a.tmps[9]?.getD undef = .agg #[.int .i64 f.kind, .int .i64 f.node, .int .i64 f.frm, .int .u32 (f.number : Nat), .string ⟨f.name.toArray⟩, .int .i64 f.code, .slice Af f.bytes.length cf] := hp 2 _ rfl (hd ⟨2, .data⟩ (by simp) rfl)
      have hb : Below wq.heap.size wq (wq.alloc (.cells #[.int .i64 f.kind, .int .i64 f.node, .int .i64 f.frm, .int .u32 (f.number : Nat), .string ⟨f.name.toArray⟩, .int .i64 f.code, .slice Af f.bytes.length cf] 26)) := below_al (Below.refl _ _) _; exact G.st_val (v := .slice (some ⟨wq.heap.size, 0, none⟩) 1 1) (w' := wq.alloc (.cells #[.int .i64 f.kind, .int .i64 f.node, .int .i64 f.frm, .int .u32 (f.number : Nat), .string ⟨f.name.toArray⟩, .int .i64 f.code, .slice Af f.bytes.length cf] 26)) (by simp [execOp, go_sem, e9]) ⟨_, rfl, (hI.fresh hP0 3 hb), .inr ⟨_, Sl.lit wq (f.cells (.slice Af f.bytes.length cf)) 26 7 1 rfl (by simp [maxLen])⟩, (G.of2_fresh hBe 3 hb)⟩
    · refine G.wanted_yes (G.wanted_plain rfl) ?_
      have q8 : L 4 = true ∨ (fun w v => CopP w1.heap.size es w v) wq (G.slot a (some 8)) := hp 1 _ rfl (hd ⟨1, .data⟩ (by simp) rfl)
      replace q8 := q8.resolve_left (by rw [hLi]; decide)
      have q10 : L 4 = true ∨ (fun w v => LitP f (.slice Af f.bytes.length cf) w v) wq (G.slot a (some 10)) := hp 3 _ rfl (hd ⟨3, .data⟩ (by simp) rfl)
      replace q10 := q10.resolve_left (by rw [hLi]; decide)
      have own0 := hI.2.resolve_left (by rw [hLi]; decide)
      obtain ⟨ls, hO, hlm⟩ := q8; obtain ⟨F1, hlit⟩ := q10; obtain ⟨hLs, hll, hgs⟩ := ownfs_ls hO hlm HL.out.2 hg; refine st_appF elF (.tmp 8) (.tmp 10) rfl w1.heap.size hO.1 hlit (G.eval_tmp _) (G.eval_tmp _) HONE.out (by omega) (by omega) hI.1.size ?_
      intro v' w' ho hg
      have hB' := own_below hI.1 (hO.1) hg (Nat.le_refl _)
      exact ⟨v', rfl, ⟨hB', .inl (G.more_self _ _)⟩, ⟨ls ++ [(f, .slice Af f.bytes.length cf)], app_ls hO hg ho HV.out hB' (fun e he => (hLs.2 e he).2) hfl, by rw [List.map_append, hlm]; rfl⟩, G.of2_own ⟨fun _ u h => h, fun _ u _ => .inl (G.more_self _ _), fun _ u h => h, fun _ u _ => .inl (G.more_self _ _), fun hL => absurd hL (by rw [hLi]; decide), fun _ u h => h, trivial⟩⟩
    · refine G.wanted_yes (G.wanted_plain rfl) ?_
      have q11 : (fun w v => AppP (es.map (·.1) ++ [f]) w v) wq (G.slot a (some 11)) := hp 4 _ rfl (hd ⟨4, .data⟩ (by simp) rfl)
      obtain ⟨es', hLe, hme⟩ := q11; have hlen : es'.length ≤ 1048576 := (by have := congrArg List.length hme; simp at this; omega); exact G.st_call (f := 9) (args := #[G.slot a (some 11)]) (by simp [execOp, go_sem, G.slot]) ((large_any _ wq es' hlen hLe).mono fun e w' ⟨he, hb⟩ => ⟨_, he, _, rfl, (hI.fresh hP0 5 hb), by rw [hme]; rfl, (G.of2_fresh hBe 5 hb)⟩)
  · intro L a wq hL hI hS hp
    have hT := hI.1
    have e7 : G.slot a (some 7) = .slice A es.length c := hp 0 _ rfl
    have e9 : G.slot a (some 9) = .agg #[.int .i64 f.kind, .int .i64 f.node, .int .i64 f.frm, .int .u32 (f.number : Nat), .string ⟨f.name.toArray⟩, .int .i64 f.code, .slice Af f.bytes.length cf] := hp 2 _ rfl
    have q11 : (fun w v => AppP (es.map (·.1) ++ [f]) w v) wq (G.slot a (some 11)) := hp 4 _ rfl
    have e12 : G.slot a (some 12) = .bool (largeL (es.map (·.1) ++ [f])) := hp 5 _ rfl
    have ha := G.act_of hS
    simp only [List.foldl_cons, List.foldl_nil, Act.put, List.setIfInBounds_toArray, List.set_cons_succ, List.set_cons_zero, e7, e9, e12] at ha
    generalize G.slot a (some 8) = s8 at ha
    generalize G.slot a (some 10) = s10 at ha
    generalize G.slot a (some 11) = s11 at q11 ha
    clear hp hS hI hBe hP0 e7 e9 e12
    subst ha
    have hbq := below_tr hb hT
    have hXq := heap_bl hT HX1.out
    have hLq := HL.out.below hT
    have hvq := bs_lift HV.out hT
    have HW1 := Lib.hid hT.size
    clear hT hb HX1 HL HV
    have HBQ := Lib.hid hbq
    have HX2 := Lib.hid hXq
    have HL := Lib.hid hLq
    have HV := Lib.hid hvq
    clear hbq hXq hLq hvq
    cases hq : largeL (es.map (·.1) ++ [f])
    · obtain ⟨r, hr⟩ : ∃ r, may (es.map (·.1)) f = r := ⟨_, rfl⟩
      have HR := Lib.hid hr
      clear hr
      go_wp2
      refine G.region_inv (by kernel_rfl) (by kernel_rfl) (fun w w' => Below w.heap.size w w') (fun _ _ _ h k => below_tr h k) (fun w _ => Below.refl _ _) (Below.refl _ _)
        (G.of [(fun (_ : World) (v : Value) => v = .slice A es.length c), (fun w v => CopP w1.heap.size es w v), (fun (_ : World) (v : Value) => v = .agg #[.int .i64 f.kind, .int .i64 f.node, .int .i64 f.frm, .int .u32 (f.number : Nat), .string ⟨f.name.toArray⟩, .int .i64 f.code, .slice Af f.bytes.length cf]), (fun (_ : World) (v : Value) => v = .bool r), (fun (_ : World) (v : Value) => v = .slice A es.length c), (fun (_ : World) (v : Value) => v = .agg #[.int .i64 f.kind, .int .i64 f.node, .int .i64 f.frm, .int .u32 (f.number : Nat), .string ⟨f.name.toArray⟩, .int .i64 f.code, .slice Af f.bytes.length cf]), (fun (_ : World) (v : Value) => v = .bool r), (fun (_ : World) (v : Value) => v = .bool true), (fun (_ : World) (v : Value) => v = .bool true)])
        (G.of_stays _ ?_) ?_ (G.each_ops ?_) ?_
      · exact ⟨(fun w w' v h k => h), (fun w w' v h k => by first | exact h | exact G.keep_bs h k | exact Ls.below h k | exact CopP.fresh h k | (obtain ⟨x1, x2, F', hb⟩ := h; exact ⟨x1, x2, F', hb.below k⟩)), (fun w w' v h k => h), (fun w w' v h k => h), (fun w w' v h k => h), (fun w w' v h k => h), (fun w w' v h k => h), (fun w w' v h k => h), (fun w w' v h k => h), trivial⟩
      · intro i o hi hd; exact absurd hd (G.no_none (by kernel_rfl) hi)
      · refine ⟨?_, ?_, ?_, ?_, ?_, ?_, ?_, ?_, ?_, trivial⟩
        all_goals intro a wq hT hS hp
        all_goals (have hTT := below_tr (Below.refl _ _).drew hT; have hff := heap_bl hTT HX2.out; have z0 := cell_of hff 0; have z1 := cell_of hff 1; have z2 := cell_of hff 2; have z3 := cell_of hff 3; have z4 := cell_of hff 4; have z5 := cell_of hff 5; have z6 := cell_of hff 6; simp at z0 z1 z2 z3 z4 z5 z6)
        · refine G.wanted_yes (G.wanted_plain rfl) ?_
          have e0 : a.tmps[0]?.getD undef = .slice A es.length c := hS.at_ 0 rfl
          exact G.st_val (v := .slice A es.length c) (w' := wq) (by simp [execOp, go_sem, e0, z0, z1, z2, z3, z4, z5, z6] <;> omega) ⟨_, rfl, Below.refl _ _, rfl⟩
        · refine G.wanted_yes (G.wanted_plain rfl) ?_
          have e13 : a.tmps[13]?.getD undef = .slice A es.length c := hp ⟨0, .data⟩ (by simp) rfl _ rfl
          exact G.st_call (f := 10) (args := #[.slice A es.length c]) (by simp [execOp, go_sem, e13]) ((copied_any _ _ es (by omega) (HL.out.below hTT)).mono fun e w' ⟨u, ls, he, hO, hlm, hb⟩ => ⟨_, he, _, rfl, hb, ⟨ls, ownfs_low hO (Nat.le_trans HW1.out hTT.size), hlm⟩⟩)
        · refine G.wanted_yes (G.wanted_plain rfl) ?_
          have e3 : a.tmps[3]?.getD undef = .pointer (some ⟨w.heap.size, 0, none⟩) := hS.at_ 3 rfl
          exact G.st_val (v := .agg #[.int .i64 f.kind, .int .i64 f.node, .int .i64 f.frm, .int .u32 (f.number : Nat), .string ⟨f.name.toArray⟩, .int .i64 f.code, .slice Af f.bytes.length cf]) (w' := wq) (by simp [execOp, go_sem, e3, z0, z1, z2, z3, z4, z5, z6] <;> omega) ⟨_, rfl, Below.refl _ _, rfl⟩
        · refine G.wanted_yes (G.wanted_plain rfl) ?_
          have q14 : (fun w v => CopP w1.heap.size es w v) wq (G.slot a (some 14)) := hp ⟨1, .data⟩ (by simp) rfl _ rfl
          have e15 : a.tmps[15]?.getD undef = .agg #[.int .i64 f.kind, .int .i64 f.node, .int .i64 f.frm, .int .u32 (f.number : Nat), .string ⟨f.name.toArray⟩, .int .i64 f.code, .slice Af f.bytes.length cf] := hp ⟨2, .data⟩ (by simp) rfl _ rfl
          obtain ⟨ls, hO, hlm⟩ := q14; obtain ⟨hLs, hll, hgs⟩ := ownfs_ls hO hlm HL.out.2 hg; obtain ⟨-, A5, c5, hv5, -⟩ := hLs.1; rw [hv5] at hLs; exact G.st_call (f := 11) (args := #[.slice A5 ls.length c5, .agg #[.int .i64 f.kind, .int .i64 f.node, .int .i64 f.frm, .int .u32 (f.number : Nat), .string ⟨f.name.toArray⟩, .int .i64 f.code, .slice Af f.bytes.length cf]]) (by simp only [G.slot] at hv5; simp [execOp, go_sem, e15, hv5]) ((may_any A5 c5 _ ls (by omega) f (.slice Af f.bytes.length cf) hLs (bs_lift HV.out hTT) hn hgs).mono fun e w' ⟨he, hB⟩ => ⟨_, he, _, rfl, hB, by rw [hlm, HR.out]; rfl⟩)
        · refine G.wanted_yes (G.wanted_plain rfl) ?_
          have e0 : a.tmps[0]?.getD undef = .slice A es.length c := hS.at_ 0 rfl
          exact G.st_val (v := .slice A es.length c) (w' := wq) (by simp [execOp, go_sem, e0, z0, z1, z2, z3, z4, z5, z6] <;> omega) ⟨_, rfl, Below.refl _ _, rfl⟩
        · refine G.wanted_yes (G.wanted_plain rfl) ?_
          have e3 : a.tmps[3]?.getD undef = .pointer (some ⟨w.heap.size, 0, none⟩) := hS.at_ 3 rfl
          exact G.st_val (v := .agg #[.int .i64 f.kind, .int .i64 f.node, .int .i64 f.frm, .int .u32 (f.number : Nat), .string ⟨f.name.toArray⟩, .int .i64 f.code, .slice Af f.bytes.length cf]) (w' := wq) (by simp [execOp, go_sem, e3, z0, z1, z2, z3, z4, z5, z6] <;> omega) ⟨_, rfl, Below.refl _ _, rfl⟩
        · refine G.wanted_yes (G.wanted_plain rfl) ?_
          have e17 : a.tmps[17]?.getD undef = .slice A es.length c := hp ⟨4, .data⟩ (by simp) rfl _ rfl
          have e18 : a.tmps[18]?.getD undef = .agg #[.int .i64 f.kind, .int .i64 f.node, .int .i64 f.frm, .int .u32 (f.number : Nat), .string ⟨f.name.toArray⟩, .int .i64 f.code, .slice Af f.bytes.length cf] := hp ⟨5, .data⟩ (by simp) rfl _ rfl
          exact G.st_call (f := 12) (args := #[.slice A es.length c, .agg #[.int .i64 f.kind, .int .i64 f.node, .int .i64 f.frm, .int .u32 (f.number : Nat), .string ⟨f.name.toArray⟩, .int .i64 f.code, .slice Af f.bytes.length cf]]) (by simp [execOp, go_sem, e17, e18]) ((rmay_any A c _ es (by omega) f (.slice Af f.bytes.length cf) (HL.out.below hTT) (bs_lift HV.out hTT) hn hg).mono fun e w' ⟨he, hB⟩ => ⟨_, he, _, rfl, hB, by rw [HR.out]; rfl⟩)
        · refine G.wanted_yes (G.wanted_plain rfl) ?_
          have e16 : a.tmps[16]?.getD undef = .bool r := hp ⟨3, .data⟩ (by simp) rfl _ rfl
          have e19 : a.tmps[19]?.getD undef = .bool r := hp ⟨6, .data⟩ (by simp) rfl _ rfl
          exact G.st_val (v := .bool true) (w' := wq) (by simp [execOp, go_sem, e16, e19, z0, z1, z2, z3, z4, z5, z6] <;> omega) ⟨_, rfl, Below.refl _ _, rfl⟩
        · refine G.wanted_yes (G.wanted_plain rfl) ?_
          have e20 : a.tmps[20]?.getD undef = .bool true := hp ⟨7, .data⟩ (by simp) rfl _ rfl
          exact G.st_val (v := .bool true) (w' := wq) (by simp [execOp, go_sem, e20, z0, z1, z2, z3, z4, z5, z6] <;> omega) ⟨_, rfl, Below.refl _ _, rfl⟩
      · intro a wq hT hS hp
        have e13 : G.slot a (some 13) = .slice A es.length c := hp 0 _ rfl
        have q14 : (fun w v => CopP w1.heap.size es w v) wq (G.slot a (some 14)) := hp 1 _ rfl
        have e15 : G.slot a (some 15) = .agg #[.int .i64 f.kind, .int .i64 f.node, .int .i64 f.frm, .int .u32 (f.number : Nat), .string ⟨f.name.toArray⟩, .int .i64 f.code, .slice Af f.bytes.length cf] := hp 2 _ rfl
        have e16 : G.slot a (some 16) = .bool r := hp 3 _ rfl
        have e17 : G.slot a (some 17) = .slice A es.length c := hp 4 _ rfl
        have e18 : G.slot a (some 18) = .agg #[.int .i64 f.kind, .int .i64 f.node, .int .i64 f.frm, .int .u32 (f.number : Nat), .string ⟨f.name.toArray⟩, .int .i64 f.code, .slice Af f.bytes.length cf] := hp 5 _ rfl
        have e19 : G.slot a (some 19) = .bool r := hp 6 _ rfl
        have e20 : G.slot a (some 20) = .bool true := hp 7 _ rfl
        have e4 : G.slot a (some 4) = .bool true := hp 8 _ rfl
        have ha := G.act_of hS
        simp only [List.foldl_cons, List.foldl_nil, Act.put, List.setIfInBounds_toArray, List.set_cons_succ, List.set_cons_zero, e13, e15, e16, e17, e18, e19, e20, e4] at ha
        generalize G.slot a (some 14) = s14 at q14 ha
        clear hp hS e13 e15 e16 e17 e18 e19 e20 e4
        subst ha
        have hbf := below_tr HBQ.out (below_tr (Below.refl _ _).drew hT)
        clear hT
        go_wp2
        go_ret
        exact ⟨rfl, hbf⟩
    · go_wp2
      go_ret
      exact ⟨rfl, HBQ.out⟩

end Go.Proofs.Ytfdijgdojejimaa
