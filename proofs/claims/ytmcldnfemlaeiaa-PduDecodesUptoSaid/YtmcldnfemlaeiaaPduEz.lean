/- Layer 11's walk of Encode at kind 1. No condition beyond sizes. -/
import Derived.Test.YtmcldnfemlaeiaaPduK
import Derived.Test.YtmcldnfemlaeiaaG3
namespace Go.Proofs.Ytmcldnfemlaeiaa
open Go.RowKit K L
set_option linter.unusedVariables false
set_option linter.unusedSimpArgs false

set_option maxRecDepth 100000 in
set_option maxHeartbeats 4000000 in
theorem encode_1 (m : Msg) (vb : Value) (w : World) (F : Nat → Prop) (h : Bs w F vb m.bytes) (hk : m.kind = 1) (hok : m.ok) (hn : m.number < 4294967296) (hu : m.sum < 4294967296) :
    Calls Try.prog 9 #[.agg (m.cells vb).toArray] w fun e w' => ∃ v, e = .returned (.tuple #[v, .int .i64 0]) ∧ Ob w' w.heap.size 5 v m.enc ∧ Below w.heap.size w w' := by
  have hm0 : okErr m = 0 := by rw [okErr, if_pos hok]
  obtain ⟨kind, number, name, size, off, sum, code, bytes⟩ := m
  have ho := hok
  obtain ⟨_, o2, o3, o4, o5, o6, o7, o8, o9, o10, o11, o12, o13⟩ := ho
  dsimp only at hk hn hu h o2 o3 o4 o5 o6 o7 o8 o9 o10 o11 o12 o13
  subst hk
  simp only [show fldN 1 = true from rfl, show fldS 1 = true from rfl, show fldO 1 = false from rfl, show fldU 1 = false from rfl, show fldC 1 = false from rfl, show fldB 1 = false from rfl, eq_self, forall_const, reduceCtorEq, false_implies] at o3 o4 o6 o7 o8 o10 o12
  have offr : 0 ≤ off ∧ off ≤ 4096 := by omega
  have nl : name.length ≤ 24 := by omega
  clear o13
  obtain ⟨sz, rfl⟩ : ∃ n : Nat, size = (n : Int) := ⟨size.toNat, by omega⟩
  obtain ⟨of, rfl⟩ : ∃ n : Nat, off = (n : Int) := ⟨off.toNat, by omega⟩
  obtain ⟨co, rfl⟩ : ∃ n : Nat, code = (n : Int) := ⟨code.toNat, by omega⟩
  have z5 : sz ≤ 4096 := by omega
  have z7 : of ≤ 4096 := by omega
  have z9 : co ≤ 255 := by omega
  have enc : Msg.enc ⟨1, number, name, (sz : Int), (of : Int), sum, (co : Int), bytes⟩ = [UInt8.ofNat 1] ++ be number 4 ++ [UInt8.ofNat name.length] ++ name ++ be sz 2 := by
    unfold Msg.enc
    simp [show fldN 1 = true from rfl, show fldS 1 = true from rfl, show fldO 1 = false from rfl, show fldU 1 = false from rfl, show fldC 1 = false from rfl, show fldB 1 = false from rfl]
  rw [enc]
  have hc := check_any ⟨1, number, name, (sz : Int), (of : Int), sum, (co : Int), bytes⟩ vb
  rw [hm0] at hc
  have HC := Lib.hid hc
  clear hc hm0 hok enc o2 o3 o4 o5 o6 o7 o8 o9 o10 o12 offr 
  have hb := h
  obtain ⟨A, c, rfl, l1, l2, -, -⟩ := h.open_
  unfold maxLen at l2
  clear h
  unfold Msg.cells at HC ⊢
  dsimp only at HC ⊢
  go_enter Try.func9, Try.ntmps9
  go_wp2_with fail
  obtain ⟨hm, hB, hb1, hsz⟩ := box_one w (.cells #[.int .i64 1, .int .u32 (number : Nat), .string ⟨name.toArray⟩, .int .i64 (sz : Nat), .int .i64 (of : Nat), .int .u32 (sum : Nat), .int .i64 (co : Nat), .slice A bytes.length c] 25) _ _ _ hb
  clear hb
  generalize w.alloc (.cells #[.int .i64 1, .int .u32 (number : Nat), .string ⟨name.toArray⟩, .int .i64 (sz : Nat), .int .i64 (of : Nat), .int .u32 (sum : Nat), .int .i64 (co : Nat), .slice A bytes.length c] 25) = W at *
  refine (HC.out _ _ hb1 (Nat.le_trans nl (by decide))).mono ?_
  rintro e w1 ⟨rfl, hB1⟩
  have HM := Lib.hid hm
  have HB0 := Lib.hid hB
  have HSZ := Lib.hid hsz
  clear hm hB hsz HC
  have hB := hB1
  have hm := heap_bl hB HM.out
  have c0 := cell_of hm 0
  have c1 := cell_of hm 1
  have c2 := cell_of hm 2
  have c3 := cell_of hm 3
  have c4 := cell_of hm 4
  have c5 := cell_of hm 5
  have c6 := cell_of hm 6
  have c7 := cell_of hm 7
  simp at c0 c1 c2 c3 c4 c5 c6 c7
  go_wp2_with fail
  refine (fields_is _ 3 rfl _).mono ?_
  rintro e w2 ⟨rfl, rfl⟩
  have a1 := fun o => cell_al c1 o
  go_wp2_with fail
  refine (put32_any _ [UInt8.ofNat 1] number _ _ (lit_bs w1 [UInt8.ofNat 1] #[.int .u8 1] rfl 1 rfl (by decide)) (by decide) hn).mono ?_
  rintro e w3 ⟨s0, rfl, ho, hB3⟩
  replace ho := ho.low (show W.heap.size ≤ _ from by have := hB1.size; simp only [World.size_alloc]; omega)
  replace hB := below_tr (below_al hB1 _) hB3
  clear hB1 hB3 hm a1 c0 c1 c2 c3 c4 c5 c6 c7
  have hm := heap_bl hB HM.out
  have c0 := cell_of hm 0
  have c1 := cell_of hm 1
  have c2 := cell_of hm 2
  have c3 := cell_of hm 3
  have c4 := cell_of hm 4
  have c5 := cell_of hm 5
  have c6 := cell_of hm 6
  have c7 := cell_of hm 7
  simp at c0 c1 c2 c3 c4 c5 c6 c7
  go_wp2_with fail
  refine (has_any 3 1 (by decide) (by decide) _).mono ?_
  rw [show fhas 3 1 = true from by decide]
  rintro e w' ⟨rfl, rfl⟩
  go_wp2
  have hBe : G.Bears [⟨fun (_ : World) (v : Value) => v = s0, none⟩, ⟨fun (_ : World) (v : Value) => v = .pointer (some ⟨w.heap.size, 2, none⟩), none⟩, ⟨fun (_ : World) (v : Value) => v = .string ⟨name.toArray⟩, none⟩, ⟨fun (_ : World) (v : Value) => v = .int .i64 name.length, none⟩, ⟨fun (_ : World) (v : Value) => v = .int .u8 (UInt8.ofNat name.length).toNat, none⟩, ⟨fun w v => ∃ F, Bs w F v [UInt8.ofNat name.length], some 6⟩, ⟨fun w v => Ob w W.heap.size 5 v ([UInt8.ofNat 1] ++ be number 4 ++ [UInt8.ofNat name.length]), some 9⟩, ⟨fun (_ : World) (v : Value) => v = .pointer (some ⟨w.heap.size, 2, none⟩), none⟩, ⟨fun (_ : World) (v : Value) => v = .string ⟨name.toArray⟩, none⟩, ⟨fun w v => Ob w W.heap.size 5 v ([UInt8.ofNat 1] ++ be number 4 ++ [UInt8.ofNat name.length] ++ name), none⟩, ⟨fun w v => Ob w W.heap.size 5 v ([UInt8.ofNat 1] ++ be number 4 ++ [UInt8.ofNat name.length] ++ name), none⟩] := ⟨fun w w' v h hb => h, fun w w' v h hb => h, fun w w' v h hb => h, fun w w' v h hb => h, fun w w' v h hb => h, fun w w' v h hb => by first | exact G.ob_fresh h hb | exact G.keep_bs h hb | exact G.row_fresh h hb | exact CopP.fresh h hb | exact LitP.fresh h hb | exact AppP.fresh h hb, fun w w' v h hb => by first | exact G.ob_fresh h hb | exact G.keep_bs h hb | exact G.row_fresh h hb | exact CopP.fresh h hb | exact LitP.fresh h hb | exact AppP.fresh h hb, fun w w' v h hb => h, fun w w' v h hb => h, fun w w' v h hb => by first | exact G.ob_fresh h hb | exact G.keep_bs h hb | exact G.row_fresh h hb | exact CopP.fresh h hb | exact LitP.fresh h hb | exact AppP.fresh h hb, fun w w' v h hb => by first | exact G.ob_fresh h hb | exact G.keep_bs h hb | exact G.row_fresh h hb | exact CopP.fresh h hb | exact LitP.fresh h hb | exact AppP.fresh h hb, trivial⟩
  have hP0 : ∀ w w', (fun w => Ob w W.heap.size 5 s0 ([UInt8.ofNat 1] ++ be number 4)) w → Below w.heap.size w w' → (fun w => Ob w W.heap.size 5 s0 ([UInt8.ofNat 1] ++ be number 4)) w' := fun w w' h hb => by first | exact G.ob_fresh h hb | exact G.keep_bs h hb | exact G.row_fresh h hb | trivial
  refine G.region_two (by kernel_rfl) (by kernel_rfl) (G.Own W (fun w => Ob w W.heap.size 5 s0 ([UInt8.ofNat 1] ++ be number 4)) 6) (G.of2 [⟨fun (_ : World) (v : Value) => v = s0, none⟩, ⟨fun (_ : World) (v : Value) => v = .pointer (some ⟨w.heap.size, 2, none⟩), none⟩, ⟨fun (_ : World) (v : Value) => v = .string ⟨name.toArray⟩, none⟩, ⟨fun (_ : World) (v : Value) => v = .int .i64 name.length, none⟩, ⟨fun (_ : World) (v : Value) => v = .int .u8 (UInt8.ofNat name.length).toNat, none⟩, ⟨fun w v => ∃ F, Bs w F v [UInt8.ofNat name.length], some 6⟩, ⟨fun w v => Ob w W.heap.size 5 v ([UInt8.ofNat 1] ++ be number 4 ++ [UInt8.ofNat name.length]), some 9⟩, ⟨fun (_ : World) (v : Value) => v = .pointer (some ⟨w.heap.size, 2, none⟩), none⟩, ⟨fun (_ : World) (v : Value) => v = .string ⟨name.toArray⟩, none⟩, ⟨fun w v => Ob w W.heap.size 5 v ([UInt8.ofNat 1] ++ be number 4 ++ [UInt8.ofNat name.length] ++ name), none⟩, ⟨fun w v => Ob w W.heap.size 5 v ([UInt8.ofNat 1] ++ be number 4 ++ [UInt8.ofNat name.length] ++ name), none⟩]) (fun L hL => ⟨hB.drew, .inr (World.ownsRow.drew ho)⟩) ?_ (G.each_ops ?_) ?_
  · intro i o hi hd; exact absurd hd (G.no_none (by kernel_rfl) hi)
  · refine ⟨?_, ?_, ?_, ?_, ?_, ?_, ?_, ?_, ?_, ?_, ?_, trivial⟩
    all_goals intro L a wq hLi hd hcl hU hI hS hp
    all_goals (have c2 := cell_of (heap_bl hI.1 HM.out) 2; simp at c2)
    · refine G.wanted_yes (G.wanted_plain rfl) ?_
      have e6 : a.tmps[6]?.getD undef = s0 := hU 6 (G.unlisted 6 10 hLi hcl rfl (by kernel_rfl) .phase (by simp) rfl)
      exact G.st_val (v := s0) (w' := wq) (by simp [execOp, go_sem, e6, c2] <;> omega) ⟨_, rfl, hI.fresh hP0 0 (Below.refl _ _), rfl, G.of2_fresh hBe 0 (Below.refl _ _)⟩
    · refine G.wanted_yes (G.wanted_plain rfl) ?_
      have e1 : a.tmps[1]?.getD undef = .pointer (some ⟨w.heap.size, 0, none⟩) := hS.at_ 1 rfl
      exact G.st_val (v := .pointer (some ⟨w.heap.size, 2, none⟩)) (w' := wq) (by simp [execOp, go_sem, e1, c2] <;> omega) ⟨_, rfl, hI.fresh hP0 1 (Below.refl _ _), rfl, G.of2_fresh hBe 1 (Below.refl _ _)⟩
    · refine G.wanted_yes (G.wanted_plain rfl) ?_
      have e25 : a.tmps[25]?.getD undef = .pointer (some ⟨w.heap.size, 2, none⟩) := hp 1 _ rfl (hd ⟨1, .data⟩ (by simp) rfl)
      exact G.st_val (v := .string ⟨name.toArray⟩) (w' := wq) (by simp [execOp, go_sem, e25, c2] <;> omega) ⟨_, rfl, hI.fresh hP0 2 (Below.refl _ _), rfl, G.of2_fresh hBe 2 (Below.refl _ _)⟩
    · refine G.wanted_yes (G.wanted_plain rfl) ?_
      have e26 : a.tmps[26]?.getD undef = .string ⟨name.toArray⟩ := hp 2 _ rfl (hd ⟨2, .data⟩ (by simp) rfl)
      exact G.st_val (v := .int .i64 name.length) (w' := wq) (by simp [execOp, go_sem, e26, c2] <;> omega) ⟨_, rfl, hI.fresh hP0 3 (Below.refl _ _), rfl, G.of2_fresh hBe 3 (Below.refl _ _)⟩
    · refine G.wanted_yes (G.wanted_plain rfl) ?_
      have e27 : a.tmps[27]?.getD undef = .int .i64 name.length := hp 3 _ rfl (hd ⟨3, .data⟩ (by simp) rfl)
      have hb := Below.refl wq.heap.size wq; exact G.st_val (v := .int .u8 (UInt8.ofNat name.length).toNat) (w' := wq) (by first | (simp [execOp, go_sem, e27]; done) | (simp [execOp, go_sem, e27]; first | exact byte_rem _ | (rw [← byte_rem]; omega))) ⟨_, rfl, (hI.fresh hP0 4 hb), rfl, (G.of2_fresh hBe 4 hb)⟩
    · refine G.wanted_yes (G.wanted_plain rfl) ?_
      have e28 : a.tmps[28]?.getD undef = .int .u8 (UInt8.ofNat name.length).toNat := hp 4 _ rfl (hd ⟨4, .data⟩ (by simp) rfl)
      have hb : Below wq.heap.size wq (wq.alloc (.cells #[.int .u8 (UInt8.ofNat name.length).toNat] 5)) := below_al (Below.refl _ _) _; exact G.st_val (v := .slice (some ⟨wq.heap.size, 0, none⟩) 1 1) (w' := wq.alloc (.cells #[.int .u8 (UInt8.ofNat name.length).toNat] 5)) (by simp [execOp, go_sem, e28]) ⟨_, rfl, (hI.fresh hP0 5 hb), .inr ⟨_, lit_bs wq [UInt8.ofNat name.length] _ rfl 1 rfl (by simp)⟩, (G.of2_fresh hBe 5 hb)⟩
    · refine G.wanted_yes (G.wanted_plain rfl) ?_
      have e24 : a.tmps[24]?.getD undef = s0 := hp 0 _ rfl (hd ⟨0, .data⟩ (by simp) rfl)
      have q29 : L 6 = true ∨ (fun w v => ∃ F, Bs w F v [UInt8.ofNat name.length]) wq (G.slot a (some 29)) := hp 5 _ rfl (hd ⟨5, .data⟩ (by simp) rfl)
      replace q29 := q29.resolve_left (by rw [hLi]; decide)
      have own0 := hI.2.resolve_left (by rw [hLi]; decide)
      obtain ⟨F1, hq⟩ := q29; refine G.st_app Try.el8 (.tmp 24) (.tmp 29) rfl W.heap.size own0 hq (by rw [G.eval_tmp]; exact e24) (G.eval_tmp _) (by simp [be_len] <;> omega) hI.1.size ?_
      intro v' w' ho hg
      have hB' := own_below hI.1 (own0) hg (Nat.le_refl _)
      exact ⟨v', rfl, ⟨hB', .inl (G.more_self _ _)⟩, .inr ho, G.of2_own ⟨fun _ u h => h, fun _ u h => h, fun _ u h => h, fun _ u h => h, fun _ u h => h, fun _ u _ => .inl (G.more_self _ _), fun hL => absurd hL (by rw [hLi]; decide), fun _ u h => h, fun _ u h => h, fun hL => absurd (hcl 9 _ rfl hL ⟨6, .data⟩ (by simp) rfl) (by rw [hLi]; decide), fun hL => absurd (hcl 10 _ rfl hL ⟨6, .phase⟩ (by simp) rfl) (by rw [hLi]; decide), trivial⟩⟩
    · refine G.wanted_yes (G.wanted_plain rfl) ?_
      have e1 : a.tmps[1]?.getD undef = .pointer (some ⟨w.heap.size, 0, none⟩) := hS.at_ 1 rfl
      exact G.st_val (v := .pointer (some ⟨w.heap.size, 2, none⟩)) (w' := wq) (by simp [execOp, go_sem, e1, c2] <;> omega) ⟨_, rfl, hI.fresh hP0 7 (Below.refl _ _), rfl, G.of2_fresh hBe 7 (Below.refl _ _)⟩
    · refine G.wanted_yes (G.wanted_plain rfl) ?_
      have e31 : a.tmps[31]?.getD undef = .pointer (some ⟨w.heap.size, 2, none⟩) := hp 7 _ rfl (hd ⟨7, .data⟩ (by simp) rfl)
      exact G.st_val (v := .string ⟨name.toArray⟩) (w' := wq) (by simp [execOp, go_sem, e31, c2] <;> omega) ⟨_, rfl, hI.fresh hP0 8 (Below.refl _ _), rfl, G.of2_fresh hBe 8 (Below.refl _ _)⟩
    · refine G.wanted_yes (G.wanted_plain rfl) ?_
      have q30 : L 9 = true ∨ (fun w v => Ob w W.heap.size 5 v ([UInt8.ofNat 1] ++ be number 4 ++ [UInt8.ofNat name.length])) wq (G.slot a (some 30)) := hp 6 _ rfl (hd ⟨6, .data⟩ (by simp) rfl)
      replace q30 := q30.resolve_left (by rw [hLi]; decide)
      have e32 : a.tmps[32]?.getD undef = .string ⟨name.toArray⟩ := hp 8 _ rfl (hd ⟨8, .data⟩ (by simp) rfl)
      refine G.st_app_str Try.el8 Try.underlying9 (.tmp 30) (.tmp 32) rfl W.heap.size q30 (G.eval_tmp _) (by rw [G.eval_tmp]; exact e32) (by simp [be_len] <;> omega) hI.1.size ?_
      intro v' w' ho hg
      have hB' := own_below hI.1 (q30) hg (Nat.le_refl _)
      exact ⟨v', rfl, ⟨hB', .inl (G.more_old _ (hd ⟨6, .data⟩ (by simp) rfl))⟩, ho, G.of2_own ⟨fun _ u h => h, fun _ u h => h, fun _ u h => h, fun _ u h => h, fun _ u h => h, fun _ u _ => .inl (G.more_old _ (hd ⟨6, .data⟩ (by simp) rfl)), fun _ u _ => .inl (G.more_self _ _), fun _ u h => h, fun _ u h => h, fun hL => absurd hL (by rw [hLi]; decide), fun hL => absurd (hcl 10 _ rfl hL ⟨9, .data⟩ (by simp) rfl) (by rw [hLi]; decide), trivial⟩⟩
    · refine G.wanted_yes (G.wanted_plain rfl) ?_
      have q33 : (fun w v => Ob w W.heap.size 5 v ([UInt8.ofNat 1] ++ be number 4 ++ [UInt8.ofNat name.length] ++ name)) wq (G.slot a (some 33)) := hp 9 _ rfl (hd ⟨9, .data⟩ (by simp) rfl)
      exact G.st_move (.inr rfl) ⟨_, rfl, hI.fresh hP0 10 (Below.refl _ _), q33, G.of2_fresh hBe 10 (Below.refl _ _)⟩
  · intro L a wq hL hI hS hp
    have hT := hI.1
    have e24 : G.slot a (some 24) = s0 := hp 0 _ rfl
    have e25 : G.slot a (some 25) = .pointer (some ⟨w.heap.size, 2, none⟩) := hp 1 _ rfl
    have e26 : G.slot a (some 26) = .string ⟨name.toArray⟩ := hp 2 _ rfl
    have e27 : G.slot a (some 27) = .int .i64 name.length := hp 3 _ rfl
    have e28 : G.slot a (some 28) = .int .u8 (UInt8.ofNat name.length).toNat := hp 4 _ rfl
    have e31 : G.slot a (some 31) = .pointer (some ⟨w.heap.size, 2, none⟩) := hp 7 _ rfl
    have e32 : G.slot a (some 32) = .string ⟨name.toArray⟩ := hp 8 _ rfl
    have q33 : (fun w v => Ob w W.heap.size 5 v ([UInt8.ofNat 1] ++ be number 4 ++ [UInt8.ofNat name.length] ++ name)) wq (G.slot a (some 33)) := hp 9 _ rfl
    have q6 : (fun w v => Ob w W.heap.size 5 v ([UInt8.ofNat 1] ++ be number 4 ++ [UInt8.ofNat name.length] ++ name)) wq (G.slot a (some 6)) := hp 10 _ rfl
    have ha := G.act_of hS
    simp only [List.foldl_cons, List.foldl_nil, Act.put, List.setIfInBounds_toArray, List.set_cons_succ, List.set_cons_zero, e24, e25, e26, e27, e28, e31, e32] at ha
    generalize G.slot a (some 29) = s29 at ha
    generalize G.slot a (some 30) = s30 at ha
    generalize G.slot a (some 33) = s33 at q33 ha
    generalize G.slot a (some 6) = s6 at q6 ha
    clear hp hS hI hBe hP0 e24 e25 e26 e27 e28 e31 e32
    subst ha
    replace ho := q6
    replace hB := hT
    have hm := heap_bl hB HM.out
    have c0 := cell_of hm 0
    have c1 := cell_of hm 1
    have c2 := cell_of hm 2
    have c3 := cell_of hm 3
    have c4 := cell_of hm 4
    have c5 := cell_of hm 5
    have c6 := cell_of hm 6
    have c7 := cell_of hm 7
    simp at c0 c1 c2 c3 c4 c5 c6 c7
    go_wp2_with fail
    refine (has_any 3 2 (by decide) (by decide) _).mono ?_
    rw [show fhas 3 2 = true from by decide]
    rintro e w' ⟨rfl, rfl⟩
    go_wp2_with fail
    refine (put16_any _ _ sz _ _ ho.bs (by simp [be_len] <;> omega) (by omega)).mono ?_
    rintro e w' ⟨v', rfl, ho', hB'⟩
    replace ho := ho'.low (show W.heap.size ≤ _ from hB.size)
    replace hB := below_tr hB hB'
    clear ho' hB'
    clear hm c0 c1 c2 c3 c4 c5 c6 c7
    have hm := heap_bl hB HM.out
    have c0 := cell_of hm 0
    have c1 := cell_of hm 1
    have c2 := cell_of hm 2
    have c3 := cell_of hm 3
    have c4 := cell_of hm 4
    have c5 := cell_of hm 5
    have c6 := cell_of hm 6
    have c7 := cell_of hm 7
    simp at c0 c1 c2 c3 c4 c5 c6 c7
    go_wp2_with fail
    refine (has_any 3 4 (by decide) (by decide) _).mono ?_
    rw [show fhas 3 4 = false from by decide]
    rintro e w' ⟨rfl, rfl⟩
    go_wp2_with fail
    refine (has_any 3 8 (by decide) (by decide) _).mono ?_
    rw [show fhas 3 8 = false from by decide]
    rintro e w' ⟨rfl, rfl⟩
    go_wp2_with fail
    refine (has_any 3 16 (by decide) (by decide) _).mono ?_
    rw [show fhas 3 16 = false from by decide]
    rintro e w' ⟨rfl, rfl⟩
    go_wp2_with fail
    refine (has_any 3 32 (by decide) (by decide) _).mono ?_
    rw [show fhas 3 32 = false from by decide]
    rintro e w' ⟨rfl, rfl⟩
    go_wp2
    go_ret2
    exact ⟨_, rfl, by simpa using ho.low HB0.out.size, below_tr HB0.out hB⟩

end Go.Proofs.Ytmcldnfemlaeiaa
namespace Go.Proofs.Ytmcldnfemlaeiaa
open Go.RowKit K L
set_option linter.unusedVariables false
set_option linter.unusedSimpArgs false

set_option maxRecDepth 100000 in
set_option maxHeartbeats 4000000 in
theorem encode_2 (m : Msg) (vb : Value) (w : World) (F : Nat → Prop) (h : Bs w F vb m.bytes) (hk : m.kind = 2) (hok : m.ok) (hn : m.number < 4294967296) (hu : m.sum < 4294967296) :
    Calls Try.prog 9 #[.agg (m.cells vb).toArray] w fun e w' => ∃ v, e = .returned (.tuple #[v, .int .i64 0]) ∧ Ob w' w.heap.size 5 v m.enc ∧ Below w.heap.size w w' := by
  have hm0 : okErr m = 0 := by rw [okErr, if_pos hok]
  obtain ⟨kind, number, name, size, off, sum, code, bytes⟩ := m
  have ho := hok
  obtain ⟨_, o2, o3, o4, o5, o6, o7, o8, o9, o10, o11, o12, o13⟩ := ho
  dsimp only at hk hn hu h o2 o3 o4 o5 o6 o7 o8 o9 o10 o11 o12 o13
  subst hk
  simp only [show fldN 2 = false from rfl, show fldS 2 = false from rfl, show fldO 2 = true from rfl, show fldU 2 = false from rfl, show fldC 2 = false from rfl, show fldB 2 = true from rfl, eq_self, forall_const, reduceCtorEq, false_implies] at o3 o4 o6 o7 o8 o10 o12
  obtain ⟨o131, o132, o133⟩ := o13 rfl
  have offr : 0 ≤ off ∧ off ≤ 4096 := by omega
  have nl : name.length ≤ 24 := by omega
  clear o13
  obtain ⟨sz, rfl⟩ : ∃ n : Nat, size = (n : Int) := ⟨size.toNat, by omega⟩
  obtain ⟨of, rfl⟩ : ∃ n : Nat, off = (n : Int) := ⟨off.toNat, by omega⟩
  obtain ⟨co, rfl⟩ : ∃ n : Nat, code = (n : Int) := ⟨code.toNat, by omega⟩
  have z5 : sz ≤ 4096 := by omega
  have z7 : of ≤ 4096 := by omega
  have z9 : co ≤ 255 := by omega
  have enc : Msg.enc ⟨2, number, name, (sz : Int), (of : Int), sum, (co : Int), bytes⟩ = [UInt8.ofNat 2] ++ be number 4 ++ be of 2 ++ be bytes.length 2 ++ bytes := by
    unfold Msg.enc
    simp [show fldN 2 = false from rfl, show fldS 2 = false from rfl, show fldO 2 = true from rfl, show fldU 2 = false from rfl, show fldC 2 = false from rfl, show fldB 2 = true from rfl]
  rw [enc]
  have hc := check_any ⟨2, number, name, (sz : Int), (of : Int), sum, (co : Int), bytes⟩ vb
  rw [hm0] at hc
  have HC := Lib.hid hc
  clear hc hm0 hok enc o2 o3 o4 o5 o6 o7 o8 o9 o10 o12 offr o131 o132 o133
  have hb := h
  obtain ⟨A, c, rfl, l1, l2, -, -⟩ := h.open_
  unfold maxLen at l2
  clear h
  unfold Msg.cells at HC ⊢
  dsimp only at HC ⊢
  go_enter Try.func9, Try.ntmps9
  go_wp2_with fail
  obtain ⟨hm, hB, hb1, hsz⟩ := box_one w (.cells #[.int .i64 2, .int .u32 (number : Nat), .string ⟨name.toArray⟩, .int .i64 (sz : Nat), .int .i64 (of : Nat), .int .u32 (sum : Nat), .int .i64 (co : Nat), .slice A bytes.length c] 25) _ _ _ hb
  clear hb
  generalize w.alloc (.cells #[.int .i64 2, .int .u32 (number : Nat), .string ⟨name.toArray⟩, .int .i64 (sz : Nat), .int .i64 (of : Nat), .int .u32 (sum : Nat), .int .i64 (co : Nat), .slice A bytes.length c] 25) = W at *
  refine (HC.out _ _ hb1 (Nat.le_trans nl (by decide))).mono ?_
  rintro e w1 ⟨rfl, hB1⟩
  have HM := Lib.hid hm
  have HB0 := Lib.hid hB
  have HSZ := Lib.hid hsz
  clear hm hB hsz HC
  have hB := hB1
  have hm := heap_bl hB HM.out
  have c0 := cell_of hm 0
  have c1 := cell_of hm 1
  have c2 := cell_of hm 2
  have c3 := cell_of hm 3
  have c4 := cell_of hm 4
  have c5 := cell_of hm 5
  have c6 := cell_of hm 6
  have c7 := cell_of hm 7
  simp at c0 c1 c2 c3 c4 c5 c6 c7
  go_wp2_with fail
  refine (fields_is _ 36 rfl _).mono ?_
  rintro e w2 ⟨rfl, rfl⟩
  have a1 := fun o => cell_al c1 o
  go_wp2_with fail
  refine (put32_any _ [UInt8.ofNat 2] number _ _ (lit_bs w1 [UInt8.ofNat 2] #[.int .u8 2] rfl 1 rfl (by decide)) (by decide) hn).mono ?_
  rintro e w3 ⟨s0, rfl, ho, hB3⟩
  replace ho := ho.low (show W.heap.size ≤ _ from by have := hB1.size; simp only [World.size_alloc]; omega)
  replace hB := below_tr (below_al hB1 _) hB3
  clear hB1 hB3 hm a1 c0 c1 c2 c3 c4 c5 c6 c7
  have hm := heap_bl hB HM.out
  have c0 := cell_of hm 0
  have c1 := cell_of hm 1
  have c2 := cell_of hm 2
  have c3 := cell_of hm 3
  have c4 := cell_of hm 4
  have c5 := cell_of hm 5
  have c6 := cell_of hm 6
  have c7 := cell_of hm 7
  simp at c0 c1 c2 c3 c4 c5 c6 c7
  go_wp2_with fail
  refine (has_any 36 1 (by decide) (by decide) _).mono ?_
  rw [show fhas 36 1 = false from by decide]
  rintro e w' ⟨rfl, rfl⟩
  go_wp2_with fail
  refine (has_any 36 2 (by decide) (by decide) _).mono ?_
  rw [show fhas 36 2 = false from by decide]
  rintro e w' ⟨rfl, rfl⟩
  go_wp2_with fail
  refine (has_any 36 4 (by decide) (by decide) _).mono ?_
  rw [show fhas 36 4 = true from by decide]
  rintro e w' ⟨rfl, rfl⟩
  go_wp2_with fail
  refine (put16_any _ _ of _ _ ho.bs (by simp [be_len] <;> omega) (by omega)).mono ?_
  rintro e w' ⟨v', rfl, ho', hB'⟩
  replace ho := ho'.low (show W.heap.size ≤ _ from hB.size)
  replace hB := below_tr hB hB'
  clear ho' hB'
  clear hm c0 c1 c2 c3 c4 c5 c6 c7
  have hm := heap_bl hB HM.out
  have c0 := cell_of hm 0
  have c1 := cell_of hm 1
  have c2 := cell_of hm 2
  have c3 := cell_of hm 3
  have c4 := cell_of hm 4
  have c5 := cell_of hm 5
  have c6 := cell_of hm 6
  have c7 := cell_of hm 7
  simp at c0 c1 c2 c3 c4 c5 c6 c7
  go_wp2_with fail
  refine (has_any 36 8 (by decide) (by decide) _).mono ?_
  rw [show fhas 36 8 = false from by decide]
  rintro e w' ⟨rfl, rfl⟩
  go_wp2_with fail
  refine (has_any 36 16 (by decide) (by decide) _).mono ?_
  rw [show fhas 36 16 = false from by decide]
  rintro e w' ⟨rfl, rfl⟩
  go_wp2_with fail
  refine (has_any 36 32 (by decide) (by decide) _).mono ?_
  rw [show fhas 36 32 = true from by decide]
  rintro e w' ⟨rfl, rfl⟩
  go_wp2
  have hw16 : IntKind.u16.wrap (bytes.length : Int) = (bytes.length : Int) := by rw [IntKind.wrap_u16]; omega
  have hBe : G.Bears [⟨fun (_ : World) (v : Value) => v = v', none⟩, ⟨fun (_ : World) (v : Value) => v = .pointer (some ⟨w.heap.size, 7, none⟩), none⟩, ⟨fun (_ : World) (v : Value) => v = .slice A bytes.length c, none⟩, ⟨fun (_ : World) (v : Value) => v = .int .i64 bytes.length, none⟩, ⟨fun (_ : World) (v : Value) => v = .int .u16 (bytes.length : Nat), none⟩, ⟨fun w v => Ob w W.heap.size 5 v (([UInt8.ofNat 2] ++ be number 4) ++ be of 2 ++ be bytes.length 2), some 8⟩, ⟨fun (_ : World) (v : Value) => v = .pointer (some ⟨w.heap.size, 7, none⟩), none⟩, ⟨fun (_ : World) (v : Value) => v = .slice A bytes.length c, none⟩, ⟨fun w v => Ob w W.heap.size 5 v (([UInt8.ofNat 2] ++ be number 4) ++ be of 2 ++ be bytes.length 2 ++ bytes), none⟩, ⟨fun w v => Ob w W.heap.size 5 v (([UInt8.ofNat 2] ++ be number 4) ++ be of 2 ++ be bytes.length 2 ++ bytes), none⟩] := ⟨fun w w' v h hb => h, fun w w' v h hb => h, fun w w' v h hb => h, fun w w' v h hb => h, fun w w' v h hb => h, fun w w' v h hb => by first | exact G.ob_fresh h hb | exact G.keep_bs h hb | exact G.row_fresh h hb | exact CopP.fresh h hb | exact LitP.fresh h hb | exact AppP.fresh h hb, fun w w' v h hb => h, fun w w' v h hb => h, fun w w' v h hb => by first | exact G.ob_fresh h hb | exact G.keep_bs h hb | exact G.row_fresh h hb | exact CopP.fresh h hb | exact LitP.fresh h hb | exact AppP.fresh h hb, fun w w' v h hb => by first | exact G.ob_fresh h hb | exact G.keep_bs h hb | exact G.row_fresh h hb | exact CopP.fresh h hb | exact LitP.fresh h hb | exact AppP.fresh h hb, trivial⟩
  have hP0 : ∀ w w', (fun w => Ob w W.heap.size 5 v' (([UInt8.ofNat 2] ++ be number 4) ++ be of 2)) w → Below w.heap.size w w' → (fun w => Ob w W.heap.size 5 v' (([UInt8.ofNat 2] ++ be number 4) ++ be of 2)) w' := fun w w' h hb => by first | exact G.ob_fresh h hb | exact G.keep_bs h hb | exact G.row_fresh h hb | trivial
  refine G.region_two (by kernel_rfl) (by kernel_rfl) (G.Own W (fun w => Ob w W.heap.size 5 v' (([UInt8.ofNat 2] ++ be number 4) ++ be of 2)) 5) (G.of2 [⟨fun (_ : World) (v : Value) => v = v', none⟩, ⟨fun (_ : World) (v : Value) => v = .pointer (some ⟨w.heap.size, 7, none⟩), none⟩, ⟨fun (_ : World) (v : Value) => v = .slice A bytes.length c, none⟩, ⟨fun (_ : World) (v : Value) => v = .int .i64 bytes.length, none⟩, ⟨fun (_ : World) (v : Value) => v = .int .u16 (bytes.length : Nat), none⟩, ⟨fun w v => Ob w W.heap.size 5 v (([UInt8.ofNat 2] ++ be number 4) ++ be of 2 ++ be bytes.length 2), some 8⟩, ⟨fun (_ : World) (v : Value) => v = .pointer (some ⟨w.heap.size, 7, none⟩), none⟩, ⟨fun (_ : World) (v : Value) => v = .slice A bytes.length c, none⟩, ⟨fun w v => Ob w W.heap.size 5 v (([UInt8.ofNat 2] ++ be number 4) ++ be of 2 ++ be bytes.length 2 ++ bytes), none⟩, ⟨fun w v => Ob w W.heap.size 5 v (([UInt8.ofNat 2] ++ be number 4) ++ be of 2 ++ be bytes.length 2 ++ bytes), none⟩]) (fun L hL => ⟨hB.drew, .inr (World.ownsRow.drew ho)⟩) ?_ (G.each_ops ?_) ?_
  · intro i o hi hd; exact absurd hd (G.no_none (by kernel_rfl) hi)
  · refine ⟨?_, ?_, ?_, ?_, ?_, ?_, ?_, ?_, ?_, ?_, trivial⟩
    all_goals intro L a wq hLi hd hcl hU hI hS hp
    all_goals (have c7 := cell_of (heap_bl hI.1 HM.out) 7; simp at c7)
    · refine G.wanted_yes (G.wanted_plain rfl) ?_
      have e6 : a.tmps[6]?.getD undef = v' := hU 6 (G.unlisted 6 9 hLi hcl rfl (by kernel_rfl) .phase (by simp) rfl)
      exact G.st_val (v := v') (w' := wq) (by simp [execOp, go_sem, e6, c7, hw16] <;> omega) ⟨_, rfl, hI.fresh hP0 0 (Below.refl _ _), rfl, G.of2_fresh hBe 0 (Below.refl _ _)⟩
    · refine G.wanted_yes (G.wanted_plain rfl) ?_
      have e1 : a.tmps[1]?.getD undef = .pointer (some ⟨w.heap.size, 0, none⟩) := hS.at_ 1 rfl
      exact G.st_val (v := .pointer (some ⟨w.heap.size, 7, none⟩)) (w' := wq) (by simp [execOp, go_sem, e1, c7, hw16] <;> omega) ⟨_, rfl, hI.fresh hP0 1 (Below.refl _ _), rfl, G.of2_fresh hBe 1 (Below.refl _ _)⟩
    · refine G.wanted_yes (G.wanted_plain rfl) ?_
      have e65 : a.tmps[65]?.getD undef = .pointer (some ⟨w.heap.size, 7, none⟩) := hp 1 _ rfl (hd ⟨1, .data⟩ (by simp) rfl)
      exact G.st_val (v := .slice A bytes.length c) (w' := wq) (by simp [execOp, go_sem, e65, c7, hw16] <;> omega) ⟨_, rfl, hI.fresh hP0 2 (Below.refl _ _), rfl, G.of2_fresh hBe 2 (Below.refl _ _)⟩
    · refine G.wanted_yes (G.wanted_plain rfl) ?_
      have e66 : a.tmps[66]?.getD undef = .slice A bytes.length c := hp 2 _ rfl (hd ⟨2, .data⟩ (by simp) rfl)
      exact G.st_val (v := .int .i64 bytes.length) (w' := wq) (by simp [execOp, go_sem, e66, c7, hw16] <;> omega) ⟨_, rfl, hI.fresh hP0 3 (Below.refl _ _), rfl, G.of2_fresh hBe 3 (Below.refl _ _)⟩
    · refine G.wanted_yes (G.wanted_plain rfl) ?_
      have e67 : a.tmps[67]?.getD undef = .int .i64 bytes.length := hp 3 _ rfl (hd ⟨3, .data⟩ (by simp) rfl)
      exact G.st_val (v := .int .u16 (bytes.length : Nat)) (w' := wq) (by simp [execOp, go_sem, e67, c7, hw16] <;> omega) ⟨_, rfl, hI.fresh hP0 4 (Below.refl _ _), rfl, G.of2_fresh hBe 4 (Below.refl _ _)⟩
    · refine G.wanted_yes (G.wanted_plain rfl) ?_
      have e64 : a.tmps[64]?.getD undef = v' := hp 0 _ rfl (hd ⟨0, .data⟩ (by simp) rfl)
      have e68 : a.tmps[68]?.getD undef = .int .u16 (bytes.length : Nat) := hp 4 _ rfl (hd ⟨4, .data⟩ (by simp) rfl)
      have own0 := hI.2.resolve_left (by rw [hLi]; decide)
      refine G.st_call (f := 23) (args := #[v', .int .u16 (bytes.length : Nat)]) (by simp [execOp, go_sem, e64, e68]) ((put16_any _ _ bytes.length wq _ own0.bs (by simp [be_len] <;> omega) (by omega)).mono ?_); rintro e w' ⟨v2, rfl, o2, hb⟩; exact ⟨_, rfl, _, rfl, (hI.fresh hP0 5 hb), .inr (o2.low hI.1.size), (G.of2_fresh hBe 5 hb)⟩
    · refine G.wanted_yes (G.wanted_plain rfl) ?_
      have e1 : a.tmps[1]?.getD undef = .pointer (some ⟨w.heap.size, 0, none⟩) := hS.at_ 1 rfl
      exact G.st_val (v := .pointer (some ⟨w.heap.size, 7, none⟩)) (w' := wq) (by simp [execOp, go_sem, e1, c7, hw16] <;> omega) ⟨_, rfl, hI.fresh hP0 6 (Below.refl _ _), rfl, G.of2_fresh hBe 6 (Below.refl _ _)⟩
    · refine G.wanted_yes (G.wanted_plain rfl) ?_
      have e70 : a.tmps[70]?.getD undef = .pointer (some ⟨w.heap.size, 7, none⟩) := hp 6 _ rfl (hd ⟨6, .data⟩ (by simp) rfl)
      exact G.st_val (v := .slice A bytes.length c) (w' := wq) (by simp [execOp, go_sem, e70, c7, hw16] <;> omega) ⟨_, rfl, hI.fresh hP0 7 (Below.refl _ _), rfl, G.of2_fresh hBe 7 (Below.refl _ _)⟩
    · refine G.wanted_yes (G.wanted_plain rfl) ?_
      have q69 : L 8 = true ∨ (fun w v => Ob w W.heap.size 5 v (([UInt8.ofNat 2] ++ be number 4) ++ be of 2 ++ be bytes.length 2)) wq (G.slot a (some 69)) := hp 5 _ rfl (hd ⟨5, .data⟩ (by simp) rfl)
      replace q69 := q69.resolve_left (by rw [hLi]; decide)
      have e71 : a.tmps[71]?.getD undef = .slice A bytes.length c := hp 7 _ rfl (hd ⟨7, .data⟩ (by simp) rfl)
      refine G.st_app Try.el8 (.tmp 69) (.tmp 71) rfl W.heap.size q69 (hb1.below hI.1) (G.eval_tmp _) (by rw [G.eval_tmp]; exact e71) (by simp [be_len] <;> omega) hI.1.size ?_
      intro v' w' ho hg
      have hB' := own_below hI.1 (q69) hg (Nat.le_refl _)
      exact ⟨v', rfl, ⟨hB', .inl (G.more_old _ (hd ⟨5, .data⟩ (by simp) rfl))⟩, ho, G.of2_own ⟨fun _ u h => h, fun _ u h => h, fun _ u h => h, fun _ u h => h, fun _ u h => h, fun _ u _ => .inl (G.more_self _ _), fun _ u h => h, fun _ u h => h, fun hL => absurd hL (by rw [hLi]; decide), fun hL => absurd (hcl 9 _ rfl hL ⟨8, .data⟩ (by simp) rfl) (by rw [hLi]; decide), trivial⟩⟩
    · refine G.wanted_yes (G.wanted_plain rfl) ?_
      have q72 : (fun w v => Ob w W.heap.size 5 v (([UInt8.ofNat 2] ++ be number 4) ++ be of 2 ++ be bytes.length 2 ++ bytes)) wq (G.slot a (some 72)) := hp 8 _ rfl (hd ⟨8, .data⟩ (by simp) rfl)
      exact G.st_move (.inr rfl) ⟨_, rfl, hI.fresh hP0 9 (Below.refl _ _), q72, G.of2_fresh hBe 9 (Below.refl _ _)⟩
  · intro L a wq hL hI hS hp
    have hT := hI.1
    have e64 : G.slot a (some 64) = v' := hp 0 _ rfl
    have e65 : G.slot a (some 65) = .pointer (some ⟨w.heap.size, 7, none⟩) := hp 1 _ rfl
    have e66 : G.slot a (some 66) = .slice A bytes.length c := hp 2 _ rfl
    have e67 : G.slot a (some 67) = .int .i64 bytes.length := hp 3 _ rfl
    have e68 : G.slot a (some 68) = .int .u16 (bytes.length : Nat) := hp 4 _ rfl
    have e70 : G.slot a (some 70) = .pointer (some ⟨w.heap.size, 7, none⟩) := hp 6 _ rfl
    have e71 : G.slot a (some 71) = .slice A bytes.length c := hp 7 _ rfl
    have q72 : (fun w v => Ob w W.heap.size 5 v (([UInt8.ofNat 2] ++ be number 4) ++ be of 2 ++ be bytes.length 2 ++ bytes)) wq (G.slot a (some 72)) := hp 8 _ rfl
    have q6 : (fun w v => Ob w W.heap.size 5 v (([UInt8.ofNat 2] ++ be number 4) ++ be of 2 ++ be bytes.length 2 ++ bytes)) wq (G.slot a (some 6)) := hp 9 _ rfl
    have ha := G.act_of hS
    simp only [List.foldl_cons, List.foldl_nil, Act.put, List.setIfInBounds_toArray, List.set_cons_succ, List.set_cons_zero, e64, e65, e66, e67, e68, e70, e71] at ha
    generalize G.slot a (some 69) = s69 at ha
    generalize G.slot a (some 72) = s72 at q72 ha
    generalize G.slot a (some 6) = s6 at q6 ha
    clear hp hS hI hBe hP0 e64 e65 e66 e67 e68 e70 e71
    subst ha
    replace ho := q6
    replace hB := hT
    go_wp2
    go_ret2
    exact ⟨_, rfl, by simpa using ho.low HB0.out.size, below_tr HB0.out hB⟩

end Go.Proofs.Ytmcldnfemlaeiaa
namespace Go.Proofs.Ytmcldnfemlaeiaa
open Go.RowKit K L
set_option linter.unusedVariables false
set_option linter.unusedSimpArgs false

set_option maxRecDepth 100000 in
set_option maxHeartbeats 4000000 in
theorem encode_3 (m : Msg) (vb : Value) (w : World) (F : Nat → Prop) (h : Bs w F vb m.bytes) (hk : m.kind = 3) (hok : m.ok) (hn : m.number < 4294967296) (hu : m.sum < 4294967296) :
    Calls Try.prog 9 #[.agg (m.cells vb).toArray] w fun e w' => ∃ v, e = .returned (.tuple #[v, .int .i64 0]) ∧ Ob w' w.heap.size 5 v m.enc ∧ Below w.heap.size w w' := by
  have hm0 : okErr m = 0 := by rw [okErr, if_pos hok]
  obtain ⟨kind, number, name, size, off, sum, code, bytes⟩ := m
  have ho := hok
  obtain ⟨_, o2, o3, o4, o5, o6, o7, o8, o9, o10, o11, o12, o13⟩ := ho
  dsimp only at hk hn hu h o2 o3 o4 o5 o6 o7 o8 o9 o10 o11 o12 o13
  subst hk
  simp only [show fldN 3 = false from rfl, show fldS 3 = true from rfl, show fldO 3 = false from rfl, show fldU 3 = true from rfl, show fldC 3 = false from rfl, show fldB 3 = false from rfl, eq_self, forall_const, reduceCtorEq, false_implies] at o3 o4 o6 o7 o8 o10 o12
  have offr : 0 ≤ off ∧ off ≤ 4096 := by omega
  have nl : name.length ≤ 24 := by omega
  clear o13
  obtain ⟨sz, rfl⟩ : ∃ n : Nat, size = (n : Int) := ⟨size.toNat, by omega⟩
  obtain ⟨of, rfl⟩ : ∃ n : Nat, off = (n : Int) := ⟨off.toNat, by omega⟩
  obtain ⟨co, rfl⟩ : ∃ n : Nat, code = (n : Int) := ⟨code.toNat, by omega⟩
  have z5 : sz ≤ 4096 := by omega
  have z7 : of ≤ 4096 := by omega
  have z9 : co ≤ 255 := by omega
  have enc : Msg.enc ⟨3, number, name, (sz : Int), (of : Int), sum, (co : Int), bytes⟩ = [UInt8.ofNat 3] ++ be number 4 ++ be sz 2 ++ be sum 4 := by
    unfold Msg.enc
    simp [show fldN 3 = false from rfl, show fldS 3 = true from rfl, show fldO 3 = false from rfl, show fldU 3 = true from rfl, show fldC 3 = false from rfl, show fldB 3 = false from rfl]
  rw [enc]
  have hc := check_any ⟨3, number, name, (sz : Int), (of : Int), sum, (co : Int), bytes⟩ vb
  rw [hm0] at hc
  have HC := Lib.hid hc
  clear hc hm0 hok enc o2 o3 o4 o5 o6 o7 o8 o9 o10 o12 offr 
  have hb := h
  obtain ⟨A, c, rfl, l1, l2, -, -⟩ := h.open_
  unfold maxLen at l2
  clear h
  unfold Msg.cells at HC ⊢
  dsimp only at HC ⊢
  go_enter Try.func9, Try.ntmps9
  go_wp2_with fail
  obtain ⟨hm, hB, hb1, hsz⟩ := box_one w (.cells #[.int .i64 3, .int .u32 (number : Nat), .string ⟨name.toArray⟩, .int .i64 (sz : Nat), .int .i64 (of : Nat), .int .u32 (sum : Nat), .int .i64 (co : Nat), .slice A bytes.length c] 25) _ _ _ hb
  clear hb
  generalize w.alloc (.cells #[.int .i64 3, .int .u32 (number : Nat), .string ⟨name.toArray⟩, .int .i64 (sz : Nat), .int .i64 (of : Nat), .int .u32 (sum : Nat), .int .i64 (co : Nat), .slice A bytes.length c] 25) = W at *
  refine (HC.out _ _ hb1 (Nat.le_trans nl (by decide))).mono ?_
  rintro e w1 ⟨rfl, hB1⟩
  have HM := Lib.hid hm
  have HB0 := Lib.hid hB
  have HSZ := Lib.hid hsz
  clear hm hB hsz HC
  have hB := hB1
  have hm := heap_bl hB HM.out
  have c0 := cell_of hm 0
  have c1 := cell_of hm 1
  have c2 := cell_of hm 2
  have c3 := cell_of hm 3
  have c4 := cell_of hm 4
  have c5 := cell_of hm 5
  have c6 := cell_of hm 6
  have c7 := cell_of hm 7
  simp at c0 c1 c2 c3 c4 c5 c6 c7
  go_wp2_with fail
  refine (fields_is _ 10 rfl _).mono ?_
  rintro e w2 ⟨rfl, rfl⟩
  have a1 := fun o => cell_al c1 o
  go_wp2_with fail
  refine (put32_any _ [UInt8.ofNat 3] number _ _ (lit_bs w1 [UInt8.ofNat 3] #[.int .u8 3] rfl 1 rfl (by decide)) (by decide) hn).mono ?_
  rintro e w3 ⟨s0, rfl, ho, hB3⟩
  replace ho := ho.low (show W.heap.size ≤ _ from by have := hB1.size; simp only [World.size_alloc]; omega)
  replace hB := below_tr (below_al hB1 _) hB3
  clear hB1 hB3 hm a1 c0 c1 c2 c3 c4 c5 c6 c7
  have hm := heap_bl hB HM.out
  have c0 := cell_of hm 0
  have c1 := cell_of hm 1
  have c2 := cell_of hm 2
  have c3 := cell_of hm 3
  have c4 := cell_of hm 4
  have c5 := cell_of hm 5
  have c6 := cell_of hm 6
  have c7 := cell_of hm 7
  simp at c0 c1 c2 c3 c4 c5 c6 c7
  go_wp2_with fail
  refine (has_any 10 1 (by decide) (by decide) _).mono ?_
  rw [show fhas 10 1 = false from by decide]
  rintro e w' ⟨rfl, rfl⟩
  go_wp2_with fail
  refine (has_any 10 2 (by decide) (by decide) _).mono ?_
  rw [show fhas 10 2 = true from by decide]
  rintro e w' ⟨rfl, rfl⟩
  go_wp2_with fail
  refine (put16_any _ _ sz _ _ ho.bs (by simp [be_len] <;> omega) (by omega)).mono ?_
  rintro e w' ⟨v', rfl, ho', hB'⟩
  replace ho := ho'.low (show W.heap.size ≤ _ from hB.size)
  replace hB := below_tr hB hB'
  clear ho' hB'
  clear hm c0 c1 c2 c3 c4 c5 c6 c7
  have hm := heap_bl hB HM.out
  have c0 := cell_of hm 0
  have c1 := cell_of hm 1
  have c2 := cell_of hm 2
  have c3 := cell_of hm 3
  have c4 := cell_of hm 4
  have c5 := cell_of hm 5
  have c6 := cell_of hm 6
  have c7 := cell_of hm 7
  simp at c0 c1 c2 c3 c4 c5 c6 c7
  go_wp2_with fail
  refine (has_any 10 4 (by decide) (by decide) _).mono ?_
  rw [show fhas 10 4 = false from by decide]
  rintro e w' ⟨rfl, rfl⟩
  go_wp2_with fail
  refine (has_any 10 8 (by decide) (by decide) _).mono ?_
  rw [show fhas 10 8 = true from by decide]
  rintro e w' ⟨rfl, rfl⟩
  go_wp2_with fail
  refine (put32_any _ _ sum _ _ ho.bs (by simp [be_len] <;> omega) (by omega)).mono ?_
  rintro e w' ⟨v', rfl, ho', hB'⟩
  replace ho := ho'.low (show W.heap.size ≤ _ from hB.size)
  replace hB := below_tr hB hB'
  clear ho' hB'
  clear hm c0 c1 c2 c3 c4 c5 c6 c7
  have hm := heap_bl hB HM.out
  have c0 := cell_of hm 0
  have c1 := cell_of hm 1
  have c2 := cell_of hm 2
  have c3 := cell_of hm 3
  have c4 := cell_of hm 4
  have c5 := cell_of hm 5
  have c6 := cell_of hm 6
  have c7 := cell_of hm 7
  simp at c0 c1 c2 c3 c4 c5 c6 c7
  go_wp2_with fail
  refine (has_any 10 16 (by decide) (by decide) _).mono ?_
  rw [show fhas 10 16 = false from by decide]
  rintro e w' ⟨rfl, rfl⟩
  go_wp2_with fail
  refine (has_any 10 32 (by decide) (by decide) _).mono ?_
  rw [show fhas 10 32 = false from by decide]
  rintro e w' ⟨rfl, rfl⟩
  go_wp2
  go_ret2
  exact ⟨_, rfl, by simpa using ho.low HB0.out.size, below_tr HB0.out hB⟩

end Go.Proofs.Ytmcldnfemlaeiaa
namespace Go.Proofs.Ytmcldnfemlaeiaa
open Go.RowKit K L
set_option linter.unusedVariables false
set_option linter.unusedSimpArgs false

set_option maxRecDepth 100000 in
set_option maxHeartbeats 4000000 in
theorem encode_4 (m : Msg) (vb : Value) (w : World) (F : Nat → Prop) (h : Bs w F vb m.bytes) (hk : m.kind = 4) (hok : m.ok) (hn : m.number < 4294967296) (hu : m.sum < 4294967296) :
    Calls Try.prog 9 #[.agg (m.cells vb).toArray] w fun e w' => ∃ v, e = .returned (.tuple #[v, .int .i64 0]) ∧ Ob w' w.heap.size 5 v m.enc ∧ Below w.heap.size w w' := by
  have hm0 : okErr m = 0 := by rw [okErr, if_pos hok]
  obtain ⟨kind, number, name, size, off, sum, code, bytes⟩ := m
  have ho := hok
  obtain ⟨_, o2, o3, o4, o5, o6, o7, o8, o9, o10, o11, o12, o13⟩ := ho
  dsimp only at hk hn hu h o2 o3 o4 o5 o6 o7 o8 o9 o10 o11 o12 o13
  subst hk
  simp only [show fldN 4 = false from rfl, show fldS 4 = false from rfl, show fldO 4 = false from rfl, show fldU 4 = false from rfl, show fldC 4 = true from rfl, show fldB 4 = false from rfl, eq_self, forall_const, reduceCtorEq, false_implies] at o3 o4 o6 o7 o8 o10 o12
  have offr : 0 ≤ off ∧ off ≤ 4096 := by omega
  have nl : name.length ≤ 24 := by omega
  clear o13
  obtain ⟨sz, rfl⟩ : ∃ n : Nat, size = (n : Int) := ⟨size.toNat, by omega⟩
  obtain ⟨of, rfl⟩ : ∃ n : Nat, off = (n : Int) := ⟨off.toNat, by omega⟩
  obtain ⟨co, rfl⟩ : ∃ n : Nat, code = (n : Int) := ⟨code.toNat, by omega⟩
  have z5 : sz ≤ 4096 := by omega
  have z7 : of ≤ 4096 := by omega
  have z9 : co ≤ 255 := by omega
  have enc : Msg.enc ⟨4, number, name, (sz : Int), (of : Int), sum, (co : Int), bytes⟩ = [UInt8.ofNat 4] ++ be number 4 ++ [UInt8.ofNat co] := by
    unfold Msg.enc
    simp [show fldN 4 = false from rfl, show fldS 4 = false from rfl, show fldO 4 = false from rfl, show fldU 4 = false from rfl, show fldC 4 = true from rfl, show fldB 4 = false from rfl]
  rw [enc]
  have hc := check_any ⟨4, number, name, (sz : Int), (of : Int), sum, (co : Int), bytes⟩ vb
  rw [hm0] at hc
  have HC := Lib.hid hc
  clear hc hm0 hok enc o2 o3 o4 o5 o6 o7 o8 o9 o10 o12 offr 
  have hb := h
  obtain ⟨A, c, rfl, l1, l2, -, -⟩ := h.open_
  unfold maxLen at l2
  clear h
  unfold Msg.cells at HC ⊢
  dsimp only at HC ⊢
  go_enter Try.func9, Try.ntmps9
  go_wp2_with fail
  obtain ⟨hm, hB, hb1, hsz⟩ := box_one w (.cells #[.int .i64 4, .int .u32 (number : Nat), .string ⟨name.toArray⟩, .int .i64 (sz : Nat), .int .i64 (of : Nat), .int .u32 (sum : Nat), .int .i64 (co : Nat), .slice A bytes.length c] 25) _ _ _ hb
  clear hb
  generalize w.alloc (.cells #[.int .i64 4, .int .u32 (number : Nat), .string ⟨name.toArray⟩, .int .i64 (sz : Nat), .int .i64 (of : Nat), .int .u32 (sum : Nat), .int .i64 (co : Nat), .slice A bytes.length c] 25) = W at *
  refine (HC.out _ _ hb1 (Nat.le_trans nl (by decide))).mono ?_
  rintro e w1 ⟨rfl, hB1⟩
  have HM := Lib.hid hm
  have HB0 := Lib.hid hB
  have HSZ := Lib.hid hsz
  clear hm hB hsz HC
  have hB := hB1
  have hm := heap_bl hB HM.out
  have c0 := cell_of hm 0
  have c1 := cell_of hm 1
  have c2 := cell_of hm 2
  have c3 := cell_of hm 3
  have c4 := cell_of hm 4
  have c5 := cell_of hm 5
  have c6 := cell_of hm 6
  have c7 := cell_of hm 7
  simp at c0 c1 c2 c3 c4 c5 c6 c7
  go_wp2_with fail
  refine (fields_is _ 16 rfl _).mono ?_
  rintro e w2 ⟨rfl, rfl⟩
  have a1 := fun o => cell_al c1 o
  go_wp2_with fail
  refine (put32_any _ [UInt8.ofNat 4] number _ _ (lit_bs w1 [UInt8.ofNat 4] #[.int .u8 4] rfl 1 rfl (by decide)) (by decide) hn).mono ?_
  rintro e w3 ⟨s0, rfl, ho, hB3⟩
  replace ho := ho.low (show W.heap.size ≤ _ from by have := hB1.size; simp only [World.size_alloc]; omega)
  replace hB := below_tr (below_al hB1 _) hB3
  clear hB1 hB3 hm a1 c0 c1 c2 c3 c4 c5 c6 c7
  have hm := heap_bl hB HM.out
  have c0 := cell_of hm 0
  have c1 := cell_of hm 1
  have c2 := cell_of hm 2
  have c3 := cell_of hm 3
  have c4 := cell_of hm 4
  have c5 := cell_of hm 5
  have c6 := cell_of hm 6
  have c7 := cell_of hm 7
  simp at c0 c1 c2 c3 c4 c5 c6 c7
  go_wp2_with fail
  refine (has_any 16 1 (by decide) (by decide) _).mono ?_
  rw [show fhas 16 1 = false from by decide]
  rintro e w' ⟨rfl, rfl⟩
  go_wp2_with fail
  refine (has_any 16 2 (by decide) (by decide) _).mono ?_
  rw [show fhas 16 2 = false from by decide]
  rintro e w' ⟨rfl, rfl⟩
  go_wp2_with fail
  refine (has_any 16 4 (by decide) (by decide) _).mono ?_
  rw [show fhas 16 4 = false from by decide]
  rintro e w' ⟨rfl, rfl⟩
  go_wp2_with fail
  refine (has_any 16 8 (by decide) (by decide) _).mono ?_
  rw [show fhas 16 8 = false from by decide]
  rintro e w' ⟨rfl, rfl⟩
  go_wp2_with fail
  refine (has_any 16 16 (by decide) (by decide) _).mono ?_
  rw [show fhas 16 16 = true from by decide]
  rintro e w' ⟨rfl, rfl⟩
  go_wp2_with (at_builtin; go_must (refine app Try.el8 rfl _ _ rfl W.heap.size (World.ownsRow.alloc ho _) (Sl.lit _ [_] 5 1 1 rfl (by simp [maxLen])) rfl rfl (by simp [Value.oneCell']) (by simp [be_len] <;> omega) (by omega) (by have := hB.size; simp only [World.size_alloc]; omega) ?_); intro v' w' ho' hg')
  replace hB := push_below hB ho hg' (Nat.le_refl _)
  replace ho := Ob.push (UInt8.ofNat co) ho' (by first | exact byte_rem co | (rw [← byte_rem]; omega))
  clear ho' hg'
  clear hm c0 c1 c2 c3 c4 c5 c6 c7
  have hm := heap_bl hB HM.out
  have c0 := cell_of hm 0
  have c1 := cell_of hm 1
  have c2 := cell_of hm 2
  have c3 := cell_of hm 3
  have c4 := cell_of hm 4
  have c5 := cell_of hm 5
  have c6 := cell_of hm 6
  have c7 := cell_of hm 7
  simp at c0 c1 c2 c3 c4 c5 c6 c7
  go_wp2_with fail
  refine (has_any 16 32 (by decide) (by decide) _).mono ?_
  rw [show fhas 16 32 = false from by decide]
  rintro e w' ⟨rfl, rfl⟩
  go_wp2
  go_ret2
  exact ⟨_, rfl, by simpa using ho.low HB0.out.size, below_tr HB0.out hB⟩

end Go.Proofs.Ytmcldnfemlaeiaa
namespace Go.Proofs.Ytmcldnfemlaeiaa
open Go.RowKit K L
set_option linter.unusedVariables false
set_option linter.unusedSimpArgs false

set_option maxRecDepth 100000 in
set_option maxHeartbeats 4000000 in
theorem encode_5 (m : Msg) (vb : Value) (w : World) (F : Nat → Prop) (h : Bs w F vb m.bytes) (hk : m.kind = 5) (hok : m.ok) (hn : m.number < 4294967296) (hu : m.sum < 4294967296) :
    Calls Try.prog 9 #[.agg (m.cells vb).toArray] w fun e w' => ∃ v, e = .returned (.tuple #[v, .int .i64 0]) ∧ Ob w' w.heap.size 5 v m.enc ∧ Below w.heap.size w w' := by
  have hm0 : okErr m = 0 := by rw [okErr, if_pos hok]
  obtain ⟨kind, number, name, size, off, sum, code, bytes⟩ := m
  have ho := hok
  obtain ⟨_, o2, o3, o4, o5, o6, o7, o8, o9, o10, o11, o12, o13⟩ := ho
  dsimp only at hk hn hu h o2 o3 o4 o5 o6 o7 o8 o9 o10 o11 o12 o13
  subst hk
  simp only [show fldN 5 = true from rfl, show fldS 5 = false from rfl, show fldO 5 = false from rfl, show fldU 5 = false from rfl, show fldC 5 = false from rfl, show fldB 5 = true from rfl, eq_self, forall_const, reduceCtorEq, false_implies] at o3 o4 o6 o7 o8 o10 o12
  have offr : 0 ≤ off ∧ off ≤ 4096 := by omega
  have nl : name.length ≤ 24 := by omega
  clear o13
  obtain ⟨sz, rfl⟩ : ∃ n : Nat, size = (n : Int) := ⟨size.toNat, by omega⟩
  obtain ⟨of, rfl⟩ : ∃ n : Nat, off = (n : Int) := ⟨off.toNat, by omega⟩
  obtain ⟨co, rfl⟩ : ∃ n : Nat, code = (n : Int) := ⟨code.toNat, by omega⟩
  have z5 : sz ≤ 4096 := by omega
  have z7 : of ≤ 4096 := by omega
  have z9 : co ≤ 255 := by omega
  have enc : Msg.enc ⟨5, number, name, (sz : Int), (of : Int), sum, (co : Int), bytes⟩ = [UInt8.ofNat 5] ++ be number 4 ++ [UInt8.ofNat name.length] ++ name ++ be bytes.length 2 ++ bytes := by
    unfold Msg.enc
    simp [show fldN 5 = true from rfl, show fldS 5 = false from rfl, show fldO 5 = false from rfl, show fldU 5 = false from rfl, show fldC 5 = false from rfl, show fldB 5 = true from rfl]
  rw [enc]
  have hc := check_any ⟨5, number, name, (sz : Int), (of : Int), sum, (co : Int), bytes⟩ vb
  rw [hm0] at hc
  have HC := Lib.hid hc
  clear hc hm0 hok enc o2 o3 o4 o5 o6 o7 o8 o9 o10 o12 offr 
  have hb := h
  obtain ⟨A, c, rfl, l1, l2, -, -⟩ := h.open_
  unfold maxLen at l2
  clear h
  unfold Msg.cells at HC ⊢
  dsimp only at HC ⊢
  go_enter Try.func9, Try.ntmps9
  go_wp2_with fail
  obtain ⟨hm, hB, hb1, hsz⟩ := box_one w (.cells #[.int .i64 5, .int .u32 (number : Nat), .string ⟨name.toArray⟩, .int .i64 (sz : Nat), .int .i64 (of : Nat), .int .u32 (sum : Nat), .int .i64 (co : Nat), .slice A bytes.length c] 25) _ _ _ hb
  clear hb
  generalize w.alloc (.cells #[.int .i64 5, .int .u32 (number : Nat), .string ⟨name.toArray⟩, .int .i64 (sz : Nat), .int .i64 (of : Nat), .int .u32 (sum : Nat), .int .i64 (co : Nat), .slice A bytes.length c] 25) = W at *
  refine (HC.out _ _ hb1 (Nat.le_trans nl (by decide))).mono ?_
  rintro e w1 ⟨rfl, hB1⟩
  have HM := Lib.hid hm
  have HB0 := Lib.hid hB
  have HSZ := Lib.hid hsz
  clear hm hB hsz HC
  have hB := hB1
  have hm := heap_bl hB HM.out
  have c0 := cell_of hm 0
  have c1 := cell_of hm 1
  have c2 := cell_of hm 2
  have c3 := cell_of hm 3
  have c4 := cell_of hm 4
  have c5 := cell_of hm 5
  have c6 := cell_of hm 6
  have c7 := cell_of hm 7
  simp at c0 c1 c2 c3 c4 c5 c6 c7
  go_wp2_with fail
  refine (fields_is _ 33 rfl _).mono ?_
  rintro e w2 ⟨rfl, rfl⟩
  have a1 := fun o => cell_al c1 o
  go_wp2_with fail
  refine (put32_any _ [UInt8.ofNat 5] number _ _ (lit_bs w1 [UInt8.ofNat 5] #[.int .u8 5] rfl 1 rfl (by decide)) (by decide) hn).mono ?_
  rintro e w3 ⟨s0, rfl, ho, hB3⟩
  replace ho := ho.low (show W.heap.size ≤ _ from by have := hB1.size; simp only [World.size_alloc]; omega)
  replace hB := below_tr (below_al hB1 _) hB3
  clear hB1 hB3 hm a1 c0 c1 c2 c3 c4 c5 c6 c7
  have hm := heap_bl hB HM.out
  have c0 := cell_of hm 0
  have c1 := cell_of hm 1
  have c2 := cell_of hm 2
  have c3 := cell_of hm 3
  have c4 := cell_of hm 4
  have c5 := cell_of hm 5
  have c6 := cell_of hm 6
  have c7 := cell_of hm 7
  simp at c0 c1 c2 c3 c4 c5 c6 c7
  go_wp2_with fail
  refine (has_any 33 1 (by decide) (by decide) _).mono ?_
  rw [show fhas 33 1 = true from by decide]
  rintro e w' ⟨rfl, rfl⟩
  go_wp2
  have hBe : G.Bears [⟨fun (_ : World) (v : Value) => v = s0, none⟩, ⟨fun (_ : World) (v : Value) => v = .pointer (some ⟨w.heap.size, 2, none⟩), none⟩, ⟨fun (_ : World) (v : Value) => v = .string ⟨name.toArray⟩, none⟩, ⟨fun (_ : World) (v : Value) => v = .int .i64 name.length, none⟩, ⟨fun (_ : World) (v : Value) => v = .int .u8 (UInt8.ofNat name.length).toNat, none⟩, ⟨fun w v => ∃ F, Bs w F v [UInt8.ofNat name.length], some 6⟩, ⟨fun w v => Ob w W.heap.size 5 v ([UInt8.ofNat 5] ++ be number 4 ++ [UInt8.ofNat name.length]), some 9⟩, ⟨fun (_ : World) (v : Value) => v = .pointer (some ⟨w.heap.size, 2, none⟩), none⟩, ⟨fun (_ : World) (v : Value) => v = .string ⟨name.toArray⟩, none⟩, ⟨fun w v => Ob w W.heap.size 5 v ([UInt8.ofNat 5] ++ be number 4 ++ [UInt8.ofNat name.length] ++ name), none⟩, ⟨fun w v => Ob w W.heap.size 5 v ([UInt8.ofNat 5] ++ be number 4 ++ [UInt8.ofNat name.length] ++ name), none⟩] := ⟨fun w w' v h hb => h, fun w w' v h hb => h, fun w w' v h hb => h, fun w w' v h hb => h, fun w w' v h hb => h, fun w w' v h hb => by first | exact G.ob_fresh h hb | exact G.keep_bs h hb | exact G.row_fresh h hb | exact CopP.fresh h hb | exact LitP.fresh h hb | exact AppP.fresh h hb, fun w w' v h hb => by first | exact G.ob_fresh h hb | exact G.keep_bs h hb | exact G.row_fresh h hb | exact CopP.fresh h hb | exact LitP.fresh h hb | exact AppP.fresh h hb, fun w w' v h hb => h, fun w w' v h hb => h, fun w w' v h hb => by first | exact G.ob_fresh h hb | exact G.keep_bs h hb | exact G.row_fresh h hb | exact CopP.fresh h hb | exact LitP.fresh h hb | exact AppP.fresh h hb, fun w w' v h hb => by first | exact G.ob_fresh h hb | exact G.keep_bs h hb | exact G.row_fresh h hb | exact CopP.fresh h hb | exact LitP.fresh h hb | exact AppP.fresh h hb, trivial⟩
  have hP0 : ∀ w w', (fun w => Ob w W.heap.size 5 s0 ([UInt8.ofNat 5] ++ be number 4)) w → Below w.heap.size w w' → (fun w => Ob w W.heap.size 5 s0 ([UInt8.ofNat 5] ++ be number 4)) w' := fun w w' h hb => by first | exact G.ob_fresh h hb | exact G.keep_bs h hb | exact G.row_fresh h hb | trivial
  refine G.region_two (by kernel_rfl) (by kernel_rfl) (G.Own W (fun w => Ob w W.heap.size 5 s0 ([UInt8.ofNat 5] ++ be number 4)) 6) (G.of2 [⟨fun (_ : World) (v : Value) => v = s0, none⟩, ⟨fun (_ : World) (v : Value) => v = .pointer (some ⟨w.heap.size, 2, none⟩), none⟩, ⟨fun (_ : World) (v : Value) => v = .string ⟨name.toArray⟩, none⟩, ⟨fun (_ : World) (v : Value) => v = .int .i64 name.length, none⟩, ⟨fun (_ : World) (v : Value) => v = .int .u8 (UInt8.ofNat name.length).toNat, none⟩, ⟨fun w v => ∃ F, Bs w F v [UInt8.ofNat name.length], some 6⟩, ⟨fun w v => Ob w W.heap.size 5 v ([UInt8.ofNat 5] ++ be number 4 ++ [UInt8.ofNat name.length]), some 9⟩, ⟨fun (_ : World) (v : Value) => v = .pointer (some ⟨w.heap.size, 2, none⟩), none⟩, ⟨fun (_ : World) (v : Value) => v = .string ⟨name.toArray⟩, none⟩, ⟨fun w v => Ob w W.heap.size 5 v ([UInt8.ofNat 5] ++ be number 4 ++ [UInt8.ofNat name.length] ++ name), none⟩, ⟨fun w v => Ob w W.heap.size 5 v ([UInt8.ofNat 5] ++ be number 4 ++ [UInt8.ofNat name.length] ++ name), none⟩]) (fun L hL => ⟨hB.drew, .inr (World.ownsRow.drew ho)⟩) ?_ (G.each_ops ?_) ?_
  · intro i o hi hd; exact absurd hd (G.no_none (by kernel_rfl) hi)
  · refine ⟨?_, ?_, ?_, ?_, ?_, ?_, ?_, ?_, ?_, ?_, ?_, trivial⟩
    all_goals intro L a wq hLi hd hcl hU hI hS hp
    all_goals (have c2 := cell_of (heap_bl hI.1 HM.out) 2; simp at c2)
    · refine G.wanted_yes (G.wanted_plain rfl) ?_
      have e6 : a.tmps[6]?.getD undef = s0 := hU 6 (G.unlisted 6 10 hLi hcl rfl (by kernel_rfl) .phase (by simp) rfl)
      exact G.st_val (v := s0) (w' := wq) (by simp [execOp, go_sem, e6, c2] <;> omega) ⟨_, rfl, hI.fresh hP0 0 (Below.refl _ _), rfl, G.of2_fresh hBe 0 (Below.refl _ _)⟩
    · refine G.wanted_yes (G.wanted_plain rfl) ?_
      have e1 : a.tmps[1]?.getD undef = .pointer (some ⟨w.heap.size, 0, none⟩) := hS.at_ 1 rfl
      exact G.st_val (v := .pointer (some ⟨w.heap.size, 2, none⟩)) (w' := wq) (by simp [execOp, go_sem, e1, c2] <;> omega) ⟨_, rfl, hI.fresh hP0 1 (Below.refl _ _), rfl, G.of2_fresh hBe 1 (Below.refl _ _)⟩
    · refine G.wanted_yes (G.wanted_plain rfl) ?_
      have e25 : a.tmps[25]?.getD undef = .pointer (some ⟨w.heap.size, 2, none⟩) := hp 1 _ rfl (hd ⟨1, .data⟩ (by simp) rfl)
      exact G.st_val (v := .string ⟨name.toArray⟩) (w' := wq) (by simp [execOp, go_sem, e25, c2] <;> omega) ⟨_, rfl, hI.fresh hP0 2 (Below.refl _ _), rfl, G.of2_fresh hBe 2 (Below.refl _ _)⟩
    · refine G.wanted_yes (G.wanted_plain rfl) ?_
      have e26 : a.tmps[26]?.getD undef = .string ⟨name.toArray⟩ := hp 2 _ rfl (hd ⟨2, .data⟩ (by simp) rfl)
      exact G.st_val (v := .int .i64 name.length) (w' := wq) (by simp [execOp, go_sem, e26, c2] <;> omega) ⟨_, rfl, hI.fresh hP0 3 (Below.refl _ _), rfl, G.of2_fresh hBe 3 (Below.refl _ _)⟩
    · refine G.wanted_yes (G.wanted_plain rfl) ?_
      have e27 : a.tmps[27]?.getD undef = .int .i64 name.length := hp 3 _ rfl (hd ⟨3, .data⟩ (by simp) rfl)
      have hb := Below.refl wq.heap.size wq; exact G.st_val (v := .int .u8 (UInt8.ofNat name.length).toNat) (w' := wq) (by first | (simp [execOp, go_sem, e27]; done) | (simp [execOp, go_sem, e27]; first | exact byte_rem _ | (rw [← byte_rem]; omega))) ⟨_, rfl, (hI.fresh hP0 4 hb), rfl, (G.of2_fresh hBe 4 hb)⟩
    · refine G.wanted_yes (G.wanted_plain rfl) ?_
      have e28 : a.tmps[28]?.getD undef = .int .u8 (UInt8.ofNat name.length).toNat := hp 4 _ rfl (hd ⟨4, .data⟩ (by simp) rfl)
      have hb : Below wq.heap.size wq (wq.alloc (.cells #[.int .u8 (UInt8.ofNat name.length).toNat] 5)) := below_al (Below.refl _ _) _; exact G.st_val (v := .slice (some ⟨wq.heap.size, 0, none⟩) 1 1) (w' := wq.alloc (.cells #[.int .u8 (UInt8.ofNat name.length).toNat] 5)) (by simp [execOp, go_sem, e28]) ⟨_, rfl, (hI.fresh hP0 5 hb), .inr ⟨_, lit_bs wq [UInt8.ofNat name.length] _ rfl 1 rfl (by simp)⟩, (G.of2_fresh hBe 5 hb)⟩
    · refine G.wanted_yes (G.wanted_plain rfl) ?_
      have e24 : a.tmps[24]?.getD undef = s0 := hp 0 _ rfl (hd ⟨0, .data⟩ (by simp) rfl)
      have q29 : L 6 = true ∨ (fun w v => ∃ F, Bs w F v [UInt8.ofNat name.length]) wq (G.slot a (some 29)) := hp 5 _ rfl (hd ⟨5, .data⟩ (by simp) rfl)
      replace q29 := q29.resolve_left (by rw [hLi]; decide)
      have own0 := hI.2.resolve_left (by rw [hLi]; decide)
      obtain ⟨F1, hq⟩ := q29; refine G.st_app Try.el8 (.tmp 24) (.tmp 29) rfl W.heap.size own0 hq (by rw [G.eval_tmp]; exact e24) (G.eval_tmp _) (by simp [be_len] <;> omega) hI.1.size ?_
      intro v' w' ho hg
      have hB' := own_below hI.1 (own0) hg (Nat.le_refl _)
      exact ⟨v', rfl, ⟨hB', .inl (G.more_self _ _)⟩, .inr ho, G.of2_own ⟨fun _ u h => h, fun _ u h => h, fun _ u h => h, fun _ u h => h, fun _ u h => h, fun _ u _ => .inl (G.more_self _ _), fun hL => absurd hL (by rw [hLi]; decide), fun _ u h => h, fun _ u h => h, fun hL => absurd (hcl 9 _ rfl hL ⟨6, .data⟩ (by simp) rfl) (by rw [hLi]; decide), fun hL => absurd (hcl 10 _ rfl hL ⟨6, .phase⟩ (by simp) rfl) (by rw [hLi]; decide), trivial⟩⟩
    · refine G.wanted_yes (G.wanted_plain rfl) ?_
      have e1 : a.tmps[1]?.getD undef = .pointer (some ⟨w.heap.size, 0, none⟩) := hS.at_ 1 rfl
      exact G.st_val (v := .pointer (some ⟨w.heap.size, 2, none⟩)) (w' := wq) (by simp [execOp, go_sem, e1, c2] <;> omega) ⟨_, rfl, hI.fresh hP0 7 (Below.refl _ _), rfl, G.of2_fresh hBe 7 (Below.refl _ _)⟩
    · refine G.wanted_yes (G.wanted_plain rfl) ?_
      have e31 : a.tmps[31]?.getD undef = .pointer (some ⟨w.heap.size, 2, none⟩) := hp 7 _ rfl (hd ⟨7, .data⟩ (by simp) rfl)
      exact G.st_val (v := .string ⟨name.toArray⟩) (w' := wq) (by simp [execOp, go_sem, e31, c2] <;> omega) ⟨_, rfl, hI.fresh hP0 8 (Below.refl _ _), rfl, G.of2_fresh hBe 8 (Below.refl _ _)⟩
    · refine G.wanted_yes (G.wanted_plain rfl) ?_
      have q30 : L 9 = true ∨ (fun w v => Ob w W.heap.size 5 v ([UInt8.ofNat 5] ++ be number 4 ++ [UInt8.ofNat name.length])) wq (G.slot a (some 30)) := hp 6 _ rfl (hd ⟨6, .data⟩ (by simp) rfl)
      replace q30 := q30.resolve_left (by rw [hLi]; decide)
      have e32 : a.tmps[32]?.getD undef = .string ⟨name.toArray⟩ := hp 8 _ rfl (hd ⟨8, .data⟩ (by simp) rfl)
      refine G.st_app_str Try.el8 Try.underlying9 (.tmp 30) (.tmp 32) rfl W.heap.size q30 (G.eval_tmp _) (by rw [G.eval_tmp]; exact e32) (by simp [be_len] <;> omega) hI.1.size ?_
      intro v' w' ho hg
      have hB' := own_below hI.1 (q30) hg (Nat.le_refl _)
      exact ⟨v', rfl, ⟨hB', .inl (G.more_old _ (hd ⟨6, .data⟩ (by simp) rfl))⟩, ho, G.of2_own ⟨fun _ u h => h, fun _ u h => h, fun _ u h => h, fun _ u h => h, fun _ u h => h, fun _ u _ => .inl (G.more_old _ (hd ⟨6, .data⟩ (by simp) rfl)), fun _ u _ => .inl (G.more_self _ _), fun _ u h => h, fun _ u h => h, fun hL => absurd hL (by rw [hLi]; decide), fun hL => absurd (hcl 10 _ rfl hL ⟨9, .data⟩ (by simp) rfl) (by rw [hLi]; decide), trivial⟩⟩
    · refine G.wanted_yes (G.wanted_plain rfl) ?_
      have q33 : (fun w v => Ob w W.heap.size 5 v ([UInt8.ofNat 5] ++ be number 4 ++ [UInt8.ofNat name.length] ++ name)) wq (G.slot a (some 33)) := hp 9 _ rfl (hd ⟨9, .data⟩ (by simp) rfl)
      exact G.st_move (.inr rfl) ⟨_, rfl, hI.fresh hP0 10 (Below.refl _ _), q33, G.of2_fresh hBe 10 (Below.refl _ _)⟩
  · intro L a wq hL hI hS hp
    have hT := hI.1
    have e24 : G.slot a (some 24) = s0 := hp 0 _ rfl
    have e25 : G.slot a (some 25) = .pointer (some ⟨w.heap.size, 2, none⟩) := hp 1 _ rfl
    have e26 : G.slot a (some 26) = .string ⟨name.toArray⟩ := hp 2 _ rfl
    have e27 : G.slot a (some 27) = .int .i64 name.length := hp 3 _ rfl
    have e28 : G.slot a (some 28) = .int .u8 (UInt8.ofNat name.length).toNat := hp 4 _ rfl
    have e31 : G.slot a (some 31) = .pointer (some ⟨w.heap.size, 2, none⟩) := hp 7 _ rfl
    have e32 : G.slot a (some 32) = .string ⟨name.toArray⟩ := hp 8 _ rfl
    have q33 : (fun w v => Ob w W.heap.size 5 v ([UInt8.ofNat 5] ++ be number 4 ++ [UInt8.ofNat name.length] ++ name)) wq (G.slot a (some 33)) := hp 9 _ rfl
    have q6 : (fun w v => Ob w W.heap.size 5 v ([UInt8.ofNat 5] ++ be number 4 ++ [UInt8.ofNat name.length] ++ name)) wq (G.slot a (some 6)) := hp 10 _ rfl
    have ha := G.act_of hS
    simp only [List.foldl_cons, List.foldl_nil, Act.put, List.setIfInBounds_toArray, List.set_cons_succ, List.set_cons_zero, e24, e25, e26, e27, e28, e31, e32] at ha
    generalize G.slot a (some 29) = s29 at ha
    generalize G.slot a (some 30) = s30 at ha
    generalize G.slot a (some 33) = s33 at q33 ha
    generalize G.slot a (some 6) = s6 at q6 ha
    clear hp hS hI hBe hP0 e24 e25 e26 e27 e28 e31 e32
    subst ha
    replace ho := q6
    replace hB := hT
    have hm := heap_bl hB HM.out
    have c0 := cell_of hm 0
    have c1 := cell_of hm 1
    have c2 := cell_of hm 2
    have c3 := cell_of hm 3
    have c4 := cell_of hm 4
    have c5 := cell_of hm 5
    have c6 := cell_of hm 6
    have c7 := cell_of hm 7
    simp at c0 c1 c2 c3 c4 c5 c6 c7
    go_wp2_with fail
    refine (has_any 33 2 (by decide) (by decide) _).mono ?_
    rw [show fhas 33 2 = false from by decide]
    rintro e w' ⟨rfl, rfl⟩
    go_wp2_with fail
    refine (has_any 33 4 (by decide) (by decide) _).mono ?_
    rw [show fhas 33 4 = false from by decide]
    rintro e w' ⟨rfl, rfl⟩
    go_wp2_with fail
    refine (has_any 33 8 (by decide) (by decide) _).mono ?_
    rw [show fhas 33 8 = false from by decide]
    rintro e w' ⟨rfl, rfl⟩
    go_wp2_with fail
    refine (has_any 33 16 (by decide) (by decide) _).mono ?_
    rw [show fhas 33 16 = false from by decide]
    rintro e w' ⟨rfl, rfl⟩
    go_wp2_with fail
    refine (has_any 33 32 (by decide) (by decide) _).mono ?_
    rw [show fhas 33 32 = true from by decide]
    rintro e w' ⟨rfl, rfl⟩
    go_wp2
    have hw16 : IntKind.u16.wrap (bytes.length : Int) = (bytes.length : Int) := by rw [IntKind.wrap_u16]; omega
    have hBe : G.Bears [⟨fun (_ : World) (v : Value) => v = s6, none⟩, ⟨fun (_ : World) (v : Value) => v = .pointer (some ⟨w.heap.size, 7, none⟩), none⟩, ⟨fun (_ : World) (v : Value) => v = .slice A bytes.length c, none⟩, ⟨fun (_ : World) (v : Value) => v = .int .i64 bytes.length, none⟩, ⟨fun (_ : World) (v : Value) => v = .int .u16 (bytes.length : Nat), none⟩, ⟨fun w v => Ob w W.heap.size 5 v (([UInt8.ofNat 5] ++ be number 4) ++ [UInt8.ofNat name.length] ++ name ++ be bytes.length 2), some 8⟩, ⟨fun (_ : World) (v : Value) => v = .pointer (some ⟨w.heap.size, 7, none⟩), none⟩, ⟨fun (_ : World) (v : Value) => v = .slice A bytes.length c, none⟩, ⟨fun w v => Ob w W.heap.size 5 v (([UInt8.ofNat 5] ++ be number 4) ++ [UInt8.ofNat name.length] ++ name ++ be bytes.length 2 ++ bytes), none⟩, ⟨fun w v => Ob w W.heap.size 5 v (([UInt8.ofNat 5] ++ be number 4) ++ [UInt8.ofNat name.length] ++ name ++ be bytes.length 2 ++ bytes), none⟩] := ⟨fun w w' v h hb => h, fun w w' v h hb => h, fun w w' v h hb => h, fun w w' v h hb => h, fun w w' v h hb => h, fun w w' v h hb => by first | exact G.ob_fresh h hb | exact G.keep_bs h hb | exact G.row_fresh h hb | exact CopP.fresh h hb | exact LitP.fresh h hb | exact AppP.fresh h hb, fun w w' v h hb => h, fun w w' v h hb => h, fun w w' v h hb => by first | exact G.ob_fresh h hb | exact G.keep_bs h hb | exact G.row_fresh h hb | exact CopP.fresh h hb | exact LitP.fresh h hb | exact AppP.fresh h hb, fun w w' v h hb => by first | exact G.ob_fresh h hb | exact G.keep_bs h hb | exact G.row_fresh h hb | exact CopP.fresh h hb | exact LitP.fresh h hb | exact AppP.fresh h hb, trivial⟩
    have hP0 : ∀ w w', (fun w => Ob w W.heap.size 5 s6 (([UInt8.ofNat 5] ++ be number 4) ++ [UInt8.ofNat name.length] ++ name)) w → Below w.heap.size w w' → (fun w => Ob w W.heap.size 5 s6 (([UInt8.ofNat 5] ++ be number 4) ++ [UInt8.ofNat name.length] ++ name)) w' := fun w w' h hb => by first | exact G.ob_fresh h hb | exact G.keep_bs h hb | exact G.row_fresh h hb | trivial
    refine G.region_two (by kernel_rfl) (by kernel_rfl) (G.Own W (fun w => Ob w W.heap.size 5 s6 (([UInt8.ofNat 5] ++ be number 4) ++ [UInt8.ofNat name.length] ++ name)) 5) (G.of2 [⟨fun (_ : World) (v : Value) => v = s6, none⟩, ⟨fun (_ : World) (v : Value) => v = .pointer (some ⟨w.heap.size, 7, none⟩), none⟩, ⟨fun (_ : World) (v : Value) => v = .slice A bytes.length c, none⟩, ⟨fun (_ : World) (v : Value) => v = .int .i64 bytes.length, none⟩, ⟨fun (_ : World) (v : Value) => v = .int .u16 (bytes.length : Nat), none⟩, ⟨fun w v => Ob w W.heap.size 5 v (([UInt8.ofNat 5] ++ be number 4) ++ [UInt8.ofNat name.length] ++ name ++ be bytes.length 2), some 8⟩, ⟨fun (_ : World) (v : Value) => v = .pointer (some ⟨w.heap.size, 7, none⟩), none⟩, ⟨fun (_ : World) (v : Value) => v = .slice A bytes.length c, none⟩, ⟨fun w v => Ob w W.heap.size 5 v (([UInt8.ofNat 5] ++ be number 4) ++ [UInt8.ofNat name.length] ++ name ++ be bytes.length 2 ++ bytes), none⟩, ⟨fun w v => Ob w W.heap.size 5 v (([UInt8.ofNat 5] ++ be number 4) ++ [UInt8.ofNat name.length] ++ name ++ be bytes.length 2 ++ bytes), none⟩]) (fun L hL => ⟨hB.drew, .inr (World.ownsRow.drew ho)⟩) ?_ (G.each_ops ?_) ?_
    · intro i o hi hd; exact absurd hd (G.no_none (by kernel_rfl) hi)
    · refine ⟨?_, ?_, ?_, ?_, ?_, ?_, ?_, ?_, ?_, ?_, trivial⟩
      all_goals intro L a wq hLi hd hcl hU hI hS hp
      all_goals (have c7 := cell_of (heap_bl hI.1 HM.out) 7; simp at c7)
      · refine G.wanted_yes (G.wanted_plain rfl) ?_
        have e6 : a.tmps[6]?.getD undef = s6 := hU 6 (G.unlisted 6 9 hLi hcl rfl (by kernel_rfl) .phase (by simp) rfl)
        exact G.st_val (v := s6) (w' := wq) (by simp [execOp, go_sem, e6, c7, hw16] <;> omega) ⟨_, rfl, hI.fresh hP0 0 (Below.refl _ _), rfl, G.of2_fresh hBe 0 (Below.refl _ _)⟩
      · refine G.wanted_yes (G.wanted_plain rfl) ?_
        have e1 : a.tmps[1]?.getD undef = .pointer (some ⟨w.heap.size, 0, none⟩) := hS.at_ 1 rfl
        exact G.st_val (v := .pointer (some ⟨w.heap.size, 7, none⟩)) (w' := wq) (by simp [execOp, go_sem, e1, c7, hw16] <;> omega) ⟨_, rfl, hI.fresh hP0 1 (Below.refl _ _), rfl, G.of2_fresh hBe 1 (Below.refl _ _)⟩
      · refine G.wanted_yes (G.wanted_plain rfl) ?_
        have e65 : a.tmps[65]?.getD undef = .pointer (some ⟨w.heap.size, 7, none⟩) := hp 1 _ rfl (hd ⟨1, .data⟩ (by simp) rfl)
        exact G.st_val (v := .slice A bytes.length c) (w' := wq) (by simp [execOp, go_sem, e65, c7, hw16] <;> omega) ⟨_, rfl, hI.fresh hP0 2 (Below.refl _ _), rfl, G.of2_fresh hBe 2 (Below.refl _ _)⟩
      · refine G.wanted_yes (G.wanted_plain rfl) ?_
        have e66 : a.tmps[66]?.getD undef = .slice A bytes.length c := hp 2 _ rfl (hd ⟨2, .data⟩ (by simp) rfl)
        exact G.st_val (v := .int .i64 bytes.length) (w' := wq) (by simp [execOp, go_sem, e66, c7, hw16] <;> omega) ⟨_, rfl, hI.fresh hP0 3 (Below.refl _ _), rfl, G.of2_fresh hBe 3 (Below.refl _ _)⟩
      · refine G.wanted_yes (G.wanted_plain rfl) ?_
        have e67 : a.tmps[67]?.getD undef = .int .i64 bytes.length := hp 3 _ rfl (hd ⟨3, .data⟩ (by simp) rfl)
        exact G.st_val (v := .int .u16 (bytes.length : Nat)) (w' := wq) (by simp [execOp, go_sem, e67, c7, hw16] <;> omega) ⟨_, rfl, hI.fresh hP0 4 (Below.refl _ _), rfl, G.of2_fresh hBe 4 (Below.refl _ _)⟩
      · refine G.wanted_yes (G.wanted_plain rfl) ?_
        have e64 : a.tmps[64]?.getD undef = s6 := hp 0 _ rfl (hd ⟨0, .data⟩ (by simp) rfl)
        have e68 : a.tmps[68]?.getD undef = .int .u16 (bytes.length : Nat) := hp 4 _ rfl (hd ⟨4, .data⟩ (by simp) rfl)
        have own0 := hI.2.resolve_left (by rw [hLi]; decide)
        refine G.st_call (f := 23) (args := #[s6, .int .u16 (bytes.length : Nat)]) (by simp [execOp, go_sem, e64, e68]) ((put16_any _ _ bytes.length wq _ own0.bs (by simp [be_len] <;> omega) (by omega)).mono ?_); rintro e w' ⟨v2, rfl, o2, hb⟩; exact ⟨_, rfl, _, rfl, (hI.fresh hP0 5 hb), .inr (o2.low hI.1.size), (G.of2_fresh hBe 5 hb)⟩
      · refine G.wanted_yes (G.wanted_plain rfl) ?_
        have e1 : a.tmps[1]?.getD undef = .pointer (some ⟨w.heap.size, 0, none⟩) := hS.at_ 1 rfl
        exact G.st_val (v := .pointer (some ⟨w.heap.size, 7, none⟩)) (w' := wq) (by simp [execOp, go_sem, e1, c7, hw16] <;> omega) ⟨_, rfl, hI.fresh hP0 6 (Below.refl _ _), rfl, G.of2_fresh hBe 6 (Below.refl _ _)⟩
      · refine G.wanted_yes (G.wanted_plain rfl) ?_
        have e70 : a.tmps[70]?.getD undef = .pointer (some ⟨w.heap.size, 7, none⟩) := hp 6 _ rfl (hd ⟨6, .data⟩ (by simp) rfl)
        exact G.st_val (v := .slice A bytes.length c) (w' := wq) (by simp [execOp, go_sem, e70, c7, hw16] <;> omega) ⟨_, rfl, hI.fresh hP0 7 (Below.refl _ _), rfl, G.of2_fresh hBe 7 (Below.refl _ _)⟩
      · refine G.wanted_yes (G.wanted_plain rfl) ?_
        have q69 : L 8 = true ∨ (fun w v => Ob w W.heap.size 5 v (([UInt8.ofNat 5] ++ be number 4) ++ [UInt8.ofNat name.length] ++ name ++ be bytes.length 2)) wq (G.slot a (some 69)) := hp 5 _ rfl (hd ⟨5, .data⟩ (by simp) rfl)
        replace q69 := q69.resolve_left (by rw [hLi]; decide)
        have e71 : a.tmps[71]?.getD undef = .slice A bytes.length c := hp 7 _ rfl (hd ⟨7, .data⟩ (by simp) rfl)
        refine G.st_app Try.el8 (.tmp 69) (.tmp 71) rfl W.heap.size q69 (hb1.below hI.1) (G.eval_tmp _) (by rw [G.eval_tmp]; exact e71) (by simp [be_len] <;> omega) hI.1.size ?_
        intro v' w' ho hg
        have hB' := own_below hI.1 (q69) hg (Nat.le_refl _)
        exact ⟨v', rfl, ⟨hB', .inl (G.more_old _ (hd ⟨5, .data⟩ (by simp) rfl))⟩, ho, G.of2_own ⟨fun _ u h => h, fun _ u h => h, fun _ u h => h, fun _ u h => h, fun _ u h => h, fun _ u _ => .inl (G.more_self _ _), fun _ u h => h, fun _ u h => h, fun hL => absurd hL (by rw [hLi]; decide), fun hL => absurd (hcl 9 _ rfl hL ⟨8, .data⟩ (by simp) rfl) (by rw [hLi]; decide), trivial⟩⟩
      · refine G.wanted_yes (G.wanted_plain rfl) ?_
        have q72 : (fun w v => Ob w W.heap.size 5 v (([UInt8.ofNat 5] ++ be number 4) ++ [UInt8.ofNat name.length] ++ name ++ be bytes.length 2 ++ bytes)) wq (G.slot a (some 72)) := hp 8 _ rfl (hd ⟨8, .data⟩ (by simp) rfl)
        exact G.st_move (.inr rfl) ⟨_, rfl, hI.fresh hP0 9 (Below.refl _ _), q72, G.of2_fresh hBe 9 (Below.refl _ _)⟩
    · intro L a wq hL hI hS hp
      have hT := hI.1
      have e64 : G.slot a (some 64) = s6 := hp 0 _ rfl
      have e65 : G.slot a (some 65) = .pointer (some ⟨w.heap.size, 7, none⟩) := hp 1 _ rfl
      have e66 : G.slot a (some 66) = .slice A bytes.length c := hp 2 _ rfl
      have e67 : G.slot a (some 67) = .int .i64 bytes.length := hp 3 _ rfl
      have e68 : G.slot a (some 68) = .int .u16 (bytes.length : Nat) := hp 4 _ rfl
      have e70 : G.slot a (some 70) = .pointer (some ⟨w.heap.size, 7, none⟩) := hp 6 _ rfl
      have e71 : G.slot a (some 71) = .slice A bytes.length c := hp 7 _ rfl
      have q72 : (fun w v => Ob w W.heap.size 5 v (([UInt8.ofNat 5] ++ be number 4) ++ [UInt8.ofNat name.length] ++ name ++ be bytes.length 2 ++ bytes)) wq (G.slot a (some 72)) := hp 8 _ rfl
      have q6 : (fun w v => Ob w W.heap.size 5 v (([UInt8.ofNat 5] ++ be number 4) ++ [UInt8.ofNat name.length] ++ name ++ be bytes.length 2 ++ bytes)) wq (G.slot a (some 6)) := hp 9 _ rfl
      have ha := G.act_of hS
      simp only [List.foldl_cons, List.foldl_nil, Act.put, List.setIfInBounds_toArray, List.set_cons_succ, List.set_cons_zero, e64, e65, e66, e67, e68, e70, e71] at ha
      generalize G.slot a (some 69) = s69 at ha
      generalize G.slot a (some 72) = s72 at q72 ha
      generalize G.slot a (some 6) = s6 at q6 ha
      clear hp hS hI hBe hP0 e64 e65 e66 e67 e68 e70 e71
      subst ha
      replace ho := q6
      replace hB := hT
      go_wp2
      go_ret2
      exact ⟨_, rfl, by simpa using ho.low HB0.out.size, below_tr HB0.out hB⟩

end Go.Proofs.Ytmcldnfemlaeiaa
namespace Go.Proofs.Ytmcldnfemlaeiaa
open Go.RowKit K L
set_option linter.unusedVariables false
set_option linter.unusedSimpArgs false

set_option maxRecDepth 100000 in
set_option maxHeartbeats 4000000 in
theorem encode_6 (m : Msg) (vb : Value) (w : World) (F : Nat → Prop) (h : Bs w F vb m.bytes) (hk : m.kind = 6) (hok : m.ok) (hn : m.number < 4294967296) (hu : m.sum < 4294967296) :
    Calls Try.prog 9 #[.agg (m.cells vb).toArray] w fun e w' => ∃ v, e = .returned (.tuple #[v, .int .i64 0]) ∧ Ob w' w.heap.size 5 v m.enc ∧ Below w.heap.size w w' := by
  have hm0 : okErr m = 0 := by rw [okErr, if_pos hok]
  obtain ⟨kind, number, name, size, off, sum, code, bytes⟩ := m
  have ho := hok
  obtain ⟨_, o2, o3, o4, o5, o6, o7, o8, o9, o10, o11, o12, o13⟩ := ho
  dsimp only at hk hn hu h o2 o3 o4 o5 o6 o7 o8 o9 o10 o11 o12 o13
  subst hk
  simp only [show fldN 6 = true from rfl, show fldS 6 = false from rfl, show fldO 6 = false from rfl, show fldU 6 = false from rfl, show fldC 6 = false from rfl, show fldB 6 = false from rfl, eq_self, forall_const, reduceCtorEq, false_implies] at o3 o4 o6 o7 o8 o10 o12
  have offr : 0 ≤ off ∧ off ≤ 4096 := by omega
  have nl : name.length ≤ 24 := by omega
  clear o13
  obtain ⟨sz, rfl⟩ : ∃ n : Nat, size = (n : Int) := ⟨size.toNat, by omega⟩
  obtain ⟨of, rfl⟩ : ∃ n : Nat, off = (n : Int) := ⟨off.toNat, by omega⟩
  obtain ⟨co, rfl⟩ : ∃ n : Nat, code = (n : Int) := ⟨code.toNat, by omega⟩
  have z5 : sz ≤ 4096 := by omega
  have z7 : of ≤ 4096 := by omega
  have z9 : co ≤ 255 := by omega
  have enc : Msg.enc ⟨6, number, name, (sz : Int), (of : Int), sum, (co : Int), bytes⟩ = [UInt8.ofNat 6] ++ be number 4 ++ [UInt8.ofNat name.length] ++ name := by
    unfold Msg.enc
    simp [show fldN 6 = true from rfl, show fldS 6 = false from rfl, show fldO 6 = false from rfl, show fldU 6 = false from rfl, show fldC 6 = false from rfl, show fldB 6 = false from rfl]
  rw [enc]
  have hc := check_any ⟨6, number, name, (sz : Int), (of : Int), sum, (co : Int), bytes⟩ vb
  rw [hm0] at hc
  have HC := Lib.hid hc
  clear hc hm0 hok enc o2 o3 o4 o5 o6 o7 o8 o9 o10 o12 offr 
  have hb := h
  obtain ⟨A, c, rfl, l1, l2, -, -⟩ := h.open_
  unfold maxLen at l2
  clear h
  unfold Msg.cells at HC ⊢
  dsimp only at HC ⊢
  go_enter Try.func9, Try.ntmps9
  go_wp2_with fail
  obtain ⟨hm, hB, hb1, hsz⟩ := box_one w (.cells #[.int .i64 6, .int .u32 (number : Nat), .string ⟨name.toArray⟩, .int .i64 (sz : Nat), .int .i64 (of : Nat), .int .u32 (sum : Nat), .int .i64 (co : Nat), .slice A bytes.length c] 25) _ _ _ hb
  clear hb
  generalize w.alloc (.cells #[.int .i64 6, .int .u32 (number : Nat), .string ⟨name.toArray⟩, .int .i64 (sz : Nat), .int .i64 (of : Nat), .int .u32 (sum : Nat), .int .i64 (co : Nat), .slice A bytes.length c] 25) = W at *
  refine (HC.out _ _ hb1 (Nat.le_trans nl (by decide))).mono ?_
  rintro e w1 ⟨rfl, hB1⟩
  have HM := Lib.hid hm
  have HB0 := Lib.hid hB
  have HSZ := Lib.hid hsz
  clear hm hB hsz HC
  have hB := hB1
  have hm := heap_bl hB HM.out
  have c0 := cell_of hm 0
  have c1 := cell_of hm 1
  have c2 := cell_of hm 2
  have c3 := cell_of hm 3
  have c4 := cell_of hm 4
  have c5 := cell_of hm 5
  have c6 := cell_of hm 6
  have c7 := cell_of hm 7
  simp at c0 c1 c2 c3 c4 c5 c6 c7
  go_wp2_with fail
  refine (fields_is _ 1 rfl _).mono ?_
  rintro e w2 ⟨rfl, rfl⟩
  have a1 := fun o => cell_al c1 o
  go_wp2_with fail
  refine (put32_any _ [UInt8.ofNat 6] number _ _ (lit_bs w1 [UInt8.ofNat 6] #[.int .u8 6] rfl 1 rfl (by decide)) (by decide) hn).mono ?_
  rintro e w3 ⟨s0, rfl, ho, hB3⟩
  replace ho := ho.low (show W.heap.size ≤ _ from by have := hB1.size; simp only [World.size_alloc]; omega)
  replace hB := below_tr (below_al hB1 _) hB3
  clear hB1 hB3 hm a1 c0 c1 c2 c3 c4 c5 c6 c7
  have hm := heap_bl hB HM.out
  have c0 := cell_of hm 0
  have c1 := cell_of hm 1
  have c2 := cell_of hm 2
  have c3 := cell_of hm 3
  have c4 := cell_of hm 4
  have c5 := cell_of hm 5
  have c6 := cell_of hm 6
  have c7 := cell_of hm 7
  simp at c0 c1 c2 c3 c4 c5 c6 c7
  go_wp2_with fail
  refine (has_any 1 1 (by decide) (by decide) _).mono ?_
  rw [show fhas 1 1 = true from by decide]
  rintro e w' ⟨rfl, rfl⟩
  go_wp2
  have hBe : G.Bears [⟨fun (_ : World) (v : Value) => v = s0, none⟩, ⟨fun (_ : World) (v : Value) => v = .pointer (some ⟨w.heap.size, 2, none⟩), none⟩, ⟨fun (_ : World) (v : Value) => v = .string ⟨name.toArray⟩, none⟩, ⟨fun (_ : World) (v : Value) => v = .int .i64 name.length, none⟩, ⟨fun (_ : World) (v : Value) => v = .int .u8 (UInt8.ofNat name.length).toNat, none⟩, ⟨fun w v => ∃ F, Bs w F v [UInt8.ofNat name.length], some 6⟩, ⟨fun w v => Ob w W.heap.size 5 v ([UInt8.ofNat 6] ++ be number 4 ++ [UInt8.ofNat name.length]), some 9⟩, ⟨fun (_ : World) (v : Value) => v = .pointer (some ⟨w.heap.size, 2, none⟩), none⟩, ⟨fun (_ : World) (v : Value) => v = .string ⟨name.toArray⟩, none⟩, ⟨fun w v => Ob w W.heap.size 5 v ([UInt8.ofNat 6] ++ be number 4 ++ [UInt8.ofNat name.length] ++ name), none⟩, ⟨fun w v => Ob w W.heap.size 5 v ([UInt8.ofNat 6] ++ be number 4 ++ [UInt8.ofNat name.length] ++ name), none⟩] := ⟨fun w w' v h hb => h, fun w w' v h hb => h, fun w w' v h hb => h, fun w w' v h hb => h, fun w w' v h hb => h, fun w w' v h hb => by first | exact G.ob_fresh h hb | exact G.keep_bs h hb | exact G.row_fresh h hb | exact CopP.fresh h hb | exact LitP.fresh h hb | exact AppP.fresh h hb, fun w w' v h hb => by first | exact G.ob_fresh h hb | exact G.keep_bs h hb | exact G.row_fresh h hb | exact CopP.fresh h hb | exact LitP.fresh h hb | exact AppP.fresh h hb, fun w w' v h hb => h, fun w w' v h hb => h, fun w w' v h hb => by first | exact G.ob_fresh h hb | exact G.keep_bs h hb | exact G.row_fresh h hb | exact CopP.fresh h hb | exact LitP.fresh h hb | exact AppP.fresh h hb, fun w w' v h hb => by first | exact G.ob_fresh h hb | exact G.keep_bs h hb | exact G.row_fresh h hb | exact CopP.fresh h hb | exact LitP.fresh h hb | exact AppP.fresh h hb, trivial⟩
  have hP0 : ∀ w w', (fun w => Ob w W.heap.size 5 s0 ([UInt8.ofNat 6] ++ be number 4)) w → Below w.heap.size w w' → (fun w => Ob w W.heap.size 5 s0 ([UInt8.ofNat 6] ++ be number 4)) w' := fun w w' h hb => by first | exact G.ob_fresh h hb | exact G.keep_bs h hb | exact G.row_fresh h hb | trivial
  refine G.region_two (by kernel_rfl) (by kernel_rfl) (G.Own W (fun w => Ob w W.heap.size 5 s0 ([UInt8.ofNat 6] ++ be number 4)) 6) (G.of2 [⟨fun (_ : World) (v : Value) => v = s0, none⟩, ⟨fun (_ : World) (v : Value) => v = .pointer (some ⟨w.heap.size, 2, none⟩), none⟩, ⟨fun (_ : World) (v : Value) => v = .string ⟨name.toArray⟩, none⟩, ⟨fun (_ : World) (v : Value) => v = .int .i64 name.length, none⟩, ⟨fun (_ : World) (v : Value) => v = .int .u8 (UInt8.ofNat name.length).toNat, none⟩, ⟨fun w v => ∃ F, Bs w F v [UInt8.ofNat name.length], some 6⟩, ⟨fun w v => Ob w W.heap.size 5 v ([UInt8.ofNat 6] ++ be number 4 ++ [UInt8.ofNat name.length]), some 9⟩, ⟨fun (_ : World) (v : Value) => v = .pointer (some ⟨w.heap.size, 2, none⟩), none⟩, ⟨fun (_ : World) (v : Value) => v = .string ⟨name.toArray⟩, none⟩, ⟨fun w v => Ob w W.heap.size 5 v ([UInt8.ofNat 6] ++ be number 4 ++ [UInt8.ofNat name.length] ++ name), none⟩, ⟨fun w v => Ob w W.heap.size 5 v ([UInt8.ofNat 6] ++ be number 4 ++ [UInt8.ofNat name.length] ++ name), none⟩]) (fun L hL => ⟨hB.drew, .inr (World.ownsRow.drew ho)⟩) ?_ (G.each_ops ?_) ?_
  · intro i o hi hd; exact absurd hd (G.no_none (by kernel_rfl) hi)
  · refine ⟨?_, ?_, ?_, ?_, ?_, ?_, ?_, ?_, ?_, ?_, ?_, trivial⟩
    all_goals intro L a wq hLi hd hcl hU hI hS hp
    all_goals (have c2 := cell_of (heap_bl hI.1 HM.out) 2; simp at c2)
    · refine G.wanted_yes (G.wanted_plain rfl) ?_
      have e6 : a.tmps[6]?.getD undef = s0 := hU 6 (G.unlisted 6 10 hLi hcl rfl (by kernel_rfl) .phase (by simp) rfl)
      exact G.st_val (v := s0) (w' := wq) (by simp [execOp, go_sem, e6, c2] <;> omega) ⟨_, rfl, hI.fresh hP0 0 (Below.refl _ _), rfl, G.of2_fresh hBe 0 (Below.refl _ _)⟩
    · refine G.wanted_yes (G.wanted_plain rfl) ?_
      have e1 : a.tmps[1]?.getD undef = .pointer (some ⟨w.heap.size, 0, none⟩) := hS.at_ 1 rfl
      exact G.st_val (v := .pointer (some ⟨w.heap.size, 2, none⟩)) (w' := wq) (by simp [execOp, go_sem, e1, c2] <;> omega) ⟨_, rfl, hI.fresh hP0 1 (Below.refl _ _), rfl, G.of2_fresh hBe 1 (Below.refl _ _)⟩
    · refine G.wanted_yes (G.wanted_plain rfl) ?_
      have e25 : a.tmps[25]?.getD undef = .pointer (some ⟨w.heap.size, 2, none⟩) := hp 1 _ rfl (hd ⟨1, .data⟩ (by simp) rfl)
      exact G.st_val (v := .string ⟨name.toArray⟩) (w' := wq) (by simp [execOp, go_sem, e25, c2] <;> omega) ⟨_, rfl, hI.fresh hP0 2 (Below.refl _ _), rfl, G.of2_fresh hBe 2 (Below.refl _ _)⟩
    · refine G.wanted_yes (G.wanted_plain rfl) ?_
      have e26 : a.tmps[26]?.getD undef = .string ⟨name.toArray⟩ := hp 2 _ rfl (hd ⟨2, .data⟩ (by simp) rfl)
      exact G.st_val (v := .int .i64 name.length) (w' := wq) (by simp [execOp, go_sem, e26, c2] <;> omega) ⟨_, rfl, hI.fresh hP0 3 (Below.refl _ _), rfl, G.of2_fresh hBe 3 (Below.refl _ _)⟩
    · refine G.wanted_yes (G.wanted_plain rfl) ?_
      have e27 : a.tmps[27]?.getD undef = .int .i64 name.length := hp 3 _ rfl (hd ⟨3, .data⟩ (by simp) rfl)
      have hb := Below.refl wq.heap.size wq; exact G.st_val (v := .int .u8 (UInt8.ofNat name.length).toNat) (w' := wq) (by first | (simp [execOp, go_sem, e27]; done) | (simp [execOp, go_sem, e27]; first | exact byte_rem _ | (rw [← byte_rem]; omega))) ⟨_, rfl, (hI.fresh hP0 4 hb), rfl, (G.of2_fresh hBe 4 hb)⟩
    · refine G.wanted_yes (G.wanted_plain rfl) ?_
      have e28 : a.tmps[28]?.getD undef = .int .u8 (UInt8.ofNat name.length).toNat := hp 4 _ rfl (hd ⟨4, .data⟩ (by simp) rfl)
      have hb : Below wq.heap.size wq (wq.alloc (.cells #[.int .u8 (UInt8.ofNat name.length).toNat] 5)) := below_al (Below.refl _ _) _; exact G.st_val (v := .slice (some ⟨wq.heap.size, 0, none⟩) 1 1) (w' := wq.alloc (.cells #[.int .u8 (UInt8.ofNat name.length).toNat] 5)) (by simp [execOp, go_sem, e28]) ⟨_, rfl, (hI.fresh hP0 5 hb), .inr ⟨_, lit_bs wq [UInt8.ofNat name.length] _ rfl 1 rfl (by simp)⟩, (G.of2_fresh hBe 5 hb)⟩
    · refine G.wanted_yes (G.wanted_plain rfl) ?_
      have e24 : a.tmps[24]?.getD undef = s0 := hp 0 _ rfl (hd ⟨0, .data⟩ (by simp) rfl)
      have q29 : L 6 = true ∨ (fun w v => ∃ F, Bs w F v [UInt8.ofNat name.length]) wq (G.slot a (some 29)) := hp 5 _ rfl (hd ⟨5, .data⟩ (by simp) rfl)
      replace q29 := q29.resolve_left (by rw [hLi]; decide)
      have own0 := hI.2.resolve_left (by rw [hLi]; decide)
      obtain ⟨F1, hq⟩ := q29; refine G.st_app Try.el8 (.tmp 24) (.tmp 29) rfl W.heap.size own0 hq (by rw [G.eval_tmp]; exact e24) (G.eval_tmp _) (by simp [be_len] <;> omega) hI.1.size ?_
      intro v' w' ho hg
      have hB' := own_below hI.1 (own0) hg (Nat.le_refl _)
      exact ⟨v', rfl, ⟨hB', .inl (G.more_self _ _)⟩, .inr ho, G.of2_own ⟨fun _ u h => h, fun _ u h => h, fun _ u h => h, fun _ u h => h, fun _ u h => h, fun _ u _ => .inl (G.more_self _ _), fun hL => absurd hL (by rw [hLi]; decide), fun _ u h => h, fun _ u h => h, fun hL => absurd (hcl 9 _ rfl hL ⟨6, .data⟩ (by simp) rfl) (by rw [hLi]; decide), fun hL => absurd (hcl 10 _ rfl hL ⟨6, .phase⟩ (by simp) rfl) (by rw [hLi]; decide), trivial⟩⟩
    · refine G.wanted_yes (G.wanted_plain rfl) ?_
      have e1 : a.tmps[1]?.getD undef = .pointer (some ⟨w.heap.size, 0, none⟩) := hS.at_ 1 rfl
      exact G.st_val (v := .pointer (some ⟨w.heap.size, 2, none⟩)) (w' := wq) (by simp [execOp, go_sem, e1, c2] <;> omega) ⟨_, rfl, hI.fresh hP0 7 (Below.refl _ _), rfl, G.of2_fresh hBe 7 (Below.refl _ _)⟩
    · refine G.wanted_yes (G.wanted_plain rfl) ?_
      have e31 : a.tmps[31]?.getD undef = .pointer (some ⟨w.heap.size, 2, none⟩) := hp 7 _ rfl (hd ⟨7, .data⟩ (by simp) rfl)
      exact G.st_val (v := .string ⟨name.toArray⟩) (w' := wq) (by simp [execOp, go_sem, e31, c2] <;> omega) ⟨_, rfl, hI.fresh hP0 8 (Below.refl _ _), rfl, G.of2_fresh hBe 8 (Below.refl _ _)⟩
    · refine G.wanted_yes (G.wanted_plain rfl) ?_
      have q30 : L 9 = true ∨ (fun w v => Ob w W.heap.size 5 v ([UInt8.ofNat 6] ++ be number 4 ++ [UInt8.ofNat name.length])) wq (G.slot a (some 30)) := hp 6 _ rfl (hd ⟨6, .data⟩ (by simp) rfl)
      replace q30 := q30.resolve_left (by rw [hLi]; decide)
      have e32 : a.tmps[32]?.getD undef = .string ⟨name.toArray⟩ := hp 8 _ rfl (hd ⟨8, .data⟩ (by simp) rfl)
      refine G.st_app_str Try.el8 Try.underlying9 (.tmp 30) (.tmp 32) rfl W.heap.size q30 (G.eval_tmp _) (by rw [G.eval_tmp]; exact e32) (by simp [be_len] <;> omega) hI.1.size ?_
      intro v' w' ho hg
      have hB' := own_below hI.1 (q30) hg (Nat.le_refl _)
      exact ⟨v', rfl, ⟨hB', .inl (G.more_old _ (hd ⟨6, .data⟩ (by simp) rfl))⟩, ho, G.of2_own ⟨fun _ u h => h, fun _ u h => h, fun _ u h => h, fun _ u h => h, fun _ u h => h, fun _ u _ => .inl (G.more_old _ (hd ⟨6, .data⟩ (by simp) rfl)), fun _ u _ => .inl (G.more_self _ _), fun _ u h => h, fun _ u h => h, fun hL => absurd hL (by rw [hLi]; decide), fun hL => absurd (hcl 10 _ rfl hL ⟨9, .data⟩ (by simp) rfl) (by rw [hLi]; decide), trivial⟩⟩
    · refine G.wanted_yes (G.wanted_plain rfl) ?_
      have q33 : (fun w v => Ob w W.heap.size 5 v ([UInt8.ofNat 6] ++ be number 4 ++ [UInt8.ofNat name.length] ++ name)) wq (G.slot a (some 33)) := hp 9 _ rfl (hd ⟨9, .data⟩ (by simp) rfl)
      exact G.st_move (.inr rfl) ⟨_, rfl, hI.fresh hP0 10 (Below.refl _ _), q33, G.of2_fresh hBe 10 (Below.refl _ _)⟩
  · intro L a wq hL hI hS hp
    have hT := hI.1
    have e24 : G.slot a (some 24) = s0 := hp 0 _ rfl
    have e25 : G.slot a (some 25) = .pointer (some ⟨w.heap.size, 2, none⟩) := hp 1 _ rfl
    have e26 : G.slot a (some 26) = .string ⟨name.toArray⟩ := hp 2 _ rfl
    have e27 : G.slot a (some 27) = .int .i64 name.length := hp 3 _ rfl
    have e28 : G.slot a (some 28) = .int .u8 (UInt8.ofNat name.length).toNat := hp 4 _ rfl
    have e31 : G.slot a (some 31) = .pointer (some ⟨w.heap.size, 2, none⟩) := hp 7 _ rfl
    have e32 : G.slot a (some 32) = .string ⟨name.toArray⟩ := hp 8 _ rfl
    have q33 : (fun w v => Ob w W.heap.size 5 v ([UInt8.ofNat 6] ++ be number 4 ++ [UInt8.ofNat name.length] ++ name)) wq (G.slot a (some 33)) := hp 9 _ rfl
    have q6 : (fun w v => Ob w W.heap.size 5 v ([UInt8.ofNat 6] ++ be number 4 ++ [UInt8.ofNat name.length] ++ name)) wq (G.slot a (some 6)) := hp 10 _ rfl
    have ha := G.act_of hS
    simp only [List.foldl_cons, List.foldl_nil, Act.put, List.setIfInBounds_toArray, List.set_cons_succ, List.set_cons_zero, e24, e25, e26, e27, e28, e31, e32] at ha
    generalize G.slot a (some 29) = s29 at ha
    generalize G.slot a (some 30) = s30 at ha
    generalize G.slot a (some 33) = s33 at q33 ha
    generalize G.slot a (some 6) = s6 at q6 ha
    clear hp hS hI hBe hP0 e24 e25 e26 e27 e28 e31 e32
    subst ha
    replace ho := q6
    replace hB := hT
    have hm := heap_bl hB HM.out
    have c0 := cell_of hm 0
    have c1 := cell_of hm 1
    have c2 := cell_of hm 2
    have c3 := cell_of hm 3
    have c4 := cell_of hm 4
    have c5 := cell_of hm 5
    have c6 := cell_of hm 6
    have c7 := cell_of hm 7
    simp at c0 c1 c2 c3 c4 c5 c6 c7
    go_wp2_with fail
    refine (has_any 1 2 (by decide) (by decide) _).mono ?_
    rw [show fhas 1 2 = false from by decide]
    rintro e w' ⟨rfl, rfl⟩
    go_wp2_with fail
    refine (has_any 1 4 (by decide) (by decide) _).mono ?_
    rw [show fhas 1 4 = false from by decide]
    rintro e w' ⟨rfl, rfl⟩
    go_wp2_with fail
    refine (has_any 1 8 (by decide) (by decide) _).mono ?_
    rw [show fhas 1 8 = false from by decide]
    rintro e w' ⟨rfl, rfl⟩
    go_wp2_with fail
    refine (has_any 1 16 (by decide) (by decide) _).mono ?_
    rw [show fhas 1 16 = false from by decide]
    rintro e w' ⟨rfl, rfl⟩
    go_wp2_with fail
    refine (has_any 1 32 (by decide) (by decide) _).mono ?_
    rw [show fhas 1 32 = false from by decide]
    rintro e w' ⟨rfl, rfl⟩
    go_wp2
    go_ret2
    exact ⟨_, rfl, by simpa using ho.low HB0.out.size, below_tr HB0.out hB⟩

end Go.Proofs.Ytmcldnfemlaeiaa
namespace Go.Proofs.Ytmcldnfemlaeiaa
open Go.RowKit K L
set_option linter.unusedVariables false
set_option linter.unusedSimpArgs false

set_option maxRecDepth 100000 in
set_option maxHeartbeats 4000000 in
theorem encode_7 (m : Msg) (vb : Value) (w : World) (F : Nat → Prop) (h : Bs w F vb m.bytes) (hk : m.kind = 7) (hok : m.ok) (hn : m.number < 4294967296) (hu : m.sum < 4294967296) :
    Calls Try.prog 9 #[.agg (m.cells vb).toArray] w fun e w' => ∃ v, e = .returned (.tuple #[v, .int .i64 0]) ∧ Ob w' w.heap.size 5 v m.enc ∧ Below w.heap.size w w' := by
  have hm0 : okErr m = 0 := by rw [okErr, if_pos hok]
  obtain ⟨kind, number, name, size, off, sum, code, bytes⟩ := m
  have ho := hok
  obtain ⟨_, o2, o3, o4, o5, o6, o7, o8, o9, o10, o11, o12, o13⟩ := ho
  dsimp only at hk hn hu h o2 o3 o4 o5 o6 o7 o8 o9 o10 o11 o12 o13
  subst hk
  simp only [show fldN 7 = false from rfl, show fldS 7 = false from rfl, show fldO 7 = false from rfl, show fldU 7 = false from rfl, show fldC 7 = false from rfl, show fldB 7 = true from rfl, eq_self, forall_const, reduceCtorEq, false_implies] at o3 o4 o6 o7 o8 o10 o12
  have offr : 0 ≤ off ∧ off ≤ 4096 := by omega
  have nl : name.length ≤ 24 := by omega
  clear o13
  obtain ⟨sz, rfl⟩ : ∃ n : Nat, size = (n : Int) := ⟨size.toNat, by omega⟩
  obtain ⟨of, rfl⟩ : ∃ n : Nat, off = (n : Int) := ⟨off.toNat, by omega⟩
  obtain ⟨co, rfl⟩ : ∃ n : Nat, code = (n : Int) := ⟨code.toNat, by omega⟩
  have z5 : sz ≤ 4096 := by omega
  have z7 : of ≤ 4096 := by omega
  have z9 : co ≤ 255 := by omega
  have enc : Msg.enc ⟨7, number, name, (sz : Int), (of : Int), sum, (co : Int), bytes⟩ = [UInt8.ofNat 7] ++ be number 4 ++ be bytes.length 2 ++ bytes := by
    unfold Msg.enc
    simp [show fldN 7 = false from rfl, show fldS 7 = false from rfl, show fldO 7 = false from rfl, show fldU 7 = false from rfl, show fldC 7 = false from rfl, show fldB 7 = true from rfl]
  rw [enc]
  have hc := check_any ⟨7, number, name, (sz : Int), (of : Int), sum, (co : Int), bytes⟩ vb
  rw [hm0] at hc
  have HC := Lib.hid hc
  clear hc hm0 hok enc o2 o3 o4 o5 o6 o7 o8 o9 o10 o12 offr 
  have hb := h
  obtain ⟨A, c, rfl, l1, l2, -, -⟩ := h.open_
  unfold maxLen at l2
  clear h
  unfold Msg.cells at HC ⊢
  dsimp only at HC ⊢
  go_enter Try.func9, Try.ntmps9
  go_wp2_with fail
  obtain ⟨hm, hB, hb1, hsz⟩ := box_one w (.cells #[.int .i64 7, .int .u32 (number : Nat), .string ⟨name.toArray⟩, .int .i64 (sz : Nat), .int .i64 (of : Nat), .int .u32 (sum : Nat), .int .i64 (co : Nat), .slice A bytes.length c] 25) _ _ _ hb
  clear hb
  generalize w.alloc (.cells #[.int .i64 7, .int .u32 (number : Nat), .string ⟨name.toArray⟩, .int .i64 (sz : Nat), .int .i64 (of : Nat), .int .u32 (sum : Nat), .int .i64 (co : Nat), .slice A bytes.length c] 25) = W at *
  refine (HC.out _ _ hb1 (Nat.le_trans nl (by decide))).mono ?_
  rintro e w1 ⟨rfl, hB1⟩
  have HM := Lib.hid hm
  have HB0 := Lib.hid hB
  have HSZ := Lib.hid hsz
  clear hm hB hsz HC
  have hB := hB1
  have hm := heap_bl hB HM.out
  have c0 := cell_of hm 0
  have c1 := cell_of hm 1
  have c2 := cell_of hm 2
  have c3 := cell_of hm 3
  have c4 := cell_of hm 4
  have c5 := cell_of hm 5
  have c6 := cell_of hm 6
  have c7 := cell_of hm 7
  simp at c0 c1 c2 c3 c4 c5 c6 c7
  go_wp2_with fail
  refine (fields_is _ 32 rfl _).mono ?_
  rintro e w2 ⟨rfl, rfl⟩
  have a1 := fun o => cell_al c1 o
  go_wp2_with fail
  refine (put32_any _ [UInt8.ofNat 7] number _ _ (lit_bs w1 [UInt8.ofNat 7] #[.int .u8 7] rfl 1 rfl (by decide)) (by decide) hn).mono ?_
  rintro e w3 ⟨s0, rfl, ho, hB3⟩
  replace ho := ho.low (show W.heap.size ≤ _ from by have := hB1.size; simp only [World.size_alloc]; omega)
  replace hB := below_tr (below_al hB1 _) hB3
  clear hB1 hB3 hm a1 c0 c1 c2 c3 c4 c5 c6 c7
  have hm := heap_bl hB HM.out
  have c0 := cell_of hm 0
  have c1 := cell_of hm 1
  have c2 := cell_of hm 2
  have c3 := cell_of hm 3
  have c4 := cell_of hm 4
  have c5 := cell_of hm 5
  have c6 := cell_of hm 6
  have c7 := cell_of hm 7
  simp at c0 c1 c2 c3 c4 c5 c6 c7
  go_wp2_with fail
  refine (has_any 32 1 (by decide) (by decide) _).mono ?_
  rw [show fhas 32 1 = false from by decide]
  rintro e w' ⟨rfl, rfl⟩
  go_wp2_with fail
  refine (has_any 32 2 (by decide) (by decide) _).mono ?_
  rw [show fhas 32 2 = false from by decide]
  rintro e w' ⟨rfl, rfl⟩
  go_wp2_with fail
  refine (has_any 32 4 (by decide) (by decide) _).mono ?_
  rw [show fhas 32 4 = false from by decide]
  rintro e w' ⟨rfl, rfl⟩
  go_wp2_with fail
  refine (has_any 32 8 (by decide) (by decide) _).mono ?_
  rw [show fhas 32 8 = false from by decide]
  rintro e w' ⟨rfl, rfl⟩
  go_wp2_with fail
  refine (has_any 32 16 (by decide) (by decide) _).mono ?_
  rw [show fhas 32 16 = false from by decide]
  rintro e w' ⟨rfl, rfl⟩
  go_wp2_with fail
  refine (has_any 32 32 (by decide) (by decide) _).mono ?_
  rw [show fhas 32 32 = true from by decide]
  rintro e w' ⟨rfl, rfl⟩
  go_wp2
  have hw16 : IntKind.u16.wrap (bytes.length : Int) = (bytes.length : Int) := by rw [IntKind.wrap_u16]; omega
  have hBe : G.Bears [⟨fun (_ : World) (v : Value) => v = s0, none⟩, ⟨fun (_ : World) (v : Value) => v = .pointer (some ⟨w.heap.size, 7, none⟩), none⟩, ⟨fun (_ : World) (v : Value) => v = .slice A bytes.length c, none⟩, ⟨fun (_ : World) (v : Value) => v = .int .i64 bytes.length, none⟩, ⟨fun (_ : World) (v : Value) => v = .int .u16 (bytes.length : Nat), none⟩, ⟨fun w v => Ob w W.heap.size 5 v ([UInt8.ofNat 7] ++ be number 4 ++ be bytes.length 2), some 8⟩, ⟨fun (_ : World) (v : Value) => v = .pointer (some ⟨w.heap.size, 7, none⟩), none⟩, ⟨fun (_ : World) (v : Value) => v = .slice A bytes.length c, none⟩, ⟨fun w v => Ob w W.heap.size 5 v ([UInt8.ofNat 7] ++ be number 4 ++ be bytes.length 2 ++ bytes), none⟩, ⟨fun w v => Ob w W.heap.size 5 v ([UInt8.ofNat 7] ++ be number 4 ++ be bytes.length 2 ++ bytes), none⟩] := ⟨fun w w' v h hb => h, fun w w' v h hb => h, fun w w' v h hb => h, fun w w' v h hb => h, fun w w' v h hb => h, fun w w' v h hb => by first | exact G.ob_fresh h hb | exact G.keep_bs h hb | exact G.row_fresh h hb | exact CopP.fresh h hb | exact LitP.fresh h hb | exact AppP.fresh h hb, fun w w' v h hb => h, fun w w' v h hb => h, fun w w' v h hb => by first | exact G.ob_fresh h hb | exact G.keep_bs h hb | exact G.row_fresh h hb | exact CopP.fresh h hb | exact LitP.fresh h hb | exact AppP.fresh h hb, fun w w' v h hb => by first | exact G.ob_fresh h hb | exact G.keep_bs h hb | exact G.row_fresh h hb | exact CopP.fresh h hb | exact LitP.fresh h hb | exact AppP.fresh h hb, trivial⟩
  have hP0 : ∀ w w', (fun w => Ob w W.heap.size 5 s0 ([UInt8.ofNat 7] ++ be number 4)) w → Below w.heap.size w w' → (fun w => Ob w W.heap.size 5 s0 ([UInt8.ofNat 7] ++ be number 4)) w' := fun w w' h hb => by first | exact G.ob_fresh h hb | exact G.keep_bs h hb | exact G.row_fresh h hb | trivial
  refine G.region_two (by kernel_rfl) (by kernel_rfl) (G.Own W (fun w => Ob w W.heap.size 5 s0 ([UInt8.ofNat 7] ++ be number 4)) 5) (G.of2 [⟨fun (_ : World) (v : Value) => v = s0, none⟩, ⟨fun (_ : World) (v : Value) => v = .pointer (some ⟨w.heap.size, 7, none⟩), none⟩, ⟨fun (_ : World) (v : Value) => v = .slice A bytes.length c, none⟩, ⟨fun (_ : World) (v : Value) => v = .int .i64 bytes.length, none⟩, ⟨fun (_ : World) (v : Value) => v = .int .u16 (bytes.length : Nat), none⟩, ⟨fun w v => Ob w W.heap.size 5 v ([UInt8.ofNat 7] ++ be number 4 ++ be bytes.length 2), some 8⟩, ⟨fun (_ : World) (v : Value) => v = .pointer (some ⟨w.heap.size, 7, none⟩), none⟩, ⟨fun (_ : World) (v : Value) => v = .slice A bytes.length c, none⟩, ⟨fun w v => Ob w W.heap.size 5 v ([UInt8.ofNat 7] ++ be number 4 ++ be bytes.length 2 ++ bytes), none⟩, ⟨fun w v => Ob w W.heap.size 5 v ([UInt8.ofNat 7] ++ be number 4 ++ be bytes.length 2 ++ bytes), none⟩]) (fun L hL => ⟨hB.drew, .inr (World.ownsRow.drew ho)⟩) ?_ (G.each_ops ?_) ?_
  · intro i o hi hd; exact absurd hd (G.no_none (by kernel_rfl) hi)
  · refine ⟨?_, ?_, ?_, ?_, ?_, ?_, ?_, ?_, ?_, ?_, trivial⟩
    all_goals intro L a wq hLi hd hcl hU hI hS hp
    all_goals (have c7 := cell_of (heap_bl hI.1 HM.out) 7; simp at c7)
    · refine G.wanted_yes (G.wanted_plain rfl) ?_
      have e6 : a.tmps[6]?.getD undef = s0 := hU 6 (G.unlisted 6 9 hLi hcl rfl (by kernel_rfl) .phase (by simp) rfl)
      exact G.st_val (v := s0) (w' := wq) (by simp [execOp, go_sem, e6, c7, hw16] <;> omega) ⟨_, rfl, hI.fresh hP0 0 (Below.refl _ _), rfl, G.of2_fresh hBe 0 (Below.refl _ _)⟩
    · refine G.wanted_yes (G.wanted_plain rfl) ?_
      have e1 : a.tmps[1]?.getD undef = .pointer (some ⟨w.heap.size, 0, none⟩) := hS.at_ 1 rfl
      exact G.st_val (v := .pointer (some ⟨w.heap.size, 7, none⟩)) (w' := wq) (by simp [execOp, go_sem, e1, c7, hw16] <;> omega) ⟨_, rfl, hI.fresh hP0 1 (Below.refl _ _), rfl, G.of2_fresh hBe 1 (Below.refl _ _)⟩
    · refine G.wanted_yes (G.wanted_plain rfl) ?_
      have e65 : a.tmps[65]?.getD undef = .pointer (some ⟨w.heap.size, 7, none⟩) := hp 1 _ rfl (hd ⟨1, .data⟩ (by simp) rfl)
      exact G.st_val (v := .slice A bytes.length c) (w' := wq) (by simp [execOp, go_sem, e65, c7, hw16] <;> omega) ⟨_, rfl, hI.fresh hP0 2 (Below.refl _ _), rfl, G.of2_fresh hBe 2 (Below.refl _ _)⟩
    · refine G.wanted_yes (G.wanted_plain rfl) ?_
      have e66 : a.tmps[66]?.getD undef = .slice A bytes.length c := hp 2 _ rfl (hd ⟨2, .data⟩ (by simp) rfl)
      exact G.st_val (v := .int .i64 bytes.length) (w' := wq) (by simp [execOp, go_sem, e66, c7, hw16] <;> omega) ⟨_, rfl, hI.fresh hP0 3 (Below.refl _ _), rfl, G.of2_fresh hBe 3 (Below.refl _ _)⟩
    · refine G.wanted_yes (G.wanted_plain rfl) ?_
      have e67 : a.tmps[67]?.getD undef = .int .i64 bytes.length := hp 3 _ rfl (hd ⟨3, .data⟩ (by simp) rfl)
      exact G.st_val (v := .int .u16 (bytes.length : Nat)) (w' := wq) (by simp [execOp, go_sem, e67, c7, hw16] <;> omega) ⟨_, rfl, hI.fresh hP0 4 (Below.refl _ _), rfl, G.of2_fresh hBe 4 (Below.refl _ _)⟩
    · refine G.wanted_yes (G.wanted_plain rfl) ?_
      have e64 : a.tmps[64]?.getD undef = s0 := hp 0 _ rfl (hd ⟨0, .data⟩ (by simp) rfl)
      have e68 : a.tmps[68]?.getD undef = .int .u16 (bytes.length : Nat) := hp 4 _ rfl (hd ⟨4, .data⟩ (by simp) rfl)
      have own0 := hI.2.resolve_left (by rw [hLi]; decide)
      refine G.st_call (f := 23) (args := #[s0, .int .u16 (bytes.length : Nat)]) (by simp [execOp, go_sem, e64, e68]) ((put16_any _ _ bytes.length wq _ own0.bs (by simp [be_len] <;> omega) (by omega)).mono ?_); rintro e w' ⟨v2, rfl, o2, hb⟩; exact ⟨_, rfl, _, rfl, (hI.fresh hP0 5 hb), .inr (o2.low hI.1.size), (G.of2_fresh hBe 5 hb)⟩
    · refine G.wanted_yes (G.wanted_plain rfl) ?_
      have e1 : a.tmps[1]?.getD undef = .pointer (some ⟨w.heap.size, 0, none⟩) := hS.at_ 1 rfl
      exact G.st_val (v := .pointer (some ⟨w.heap.size, 7, none⟩)) (w' := wq) (by simp [execOp, go_sem, e1, c7, hw16] <;> omega) ⟨_, rfl, hI.fresh hP0 6 (Below.refl _ _), rfl, G.of2_fresh hBe 6 (Below.refl _ _)⟩
    · refine G.wanted_yes (G.wanted_plain rfl) ?_
      have e70 : a.tmps[70]?.getD undef = .pointer (some ⟨w.heap.size, 7, none⟩) := hp 6 _ rfl (hd ⟨6, .data⟩ (by simp) rfl)
      exact G.st_val (v := .slice A bytes.length c) (w' := wq) (by simp [execOp, go_sem, e70, c7, hw16] <;> omega) ⟨_, rfl, hI.fresh hP0 7 (Below.refl _ _), rfl, G.of2_fresh hBe 7 (Below.refl _ _)⟩
    · refine G.wanted_yes (G.wanted_plain rfl) ?_
      have q69 : L 8 = true ∨ (fun w v => Ob w W.heap.size 5 v ([UInt8.ofNat 7] ++ be number 4 ++ be bytes.length 2)) wq (G.slot a (some 69)) := hp 5 _ rfl (hd ⟨5, .data⟩ (by simp) rfl)
      replace q69 := q69.resolve_left (by rw [hLi]; decide)
      have e71 : a.tmps[71]?.getD undef = .slice A bytes.length c := hp 7 _ rfl (hd ⟨7, .data⟩ (by simp) rfl)
      refine G.st_app Try.el8 (.tmp 69) (.tmp 71) rfl W.heap.size q69 (hb1.below hI.1) (G.eval_tmp _) (by rw [G.eval_tmp]; exact e71) (by simp [be_len] <;> omega) hI.1.size ?_
      intro v' w' ho hg
      have hB' := own_below hI.1 (q69) hg (Nat.le_refl _)
      exact ⟨v', rfl, ⟨hB', .inl (G.more_old _ (hd ⟨5, .data⟩ (by simp) rfl))⟩, ho, G.of2_own ⟨fun _ u h => h, fun _ u h => h, fun _ u h => h, fun _ u h => h, fun _ u h => h, fun _ u _ => .inl (G.more_self _ _), fun _ u h => h, fun _ u h => h, fun hL => absurd hL (by rw [hLi]; decide), fun hL => absurd (hcl 9 _ rfl hL ⟨8, .data⟩ (by simp) rfl) (by rw [hLi]; decide), trivial⟩⟩
    · refine G.wanted_yes (G.wanted_plain rfl) ?_
      have q72 : (fun w v => Ob w W.heap.size 5 v ([UInt8.ofNat 7] ++ be number 4 ++ be bytes.length 2 ++ bytes)) wq (G.slot a (some 72)) := hp 8 _ rfl (hd ⟨8, .data⟩ (by simp) rfl)
      exact G.st_move (.inr rfl) ⟨_, rfl, hI.fresh hP0 9 (Below.refl _ _), q72, G.of2_fresh hBe 9 (Below.refl _ _)⟩
  · intro L a wq hL hI hS hp
    have hT := hI.1
    have e64 : G.slot a (some 64) = s0 := hp 0 _ rfl
    have e65 : G.slot a (some 65) = .pointer (some ⟨w.heap.size, 7, none⟩) := hp 1 _ rfl
    have e66 : G.slot a (some 66) = .slice A bytes.length c := hp 2 _ rfl
    have e67 : G.slot a (some 67) = .int .i64 bytes.length := hp 3 _ rfl
    have e68 : G.slot a (some 68) = .int .u16 (bytes.length : Nat) := hp 4 _ rfl
    have e70 : G.slot a (some 70) = .pointer (some ⟨w.heap.size, 7, none⟩) := hp 6 _ rfl
    have e71 : G.slot a (some 71) = .slice A bytes.length c := hp 7 _ rfl
    have q72 : (fun w v => Ob w W.heap.size 5 v ([UInt8.ofNat 7] ++ be number 4 ++ be bytes.length 2 ++ bytes)) wq (G.slot a (some 72)) := hp 8 _ rfl
    have q6 : (fun w v => Ob w W.heap.size 5 v ([UInt8.ofNat 7] ++ be number 4 ++ be bytes.length 2 ++ bytes)) wq (G.slot a (some 6)) := hp 9 _ rfl
    have ha := G.act_of hS
    simp only [List.foldl_cons, List.foldl_nil, Act.put, List.setIfInBounds_toArray, List.set_cons_succ, List.set_cons_zero, e64, e65, e66, e67, e68, e70, e71] at ha
    generalize G.slot a (some 69) = s69 at ha
    generalize G.slot a (some 72) = s72 at q72 ha
    generalize G.slot a (some 6) = s6 at q6 ha
    clear hp hS hI hBe hP0 e64 e65 e66 e67 e68 e70 e71
    subst ha
    replace ho := q6
    replace hB := hT
    go_wp2
    go_ret2
    exact ⟨_, rfl, by simpa using ho.low HB0.out.size, below_tr HB0.out hB⟩

end Go.Proofs.Ytmcldnfemlaeiaa
namespace Go.Proofs.Ytmcldnfemlaeiaa
open Go.RowKit K L
set_option linter.unusedVariables false
set_option linter.unusedSimpArgs false

set_option maxRecDepth 100000 in
set_option maxHeartbeats 4000000 in
theorem encode_8 (m : Msg) (vb : Value) (w : World) (F : Nat → Prop) (h : Bs w F vb m.bytes) (hk : m.kind = 8) (hok : m.ok) (hn : m.number < 4294967296) (hu : m.sum < 4294967296) :
    Calls Try.prog 9 #[.agg (m.cells vb).toArray] w fun e w' => ∃ v, e = .returned (.tuple #[v, .int .i64 0]) ∧ Ob w' w.heap.size 5 v m.enc ∧ Below w.heap.size w w' := by
  have hm0 : okErr m = 0 := by rw [okErr, if_pos hok]
  obtain ⟨kind, number, name, size, off, sum, code, bytes⟩ := m
  have ho := hok
  obtain ⟨_, o2, o3, o4, o5, o6, o7, o8, o9, o10, o11, o12, o13⟩ := ho
  dsimp only at hk hn hu h o2 o3 o4 o5 o6 o7 o8 o9 o10 o11 o12 o13
  subst hk
  simp only [show fldN 8 = false from rfl, show fldS 8 = false from rfl, show fldO 8 = false from rfl, show fldU 8 = false from rfl, show fldC 8 = true from rfl, show fldB 8 = true from rfl, eq_self, forall_const, reduceCtorEq, false_implies] at o3 o4 o6 o7 o8 o10 o12
  have offr : 0 ≤ off ∧ off ≤ 4096 := by omega
  have nl : name.length ≤ 24 := by omega
  clear o13
  obtain ⟨sz, rfl⟩ : ∃ n : Nat, size = (n : Int) := ⟨size.toNat, by omega⟩
  obtain ⟨of, rfl⟩ : ∃ n : Nat, off = (n : Int) := ⟨off.toNat, by omega⟩
  obtain ⟨co, rfl⟩ : ∃ n : Nat, code = (n : Int) := ⟨code.toNat, by omega⟩
  have z5 : sz ≤ 4096 := by omega
  have z7 : of ≤ 4096 := by omega
  have z9 : co ≤ 255 := by omega
  have enc : Msg.enc ⟨8, number, name, (sz : Int), (of : Int), sum, (co : Int), bytes⟩ = [UInt8.ofNat 8] ++ be number 4 ++ [UInt8.ofNat co] ++ be bytes.length 2 ++ bytes := by
    unfold Msg.enc
    simp [show fldN 8 = false from rfl, show fldS 8 = false from rfl, show fldO 8 = false from rfl, show fldU 8 = false from rfl, show fldC 8 = true from rfl, show fldB 8 = true from rfl]
  rw [enc]
  have hc := check_any ⟨8, number, name, (sz : Int), (of : Int), sum, (co : Int), bytes⟩ vb
  rw [hm0] at hc
  have HC := Lib.hid hc
  clear hc hm0 hok enc o2 o3 o4 o5 o6 o7 o8 o9 o10 o12 offr 
  have hb := h
  obtain ⟨A, c, rfl, l1, l2, -, -⟩ := h.open_
  unfold maxLen at l2
  clear h
  unfold Msg.cells at HC ⊢
  dsimp only at HC ⊢
  go_enter Try.func9, Try.ntmps9
  go_wp2_with fail
  obtain ⟨hm, hB, hb1, hsz⟩ := box_one w (.cells #[.int .i64 8, .int .u32 (number : Nat), .string ⟨name.toArray⟩, .int .i64 (sz : Nat), .int .i64 (of : Nat), .int .u32 (sum : Nat), .int .i64 (co : Nat), .slice A bytes.length c] 25) _ _ _ hb
  clear hb
  generalize w.alloc (.cells #[.int .i64 8, .int .u32 (number : Nat), .string ⟨name.toArray⟩, .int .i64 (sz : Nat), .int .i64 (of : Nat), .int .u32 (sum : Nat), .int .i64 (co : Nat), .slice A bytes.length c] 25) = W at *
  refine (HC.out _ _ hb1 (Nat.le_trans nl (by decide))).mono ?_
  rintro e w1 ⟨rfl, hB1⟩
  have HM := Lib.hid hm
  have HB0 := Lib.hid hB
  have HSZ := Lib.hid hsz
  clear hm hB hsz HC
  have hB := hB1
  have hm := heap_bl hB HM.out
  have c0 := cell_of hm 0
  have c1 := cell_of hm 1
  have c2 := cell_of hm 2
  have c3 := cell_of hm 3
  have c4 := cell_of hm 4
  have c5 := cell_of hm 5
  have c6 := cell_of hm 6
  have c7 := cell_of hm 7
  simp at c0 c1 c2 c3 c4 c5 c6 c7
  go_wp2_with fail
  refine (fields_is _ 48 rfl _).mono ?_
  rintro e w2 ⟨rfl, rfl⟩
  have a1 := fun o => cell_al c1 o
  go_wp2_with fail
  refine (put32_any _ [UInt8.ofNat 8] number _ _ (lit_bs w1 [UInt8.ofNat 8] #[.int .u8 8] rfl 1 rfl (by decide)) (by decide) hn).mono ?_
  rintro e w3 ⟨s0, rfl, ho, hB3⟩
  replace ho := ho.low (show W.heap.size ≤ _ from by have := hB1.size; simp only [World.size_alloc]; omega)
  replace hB := below_tr (below_al hB1 _) hB3
  clear hB1 hB3 hm a1 c0 c1 c2 c3 c4 c5 c6 c7
  have hm := heap_bl hB HM.out
  have c0 := cell_of hm 0
  have c1 := cell_of hm 1
  have c2 := cell_of hm 2
  have c3 := cell_of hm 3
  have c4 := cell_of hm 4
  have c5 := cell_of hm 5
  have c6 := cell_of hm 6
  have c7 := cell_of hm 7
  simp at c0 c1 c2 c3 c4 c5 c6 c7
  go_wp2_with fail
  refine (has_any 48 1 (by decide) (by decide) _).mono ?_
  rw [show fhas 48 1 = false from by decide]
  rintro e w' ⟨rfl, rfl⟩
  go_wp2_with fail
  refine (has_any 48 2 (by decide) (by decide) _).mono ?_
  rw [show fhas 48 2 = false from by decide]
  rintro e w' ⟨rfl, rfl⟩
  go_wp2_with fail
  refine (has_any 48 4 (by decide) (by decide) _).mono ?_
  rw [show fhas 48 4 = false from by decide]
  rintro e w' ⟨rfl, rfl⟩
  go_wp2_with fail
  refine (has_any 48 8 (by decide) (by decide) _).mono ?_
  rw [show fhas 48 8 = false from by decide]
  rintro e w' ⟨rfl, rfl⟩
  go_wp2_with fail
  refine (has_any 48 16 (by decide) (by decide) _).mono ?_
  rw [show fhas 48 16 = true from by decide]
  rintro e w' ⟨rfl, rfl⟩
  go_wp2_with (at_builtin; go_must (refine app Try.el8 rfl _ _ rfl W.heap.size (World.ownsRow.alloc ho _) (Sl.lit _ [_] 5 1 1 rfl (by simp [maxLen])) rfl rfl (by simp [Value.oneCell']) (by simp [be_len] <;> omega) (by omega) (by have := hB.size; simp only [World.size_alloc]; omega) ?_); intro v' w' ho' hg')
  replace hB := push_below hB ho hg' (Nat.le_refl _)
  replace ho := Ob.push (UInt8.ofNat co) ho' (by first | exact byte_rem co | (rw [← byte_rem]; omega))
  clear ho' hg'
  clear hm c0 c1 c2 c3 c4 c5 c6 c7
  have hm := heap_bl hB HM.out
  have c0 := cell_of hm 0
  have c1 := cell_of hm 1
  have c2 := cell_of hm 2
  have c3 := cell_of hm 3
  have c4 := cell_of hm 4
  have c5 := cell_of hm 5
  have c6 := cell_of hm 6
  have c7 := cell_of hm 7
  simp at c0 c1 c2 c3 c4 c5 c6 c7
  go_wp2_with fail
  refine (has_any 48 32 (by decide) (by decide) _).mono ?_
  rw [show fhas 48 32 = true from by decide]
  rintro e w' ⟨rfl, rfl⟩
  go_wp2
  have hw16 : IntKind.u16.wrap (bytes.length : Int) = (bytes.length : Int) := by rw [IntKind.wrap_u16]; omega
  have hBe : G.Bears [⟨fun (_ : World) (v : Value) => v = v', none⟩, ⟨fun (_ : World) (v : Value) => v = .pointer (some ⟨w.heap.size, 7, none⟩), none⟩, ⟨fun (_ : World) (v : Value) => v = .slice A bytes.length c, none⟩, ⟨fun (_ : World) (v : Value) => v = .int .i64 bytes.length, none⟩, ⟨fun (_ : World) (v : Value) => v = .int .u16 (bytes.length : Nat), none⟩, ⟨fun w v => Ob w W.heap.size 5 v (([UInt8.ofNat 8] ++ be number 4) ++ [UInt8.ofNat co] ++ be bytes.length 2), some 8⟩, ⟨fun (_ : World) (v : Value) => v = .pointer (some ⟨w.heap.size, 7, none⟩), none⟩, ⟨fun (_ : World) (v : Value) => v = .slice A bytes.length c, none⟩, ⟨fun w v => Ob w W.heap.size 5 v (([UInt8.ofNat 8] ++ be number 4) ++ [UInt8.ofNat co] ++ be bytes.length 2 ++ bytes), none⟩, ⟨fun w v => Ob w W.heap.size 5 v (([UInt8.ofNat 8] ++ be number 4) ++ [UInt8.ofNat co] ++ be bytes.length 2 ++ bytes), none⟩] := ⟨fun w w' v h hb => h, fun w w' v h hb => h, fun w w' v h hb => h, fun w w' v h hb => h, fun w w' v h hb => h, fun w w' v h hb => by first | exact G.ob_fresh h hb | exact G.keep_bs h hb | exact G.row_fresh h hb | exact CopP.fresh h hb | exact LitP.fresh h hb | exact AppP.fresh h hb, fun w w' v h hb => h, fun w w' v h hb => h, fun w w' v h hb => by first | exact G.ob_fresh h hb | exact G.keep_bs h hb | exact G.row_fresh h hb | exact CopP.fresh h hb | exact LitP.fresh h hb | exact AppP.fresh h hb, fun w w' v h hb => by first | exact G.ob_fresh h hb | exact G.keep_bs h hb | exact G.row_fresh h hb | exact CopP.fresh h hb | exact LitP.fresh h hb | exact AppP.fresh h hb, trivial⟩
  have hP0 : ∀ w w', (fun w => Ob w W.heap.size 5 v' (([UInt8.ofNat 8] ++ be number 4) ++ [UInt8.ofNat co])) w → Below w.heap.size w w' → (fun w => Ob w W.heap.size 5 v' (([UInt8.ofNat 8] ++ be number 4) ++ [UInt8.ofNat co])) w' := fun w w' h hb => by first | exact G.ob_fresh h hb | exact G.keep_bs h hb | exact G.row_fresh h hb | trivial
  refine G.region_two (by kernel_rfl) (by kernel_rfl) (G.Own W (fun w => Ob w W.heap.size 5 v' (([UInt8.ofNat 8] ++ be number 4) ++ [UInt8.ofNat co])) 5) (G.of2 [⟨fun (_ : World) (v : Value) => v = v', none⟩, ⟨fun (_ : World) (v : Value) => v = .pointer (some ⟨w.heap.size, 7, none⟩), none⟩, ⟨fun (_ : World) (v : Value) => v = .slice A bytes.length c, none⟩, ⟨fun (_ : World) (v : Value) => v = .int .i64 bytes.length, none⟩, ⟨fun (_ : World) (v : Value) => v = .int .u16 (bytes.length : Nat), none⟩, ⟨fun w v => Ob w W.heap.size 5 v (([UInt8.ofNat 8] ++ be number 4) ++ [UInt8.ofNat co] ++ be bytes.length 2), some 8⟩, ⟨fun (_ : World) (v : Value) => v = .pointer (some ⟨w.heap.size, 7, none⟩), none⟩, ⟨fun (_ : World) (v : Value) => v = .slice A bytes.length c, none⟩, ⟨fun w v => Ob w W.heap.size 5 v (([UInt8.ofNat 8] ++ be number 4) ++ [UInt8.ofNat co] ++ be bytes.length 2 ++ bytes), none⟩, ⟨fun w v => Ob w W.heap.size 5 v (([UInt8.ofNat 8] ++ be number 4) ++ [UInt8.ofNat co] ++ be bytes.length 2 ++ bytes), none⟩]) (fun L hL => ⟨hB.drew, .inr (World.ownsRow.drew ho)⟩) ?_ (G.each_ops ?_) ?_
  · intro i o hi hd; exact absurd hd (G.no_none (by kernel_rfl) hi)
  · refine ⟨?_, ?_, ?_, ?_, ?_, ?_, ?_, ?_, ?_, ?_, trivial⟩
    all_goals intro L a wq hLi hd hcl hU hI hS hp
    all_goals (have c7 := cell_of (heap_bl hI.1 HM.out) 7; simp at c7)
    · refine G.wanted_yes (G.wanted_plain rfl) ?_
      have e6 : a.tmps[6]?.getD undef = v' := hU 6 (G.unlisted 6 9 hLi hcl rfl (by kernel_rfl) .phase (by simp) rfl)
      exact G.st_val (v := v') (w' := wq) (by simp [execOp, go_sem, e6, c7, hw16] <;> omega) ⟨_, rfl, hI.fresh hP0 0 (Below.refl _ _), rfl, G.of2_fresh hBe 0 (Below.refl _ _)⟩
    · refine G.wanted_yes (G.wanted_plain rfl) ?_
      have e1 : a.tmps[1]?.getD undef = .pointer (some ⟨w.heap.size, 0, none⟩) := hS.at_ 1 rfl
      exact G.st_val (v := .pointer (some ⟨w.heap.size, 7, none⟩)) (w' := wq) (by simp [execOp, go_sem, e1, c7, hw16] <;> omega) ⟨_, rfl, hI.fresh hP0 1 (Below.refl _ _), rfl, G.of2_fresh hBe 1 (Below.refl _ _)⟩
    · refine G.wanted_yes (G.wanted_plain rfl) ?_
      have e65 : a.tmps[65]?.getD undef = .pointer (some ⟨w.heap.size, 7, none⟩) := hp 1 _ rfl (hd ⟨1, .data⟩ (by simp) rfl)
      exact G.st_val (v := .slice A bytes.length c) (w' := wq) (by simp [execOp, go_sem, e65, c7, hw16] <;> omega) ⟨_, rfl, hI.fresh hP0 2 (Below.refl _ _), rfl, G.of2_fresh hBe 2 (Below.refl _ _)⟩
    · refine G.wanted_yes (G.wanted_plain rfl) ?_
      have e66 : a.tmps[66]?.getD undef = .slice A bytes.length c := hp 2 _ rfl (hd ⟨2, .data⟩ (by simp) rfl)
      exact G.st_val (v := .int .i64 bytes.length) (w' := wq) (by simp [execOp, go_sem, e66, c7, hw16] <;> omega) ⟨_, rfl, hI.fresh hP0 3 (Below.refl _ _), rfl, G.of2_fresh hBe 3 (Below.refl _ _)⟩
    · refine G.wanted_yes (G.wanted_plain rfl) ?_
      have e67 : a.tmps[67]?.getD undef = .int .i64 bytes.length := hp 3 _ rfl (hd ⟨3, .data⟩ (by simp) rfl)
      exact G.st_val (v := .int .u16 (bytes.length : Nat)) (w' := wq) (by simp [execOp, go_sem, e67, c7, hw16] <;> omega) ⟨_, rfl, hI.fresh hP0 4 (Below.refl _ _), rfl, G.of2_fresh hBe 4 (Below.refl _ _)⟩
    · refine G.wanted_yes (G.wanted_plain rfl) ?_
      have e64 : a.tmps[64]?.getD undef = v' := hp 0 _ rfl (hd ⟨0, .data⟩ (by simp) rfl)
      have e68 : a.tmps[68]?.getD undef = .int .u16 (bytes.length : Nat) := hp 4 _ rfl (hd ⟨4, .data⟩ (by simp) rfl)
      have own0 := hI.2.resolve_left (by rw [hLi]; decide)
      refine G.st_call (f := 23) (args := #[v', .int .u16 (bytes.length : Nat)]) (by simp [execOp, go_sem, e64, e68]) ((put16_any _ _ bytes.length wq _ own0.bs (by simp [be_len] <;> omega) (by omega)).mono ?_); rintro e w' ⟨v2, rfl, o2, hb⟩; exact ⟨_, rfl, _, rfl, (hI.fresh hP0 5 hb), .inr (o2.low hI.1.size), (G.of2_fresh hBe 5 hb)⟩
    · refine G.wanted_yes (G.wanted_plain rfl) ?_
      have e1 : a.tmps[1]?.getD undef = .pointer (some ⟨w.heap.size, 0, none⟩) := hS.at_ 1 rfl
      exact G.st_val (v := .pointer (some ⟨w.heap.size, 7, none⟩)) (w' := wq) (by simp [execOp, go_sem, e1, c7, hw16] <;> omega) ⟨_, rfl, hI.fresh hP0 6 (Below.refl _ _), rfl, G.of2_fresh hBe 6 (Below.refl _ _)⟩
    · refine G.wanted_yes (G.wanted_plain rfl) ?_
      have e70 : a.tmps[70]?.getD undef = .pointer (some ⟨w.heap.size, 7, none⟩) := hp 6 _ rfl (hd ⟨6, .data⟩ (by simp) rfl)
      exact G.st_val (v := .slice A bytes.length c) (w' := wq) (by simp [execOp, go_sem, e70, c7, hw16] <;> omega) ⟨_, rfl, hI.fresh hP0 7 (Below.refl _ _), rfl, G.of2_fresh hBe 7 (Below.refl _ _)⟩
    · refine G.wanted_yes (G.wanted_plain rfl) ?_
      have q69 : L 8 = true ∨ (fun w v => Ob w W.heap.size 5 v (([UInt8.ofNat 8] ++ be number 4) ++ [UInt8.ofNat co] ++ be bytes.length 2)) wq (G.slot a (some 69)) := hp 5 _ rfl (hd ⟨5, .data⟩ (by simp) rfl)
      replace q69 := q69.resolve_left (by rw [hLi]; decide)
      have e71 : a.tmps[71]?.getD undef = .slice A bytes.length c := hp 7 _ rfl (hd ⟨7, .data⟩ (by simp) rfl)
      refine G.st_app Try.el8 (.tmp 69) (.tmp 71) rfl W.heap.size q69 (hb1.below hI.1) (G.eval_tmp _) (by rw [G.eval_tmp]; exact e71) (by simp [be_len] <;> omega) hI.1.size ?_
      intro v' w' ho hg
      have hB' := own_below hI.1 (q69) hg (Nat.le_refl _)
      exact ⟨v', rfl, ⟨hB', .inl (G.more_old _ (hd ⟨5, .data⟩ (by simp) rfl))⟩, ho, G.of2_own ⟨fun _ u h => h, fun _ u h => h, fun _ u h => h, fun _ u h => h, fun _ u h => h, fun _ u _ => .inl (G.more_self _ _), fun _ u h => h, fun _ u h => h, fun hL => absurd hL (by rw [hLi]; decide), fun hL => absurd (hcl 9 _ rfl hL ⟨8, .data⟩ (by simp) rfl) (by rw [hLi]; decide), trivial⟩⟩
    · refine G.wanted_yes (G.wanted_plain rfl) ?_
      have q72 : (fun w v => Ob w W.heap.size 5 v (([UInt8.ofNat 8] ++ be number 4) ++ [UInt8.ofNat co] ++ be bytes.length 2 ++ bytes)) wq (G.slot a (some 72)) := hp 8 _ rfl (hd ⟨8, .data⟩ (by simp) rfl)
      exact G.st_move (.inr rfl) ⟨_, rfl, hI.fresh hP0 9 (Below.refl _ _), q72, G.of2_fresh hBe 9 (Below.refl _ _)⟩
  · intro L a wq hL hI hS hp
    have hT := hI.1
    have e64 : G.slot a (some 64) = v' := hp 0 _ rfl
    have e65 : G.slot a (some 65) = .pointer (some ⟨w.heap.size, 7, none⟩) := hp 1 _ rfl
    have e66 : G.slot a (some 66) = .slice A bytes.length c := hp 2 _ rfl
    have e67 : G.slot a (some 67) = .int .i64 bytes.length := hp 3 _ rfl
    have e68 : G.slot a (some 68) = .int .u16 (bytes.length : Nat) := hp 4 _ rfl
    have e70 : G.slot a (some 70) = .pointer (some ⟨w.heap.size, 7, none⟩) := hp 6 _ rfl
    have e71 : G.slot a (some 71) = .slice A bytes.length c := hp 7 _ rfl
    have q72 : (fun w v => Ob w W.heap.size 5 v (([UInt8.ofNat 8] ++ be number 4) ++ [UInt8.ofNat co] ++ be bytes.length 2 ++ bytes)) wq (G.slot a (some 72)) := hp 8 _ rfl
    have q6 : (fun w v => Ob w W.heap.size 5 v (([UInt8.ofNat 8] ++ be number 4) ++ [UInt8.ofNat co] ++ be bytes.length 2 ++ bytes)) wq (G.slot a (some 6)) := hp 9 _ rfl
    have ha := G.act_of hS
    simp only [List.foldl_cons, List.foldl_nil, Act.put, List.setIfInBounds_toArray, List.set_cons_succ, List.set_cons_zero, e64, e65, e66, e67, e68, e70, e71] at ha
    generalize G.slot a (some 69) = s69 at ha
    generalize G.slot a (some 72) = s72 at q72 ha
    generalize G.slot a (some 6) = s6 at q6 ha
    clear hp hS hI hBe hP0 e64 e65 e66 e67 e68 e70 e71
    subst ha
    replace ho := q6
    replace hB := hT
    go_wp2
    go_ret2
    exact ⟨_, rfl, by simpa using ho.low HB0.out.size, below_tr HB0.out hB⟩

end Go.Proofs.Ytmcldnfemlaeiaa
