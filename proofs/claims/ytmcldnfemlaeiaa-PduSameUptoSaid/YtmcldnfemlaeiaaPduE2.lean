/- Layer 11's walk of Encode at kind 2. No condition beyond sizes. -/
import Derived.Test.YtmcldnfemlaeiaaPduK
import Derived.Test.YtmcldnfemlaeiaaG3
namespace Go.Proofs.Ytmcldnfemlaeiaa
open Go.RowKit K L
set_option linter.unusedVariables false
set_option linter.unusedSimpArgs false

set_option maxRecDepth 100000 in
set_option maxHeartbeats 4000000 in
theorem encode_2 (m : Msg) (vb : Value) (w : World) (F : Nat → Prop) (h : Bs w F vb m.bytes) (hk : m.kind = 2) (hok : m.ok) (hn : m.number < 4294967296) (hu : m.sum < 4294967296) :
    Calls Try.prog 9 #[.agg (m.cells vb).toArray] w fun e w' => ∃ v, e = .returned (.tuple #[v, .int .i64 0]) ∧ Ob w' w.heap.size 5 v m.enc ∧ Below w.heap.size w w' := by
  have hm0 : okErr m = 0 := by rw [okErr, if_pos hok]
  obtain ⟨kind, number, name, size, off, sum, code, bytes⟩ := m
  have ho := hok
  obtain ⟨_, o2, o3, o4, o5, o6, o7, o8, o9, o10, o11, o12, o13⟩ := ho
  dsimp only at hk hn hu h o2 o3 o4 o5 o6 o7 o8 o9 o10 o11 o12 o13
  subst hk
  simp only [show fldN 2 = false from rfl, show fldS 2 = false from rfl, show fldO 2 = true from rfl, show fldU 2 = false from rfl, show fldC 2 = false from rfl, show fldB 2 = true from rfl, eq_self, forall_const, reduceCtorEq, false_implies] at o3 o4 o6 o7 o8 o10 o12
  obtain ⟨o131, o132, o133⟩ := o13 rfl
  have offr : 0 ≤ off ∧ off ≤ 4096 := by omega
  have nl : name.length ≤ 24 := by omega
  clear o13
  obtain ⟨sz, rfl⟩ : ∃ n : Nat, size = (n : Int) := ⟨size.toNat, by omega⟩
  obtain ⟨of, rfl⟩ : ∃ n : Nat, off = (n : Int) := ⟨off.toNat, by omega⟩
  obtain ⟨co, rfl⟩ : ∃ n : Nat, code = (n : Int) := ⟨code.toNat, by omega⟩
  have z5 : sz ≤ 4096 := by omega
  have z7 : of ≤ 4096 := by omega
  have z9 : co ≤ 255 := by omega
  have enc : Msg.enc ⟨2, number, name, (sz : Int), (of : Int), sum, (co : Int), bytes⟩ = [UInt8.ofNat 2] ++ be number 4 ++ be of 2 ++ be bytes.length 2 ++ bytes := by
    unfold Msg.enc
    simp [show fldN 2 = false from rfl, show fldS 2 = false from rfl, show fldO 2 = true from rfl, show fldU 2 = false from rfl, show fldC 2 = false from rfl, show fldB 2 = true from rfl]
  rw [enc]
  have hc := check_any ⟨2, number, name, (sz : Int), (of : Int), sum, (co : Int), bytes⟩ vb
  rw [hm0] at hc
  have HC := Lib.hid hc
  clear hc hm0 hok enc o2 o3 o4 o5 o6 o7 o8 o9 o10 o12 offr o131 o132 o133
  have hb := h
  obtain ⟨A, c, rfl, l1, l2, -, -⟩ := h.open_
  unfold maxLen at l2
  clear h
  unfold Msg.cells at HC ⊢
  dsimp only at HC ⊢
  go_enter Try.func9, Try.ntmps9
  go_wp2_with fail
  obtain ⟨hm, hB, hb1, hsz⟩ := box_one w (.cells #[.int .i64 2, .int .u32 (number : Nat), .string ⟨name.toArray⟩, .int .i64 (sz : Nat), .int .i64 (of : Nat), .int .u32 (sum : Nat), .int .i64 (co : Nat), .slice A bytes.length c] 25) _ _ _ hb
  clear hb
  generalize w.alloc (.cells #[.int .i64 2, .int .u32 (number : Nat), .string ⟨name.toArray⟩, .int .i64 (sz : Nat), .int .i64 (of : Nat), .int .u32 (sum : Nat), .int .i64 (co : Nat), .slice A bytes.length c] 25) = W at *
  refine (HC.out _ _ hb1 (Nat.le_trans nl (by decide))).mono ?_
  rintro e w1 ⟨rfl, hB1⟩
  have HM := Lib.hid hm
  have HB0 := Lib.hid hB
  have HSZ := Lib.hid hsz
  clear hm hB hsz HC
  have hB := hB1
  have hm := heap_bl hB HM.out
  have c0 := cell_of hm 0
  have c1 := cell_of hm 1
  have c2 := cell_of hm 2
  have c3 := cell_of hm 3
  have c4 := cell_of hm 4
  have c5 := cell_of hm 5
  have c6 := cell_of hm 6
  have c7 := cell_of hm 7
  simp at c0 c1 c2 c3 c4 c5 c6 c7
  go_wp2_with fail
  refine (fields_is _ 36 rfl _).mono ?_
  rintro e w2 ⟨rfl, rfl⟩
  have a1 := fun o => cell_al c1 o
  go_wp2_with fail
  refine (put32_any _ [UInt8.ofNat 2] number _ _ (lit_bs w1 [UInt8.ofNat 2] #[.int .u8 2] rfl 1 rfl (by decide)) (by decide) hn).mono ?_
  rintro e w3 ⟨s0, rfl, ho, hB3⟩
  replace ho := ho.low (show W.heap.size ≤ _ from by have := hB1.size; simp only [World.size_alloc]; omega)
  replace hB := below_tr (below_al hB1 _) hB3
  clear hB1 hB3 hm a1 c0 c1 c2 c3 c4 c5 c6 c7
  have hm := heap_bl hB HM.out
  have c0 := cell_of hm 0
  have c1 := cell_of hm 1
  have c2 := cell_of hm 2
  have c3 := cell_of hm 3
  have c4 := cell_of hm 4
  have c5 := cell_of hm 5
  have c6 := cell_of hm 6
  have c7 := cell_of hm 7
  simp at c0 c1 c2 c3 c4 c5 c6 c7
  go_wp2_with fail
  refine (has_any 36 1 (by decide) (by decide) _).mono ?_
  rw [show fhas 36 1 = false from by decide]
  rintro e w' ⟨rfl, rfl⟩
  go_wp2_with fail
  refine (has_any 36 2 (by decide) (by decide) _).mono ?_
  rw [show fhas 36 2 = false from by decide]
  rintro e w' ⟨rfl, rfl⟩
  go_wp2_with fail
  refine (has_any 36 4 (by decide) (by decide) _).mono ?_
  rw [show fhas 36 4 = true from by decide]
  rintro e w' ⟨rfl, rfl⟩
  go_wp2_with fail
  refine (put16_any _ _ of _ _ ho.bs (by simp [be_len] <;> omega) (by omega)).mono ?_
  rintro e w' ⟨v', rfl, ho', hB'⟩
  replace ho := ho'.low (show W.heap.size ≤ _ from hB.size)
  replace hB := below_tr hB hB'
  clear ho' hB'
  clear hm c0 c1 c2 c3 c4 c5 c6 c7
  have hm := heap_bl hB HM.out
  have c0 := cell_of hm 0
  have c1 := cell_of hm 1
  have c2 := cell_of hm 2
  have c3 := cell_of hm 3
  have c4 := cell_of hm 4
  have c5 := cell_of hm 5
  have c6 := cell_of hm 6
  have c7 := cell_of hm 7
  simp at c0 c1 c2 c3 c4 c5 c6 c7
  go_wp2_with fail
  refine (has_any 36 8 (by decide) (by decide) _).mono ?_
  rw [show fhas 36 8 = false from by decide]
  rintro e w' ⟨rfl, rfl⟩
  go_wp2_with fail
  refine (has_any 36 16 (by decide) (by decide) _).mono ?_
  rw [show fhas 36 16 = false from by decide]
  rintro e w' ⟨rfl, rfl⟩
  go_wp2_with fail
  refine (has_any 36 32 (by decide) (by decide) _).mono ?_
  rw [show fhas 36 32 = true from by decide]
  rintro e w' ⟨rfl, rfl⟩
  go_wp2
  have hw16 : IntKind.u16.wrap (bytes.length : Int) = (bytes.length : Int) := by rw [IntKind.wrap_u16]; omega
  have hBe : G.Bears [⟨fun (_ : World) (v : Value) => v = v', none⟩, ⟨fun (_ : World) (v : Value) => v = .pointer (some ⟨w.heap.size, 7, none⟩), none⟩, ⟨fun (_ : World) (v : Value) => v = .slice A bytes.length c, none⟩, ⟨fun (_ : World) (v : Value) => v = .int .i64 bytes.length, none⟩, ⟨fun (_ : World) (v : Value) => v = .int .u16 (bytes.length : Nat), none⟩, ⟨fun w v => Ob w W.heap.size 5 v (([UInt8.ofNat 2] ++ be number 4) ++ be of 2 ++ be bytes.length 2), some 8⟩, ⟨fun (_ : World) (v : Value) => v = .pointer (some ⟨w.heap.size, 7, none⟩), none⟩, ⟨fun (_ : World) (v : Value) => v = .slice A bytes.length c, none⟩, ⟨fun w v => Ob w W.heap.size 5 v (([UInt8.ofNat 2] ++ be number 4) ++ be of 2 ++ be bytes.length 2 ++ bytes), none⟩, ⟨fun w v => Ob w W.heap.size 5 v (([UInt8.ofNat 2] ++ be number 4) ++ be of 2 ++ be bytes.length 2 ++ bytes), none⟩] := ⟨fun w w' v h hb => h, fun w w' v h hb => h, fun w w' v h hb => h, fun w w' v h hb => h, fun w w' v h hb => h, fun w w' v h hb => by first | exact G.ob_fresh h hb | exact G.keep_bs h hb | exact G.row_fresh h hb, fun w w' v h hb => h, fun w w' v h hb => h, fun w w' v h hb => by first | exact G.ob_fresh h hb | exact G.keep_bs h hb | exact G.row_fresh h hb, fun w w' v h hb => by first | exact G.ob_fresh h hb | exact G.keep_bs h hb | exact G.row_fresh h hb, trivial⟩
  have hP0 : ∀ w w', (fun w => Ob w W.heap.size 5 v' (([UInt8.ofNat 2] ++ be number 4) ++ be of 2)) w → Below w.heap.size w w' → (fun w => Ob w W.heap.size 5 v' (([UInt8.ofNat 2] ++ be number 4) ++ be of 2)) w' := fun w w' h hb => by first | exact G.ob_fresh h hb | exact G.keep_bs h hb | exact G.row_fresh h hb
  refine G.region_two (by kernel_rfl) (by kernel_rfl) (G.Own W (fun w => Ob w W.heap.size 5 v' (([UInt8.ofNat 2] ++ be number 4) ++ be of 2)) 5) (G.of2 [⟨fun (_ : World) (v : Value) => v = v', none⟩, ⟨fun (_ : World) (v : Value) => v = .pointer (some ⟨w.heap.size, 7, none⟩), none⟩, ⟨fun (_ : World) (v : Value) => v = .slice A bytes.length c, none⟩, ⟨fun (_ : World) (v : Value) => v = .int .i64 bytes.length, none⟩, ⟨fun (_ : World) (v : Value) => v = .int .u16 (bytes.length : Nat), none⟩, ⟨fun w v => Ob w W.heap.size 5 v (([UInt8.ofNat 2] ++ be number 4) ++ be of 2 ++ be bytes.length 2), some 8⟩, ⟨fun (_ : World) (v : Value) => v = .pointer (some ⟨w.heap.size, 7, none⟩), none⟩, ⟨fun (_ : World) (v : Value) => v = .slice A bytes.length c, none⟩, ⟨fun w v => Ob w W.heap.size 5 v (([UInt8.ofNat 2] ++ be number 4) ++ be of 2 ++ be bytes.length 2 ++ bytes), none⟩, ⟨fun w v => Ob w W.heap.size 5 v (([UInt8.ofNat 2] ++ be number 4) ++ be of 2 ++ be bytes.length 2 ++ bytes), none⟩]) (fun L hL => ⟨hB.drew, .inr (World.ownsRow.drew ho)⟩) ?_ (G.each_ops ?_) ?_
  · intro i o hi hd; exact absurd hd (G.no_none (by kernel_rfl) hi)
  · refine ⟨?_, ?_, ?_, ?_, ?_, ?_, ?_, ?_, ?_, ?_, trivial⟩
    all_goals intro L a wq hLi hd hcl hU hI hS hp
    all_goals (have c7 := cell_of (heap_bl hI.1 HM.out) 7; simp at c7)
    · refine G.wanted_yes (G.wanted_plain rfl) ?_
      have e6 : a.tmps[6]?.getD undef = v' := hU 6 (G.unlisted 6 9 hLi hcl rfl (by kernel_rfl) .phase (by simp) rfl)
      exact G.st_val (v := v') (w' := wq) (by simp [execOp, go_sem, e6, c7, hw16] <;> omega) ⟨_, rfl, hI.fresh hP0 0 (Below.refl _ _), rfl, G.of2_fresh hBe 0 (Below.refl _ _)⟩
    · refine G.wanted_yes (G.wanted_plain rfl) ?_
      have e1 : a.tmps[1]?.getD undef = .pointer (some ⟨w.heap.size, 0, none⟩) := hS.at_ 1 rfl
      exact G.st_val (v := .pointer (some ⟨w.heap.size, 7, none⟩)) (w' := wq) (by simp [execOp, go_sem, e1, c7, hw16] <;> omega) ⟨_, rfl, hI.fresh hP0 1 (Below.refl _ _), rfl, G.of2_fresh hBe 1 (Below.refl _ _)⟩
    · refine G.wanted_yes (G.wanted_plain rfl) ?_
      have e65 : a.tmps[65]?.getD undef = .pointer (some ⟨w.heap.size, 7, none⟩) := hp 1 _ rfl (hd ⟨1, .data⟩ (by simp) rfl)
      exact G.st_val (v := .slice A bytes.length c) (w' := wq) (by simp [execOp, go_sem, e65, c7, hw16] <;> omega) ⟨_, rfl, hI.fresh hP0 2 (Below.refl _ _), rfl, G.of2_fresh hBe 2 (Below.refl _ _)⟩
    · refine G.wanted_yes (G.wanted_plain rfl) ?_
      have e66 : a.tmps[66]?.getD undef = .slice A bytes.length c := hp 2 _ rfl (hd ⟨2, .data⟩ (by simp) rfl)
      exact G.st_val (v := .int .i64 bytes.length) (w' := wq) (by simp [execOp, go_sem, e66, c7, hw16] <;> omega) ⟨_, rfl, hI.fresh hP0 3 (Below.refl _ _), rfl, G.of2_fresh hBe 3 (Below.refl _ _)⟩
    · refine G.wanted_yes (G.wanted_plain rfl) ?_
      have e67 : a.tmps[67]?.getD undef = .int .i64 bytes.length := hp 3 _ rfl (hd ⟨3, .data⟩ (by simp) rfl)
      exact G.st_val (v := .int .u16 (bytes.length : Nat)) (w' := wq) (by simp [execOp, go_sem, e67, c7, hw16] <;> omega) ⟨_, rfl, hI.fresh hP0 4 (Below.refl _ _), rfl, G.of2_fresh hBe 4 (Below.refl _ _)⟩
    · refine G.wanted_yes (G.wanted_plain rfl) ?_
      have e64 : a.tmps[64]?.getD undef = v' := hp 0 _ rfl (hd ⟨0, .data⟩ (by simp) rfl)
      have e68 : a.tmps[68]?.getD undef = .int .u16 (bytes.length : Nat) := hp 4 _ rfl (hd ⟨4, .data⟩ (by simp) rfl)
      have own0 := hI.2.resolve_left (by rw [hLi]; decide)
      refine G.st_call (f := 23) (args := #[v', .int .u16 (bytes.length : Nat)]) (by simp [execOp, go_sem, e64, e68]) ((put16_any _ _ bytes.length wq _ own0.bs (by simp [be_len] <;> omega) (by omega)).mono ?_); rintro e w' ⟨v2, rfl, o2, hb⟩; exact ⟨_, rfl, _, rfl, (hI.fresh hP0 5 hb), .inr (o2.low hI.1.size), (G.of2_fresh hBe 5 hb)⟩
    · refine G.wanted_yes (G.wanted_plain rfl) ?_
      have e1 : a.tmps[1]?.getD undef = .pointer (some ⟨w.heap.size, 0, none⟩) := hS.at_ 1 rfl
      exact G.st_val (v := .pointer (some ⟨w.heap.size, 7, none⟩)) (w' := wq) (by simp [execOp, go_sem, e1, c7, hw16] <;> omega) ⟨_, rfl, hI.fresh hP0 6 (Below.refl _ _), rfl, G.of2_fresh hBe 6 (Below.refl _ _)⟩
    · refine G.wanted_yes (G.wanted_plain rfl) ?_
      have e70 : a.tmps[70]?.getD undef = .pointer (some ⟨w.heap.size, 7, none⟩) := hp 6 _ rfl (hd ⟨6, .data⟩ (by simp) rfl)
      exact G.st_val (v := .slice A bytes.length c) (w' := wq) (by simp [execOp, go_sem, e70, c7, hw16] <;> omega) ⟨_, rfl, hI.fresh hP0 7 (Below.refl _ _), rfl, G.of2_fresh hBe 7 (Below.refl _ _)⟩
    · refine G.wanted_yes (G.wanted_plain rfl) ?_
      have q69 : L 8 = true ∨ (fun w v => Ob w W.heap.size 5 v (([UInt8.ofNat 2] ++ be number 4) ++ be of 2 ++ be bytes.length 2)) wq (G.slot a (some 69)) := hp 5 _ rfl (hd ⟨5, .data⟩ (by simp) rfl)
      replace q69 := q69.resolve_left (by rw [hLi]; decide)
      have e71 : a.tmps[71]?.getD undef = .slice A bytes.length c := hp 7 _ rfl (hd ⟨7, .data⟩ (by simp) rfl)
      refine G.st_app Try.el8 (.tmp 69) (.tmp 71) rfl W.heap.size q69 (hb1.below hI.1) (G.eval_tmp _) (by rw [G.eval_tmp]; exact e71) (by simp [be_len] <;> omega) hI.1.size ?_
      intro v' w' ho hg
      have hB' := own_below hI.1 (q69) hg (Nat.le_refl _)
      exact ⟨v', rfl, ⟨hB', .inl (G.more_old _ (hd ⟨5, .data⟩ (by simp) rfl))⟩, ho, G.of2_own ⟨fun _ u h => h, fun _ u h => h, fun _ u h => h, fun _ u h => h, fun _ u h => h, fun _ u _ => .inl (G.more_self _ _), fun _ u h => h, fun _ u h => h, fun hL => absurd hL (by rw [hLi]; decide), fun hL => absurd (hcl 9 _ rfl hL ⟨8, .data⟩ (by simp) rfl) (by rw [hLi]; decide), trivial⟩⟩
    · refine G.wanted_yes (G.wanted_plain rfl) ?_
      have q72 : (fun w v => Ob w W.heap.size 5 v (([UInt8.ofNat 2] ++ be number 4) ++ be of 2 ++ be bytes.length 2 ++ bytes)) wq (G.slot a (some 72)) := hp 8 _ rfl (hd ⟨8, .data⟩ (by simp) rfl)
      exact G.st_move (.inr rfl) ⟨_, rfl, hI.fresh hP0 9 (Below.refl _ _), q72, G.of2_fresh hBe 9 (Below.refl _ _)⟩
  · intro L a wq hL hI hS hp
    have hT := hI.1
    have e64 : G.slot a (some 64) = v' := hp 0 _ rfl
    have e65 : G.slot a (some 65) = .pointer (some ⟨w.heap.size, 7, none⟩) := hp 1 _ rfl
    have e66 : G.slot a (some 66) = .slice A bytes.length c := hp 2 _ rfl
    have e67 : G.slot a (some 67) = .int .i64 bytes.length := hp 3 _ rfl
    have e68 : G.slot a (some 68) = .int .u16 (bytes.length : Nat) := hp 4 _ rfl
    have e70 : G.slot a (some 70) = .pointer (some ⟨w.heap.size, 7, none⟩) := hp 6 _ rfl
    have e71 : G.slot a (some 71) = .slice A bytes.length c := hp 7 _ rfl
    have q72 : (fun w v => Ob w W.heap.size 5 v (([UInt8.ofNat 2] ++ be number 4) ++ be of 2 ++ be bytes.length 2 ++ bytes)) wq (G.slot a (some 72)) := hp 8 _ rfl
    have q6 : (fun w v => Ob w W.heap.size 5 v (([UInt8.ofNat 2] ++ be number 4) ++ be of 2 ++ be bytes.length 2 ++ bytes)) wq (G.slot a (some 6)) := hp 9 _ rfl
    have ha := G.act_of hS
    simp only [List.foldl_cons, List.foldl_nil, Act.put, List.setIfInBounds_toArray, List.set_cons_succ, List.set_cons_zero, e64, e65, e66, e67, e68, e70, e71] at ha
    generalize G.slot a (some 69) = s69 at ha
    generalize G.slot a (some 72) = s72 at q72 ha
    generalize G.slot a (some 6) = s6 at q6 ha
    clear hp hS hI hBe hP0 e64 e65 e66 e67 e68 e70 e71
    subst ha
    replace ho := q6
    replace hB := hT
    go_wp2
    go_ret2
    exact ⟨_, rfl, by simpa using ho.low HB0.out.size, below_tr HB0.out hB⟩

end Go.Proofs.Ytmcldnfemlaeiaa
