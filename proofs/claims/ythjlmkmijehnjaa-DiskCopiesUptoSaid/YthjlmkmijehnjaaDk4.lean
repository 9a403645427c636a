/- Layer 2's walks: arm, fail, crash, what power can leave, sync. No condition beyond sizes. -/
import Derived.Test.YthjlmkmijehnjaaDk3
import Derived.RangeFuncMany
namespace Go.Proofs.Ythjlmkmijehnjaa
open Go.RowKit Go.Shelf K L
set_option linter.unusedVariables false
set_option linter.unusedSimpArgs false

theorem bool_row {w : World} {F : Nat → Prop} {A : Option Addr} {c : Nat} {ks : List Bool} (h : Sl w F 1 (.slice A ks.length c) ks.length (ks.map Value.bool)) (i : Nat) (hi : i < ks.length) : ∃ b o, A = some ⟨b, o, none⟩ ∧ w.cell? ⟨b, o + i, none⟩ = some (.bool (kept ks i)) := by
  obtain ⟨b, o, hA, -, -, hc⟩ := Sl.cells h (by omega) (by decide)
  refine ⟨b, o, hA, hc i _ ?_⟩
  unfold kept
  rw [List.getD_eq_getElem?_getD, List.getElem?_map, List.getElem?_eq_getElem hi]; rfl

set_option maxHeartbeats 2000000 in
theorem crash1 (ks : List Bool) (vk : Value) (pk : Nat) (W : World) (F : Nat → Prop) (hb : W.cell? ⟨pk, 0, none⟩ = some vk) (hs : Sl W F 1 vk ks.length (ks.map Value.bool)) (i : Nat) (hi : i < 1073741824) :
    Calls Try.prog 49 (#[.int .i64 (i : Nat)] ++ #[.pointer (some ⟨pk, 0, none⟩)]) W fun e w' => e = .returned (.bool (kept ks i)) ∧ W = w' := by
  have hs' := hs
  obtain ⟨-, A, c, rfl, h1, h2, -, -⟩ := hs
  unfold maxLen at h2
  by_cases hlt : i < ks.length
  · obtain ⟨b, o, rfl, hc⟩ := bool_row hs' i hlt
    clear hs'
    go_enter Try.func49, Try.ntmps49
    go_wp2
    go_ret
    exact ⟨rfl, rfl⟩
  · have HK := Lib.hid (show kept ks i = false by unfold kept; rw [List.getD_eq_getElem?_getD, List.getElem?_eq_none (by omega)]; rfl)
    clear hs'
    go_enter Try.func49, Try.ntmps49
    go_wp2
    go_ret
    exact ⟨by rw [HK.out]; rfl, rfl⟩

theorem sync11 (i : Int) (W : World) : Calls Try.prog 48 (#[.int .i64 i] ++ #[]) W fun e w' => e = .returned (.bool true) ∧ W = w' := by
  go_enter Try.func48, Try.ntmps48
  go_wp2
  go_ret
  exact ⟨rfl, rfl⟩

theorem arm_nil (n : Int) (w : World) : Calls Try.prog 24 #[.pointer none, .int .i64 n] w fun e w' => e = .returned (.int .i64 1) ∧ w = w' := by
  go_enter Try.func24, Try.ntmps24
  go_wp2_with fail
  refine (power_nil w).mono ?_
  rintro e w' ⟨rfl, rfl⟩
  go_wp2
  go_ret
  exact ⟨rfl, rfl⟩
theorem fail_nil (n : Int) (w : World) : Calls Try.prog 27 #[.pointer none, .int .i64 n] w fun e w' => e = .returned (.int .i64 1) ∧ w = w' := by
  go_enter Try.func27, Try.ntmps27
  go_wp2_with fail
  refine (power_nil w).mono ?_
  rintro e w' ⟨rfl, rfl⟩
  go_wp2
  go_ret
  exact ⟨rfl, rfl⟩

set_option maxHeartbeats 2000000 in
theorem arm_any {w : World} {S : Nat → Prop} {b : Nat} {vs vp : Value} {d : PD} (h : Dk w S b vs vp d) (n : Int) (h1 : -9223372036854775808 ≤ n) (h2 : n ≤ 9223372036854775807) :
    Calls Try.prog 24 #[.pointer (some ⟨b, 0, none⟩), .int .i64 n] w (Left w S b vs vp (d.arm n)) := by
  have H := Lib.hid h
  have f3 := h.hd.frozen 3
  have f4 := h.hd.frozen 4
  obtain ⟨-, -, -, c3, c4, -, -⟩ := h.hd.cells
  cases hd : d.dead
  case true =>
    have HR := Lib.hid (show d.arm n = (9, d) by unfold PD.arm; rw [if_pos hd])
    clear h
    go_enter Try.func24, Try.ntmps24
    go_wp2_with fail
    refine (power_dead H.out.hd hd).mono ?_
    rintro e w' ⟨rfl, rfl⟩
    clear hd
    go_wp2
    go_ret
    rw [HR.out]
    exact ⟨rfl, H.out, Upd.refl _ _, rfl⟩
  case false =>
    have HR := Lib.hid (show d.arm n = (0, { d with armed := decide (0 ≤ n), left := n }) by unfold PD.arm; rw [if_neg (by rw [hd]; decide)])
    have HP := Lib.hid (power_ok h.hd hd)
    have hok := PD.ok_arm h.ok n h1 h2
    rw [HR.out] at hok
    have hu1 : Upd S w (w.setCell ⟨b, 3, none⟩ (.bool (decide (0 ≤ n)))) := upd_head h.sb 3 _
    have hu2 : Upd S w ((w.setCell ⟨b, 3, none⟩ (.bool (decide (0 ≤ n)))).setCell ⟨b, 4, none⟩ (.int .i64 n)) := hu1.trans (upd_head h.sb 4 _) (fun _ _ h => h)
    have hv2 : Upd (· = b) w ((w.setCell ⟨b, 3, none⟩ (.bool (decide (0 ≤ n)))).setCell ⟨b, 4, none⟩ (.int .i64 n)) := ((Upd.refl (· = b) w).setCell ⟨b, 3, none⟩ (.bool (decide (0 ≤ n))) (fun _ => rfl)).setCell ⟨b, 4, none⟩ _ (fun _ => rfl)
    have HN := Lib.hid (show Dk ((w.setCell ⟨b, 3, none⟩ (.bool (decide (0 ≤ n)))).setCell ⟨b, 4, none⟩ (.int .i64 n)) S b vs vp { d with armed := decide (0 ≤ n), left := n } from
      ⟨(h.hd.armed _).left n, hv2.own h.safe fun g hg => (h.ss g hg).2, hv2.own h.pend fun g hg => (h.sp g hg).2.1, fun x hx => Nat.lt_of_lt_of_le (h.lt x hx) hu2.size, h.sb, h.ss, h.sp, hok⟩)
    have HU := Lib.hid hu2
    clear h hd hok hu1 hu2 hv2
    by_cases hn : 0 ≤ n
    · have hdn : decide (0 ≤ n) = true := decide_eq_true hn
      rw [hdn] at HN HU HR
      go_enter Try.func24, Try.ntmps24
      go_wp2_with fail
      refine HP.out.mono ?_
      rintro e w' ⟨rfl, rfl⟩
      go_wp2
      go_ret
      rw [HR.out]
      exact ⟨rfl, HN.out, HU.out, by rw [World.size_setCell, World.size_setCell]⟩
    · have hdn : decide (0 ≤ n) = false := decide_eq_false hn
      rw [hdn] at HN HU HR
      go_enter Try.func24, Try.ntmps24
      go_wp2_with fail
      refine HP.out.mono ?_
      rintro e w' ⟨rfl, rfl⟩
      go_wp2
      go_ret
      rw [HR.out]
      exact ⟨rfl, HN.out, HU.out, by rw [World.size_setCell, World.size_setCell]⟩

set_option maxHeartbeats 2000000 in
theorem fail_any {w : World} {S : Nat → Prop} {b : Nat} {vs vp : Value} {d : PD} (h : Dk w S b vs vp d) (n : Int) (h1 : -9223372036854775808 ≤ n) (h2 : n ≤ 9223372036854775807) :
    Calls Try.prog 27 #[.pointer (some ⟨b, 0, none⟩), .int .i64 n] w (Left w S b vs vp (d.fail n)) := by
  have H := Lib.hid h
  have f5 := h.hd.frozen 5
  obtain ⟨-, -, -, -, -, c5, -⟩ := h.hd.cells
  cases hd : d.dead
  case true =>
    have HR := Lib.hid (show d.fail n = (9, d) by unfold PD.fail; rw [if_pos hd])
    clear h
    go_enter Try.func27, Try.ntmps27
    go_wp2_with fail
    refine (power_dead H.out.hd hd).mono ?_
    rintro e w' ⟨rfl, rfl⟩
    clear hd
    go_wp2
    go_ret
    rw [HR.out]
    exact ⟨rfl, H.out, Upd.refl _ _, rfl⟩
  case false =>
    have HP := Lib.hid (power_ok h.hd hd)
    have hok := PD.ok_fail h.ok n
    have hu1 : Upd S w (w.setCell ⟨b, 5, none⟩ (.int .i64 0)) := upd_head h.sb 5 _
    by_cases hn : 0 ≤ n ∧ n < 4611686018427387904
    · have HR := Lib.hid (show d.fail n = (0, { d with fails := n + 1 }) by unfold PD.fail; rw [if_neg (by rw [hd]; decide), if_pos hn])
      rw [HR.out] at hok
      have hh := h.hd.fails 0
      have hv2 : Upd (· = b) w ((w.setCell ⟨b, 5, none⟩ (.int .i64 0)).setCell ⟨b, 5, none⟩ (.int .i64 (n + 1))) := ((Upd.refl (· = b) w).setCell ⟨b, 5, none⟩ (.int .i64 0) (fun _ => rfl)).setCell ⟨b, 5, none⟩ _ (fun _ => rfl)
      have HU := Lib.hid (show Upd S w ((w.setCell ⟨b, 5, none⟩ (.int .i64 0)).setCell ⟨b, 5, none⟩ (.int .i64 (n + 1))) from hu1.trans (upd_head h.sb 5 _) (fun _ _ h => h))
      have HN := Lib.hid (show Dk ((w.setCell ⟨b, 5, none⟩ (.int .i64 0)).setCell ⟨b, 5, none⟩ (.int .i64 (n + 1))) S b vs vp { d with fails := n + 1 } from
        ⟨hh.fails (n + 1), hv2.own h.safe fun g hg => (h.ss g hg).2, hv2.own h.pend fun g hg => (h.sp g hg).2.1, fun x hx => Nat.lt_of_lt_of_le (h.lt x hx) HU.out.size, h.sb, h.ss, h.sp, hok⟩)
      obtain ⟨n0, n1⟩ := hn
      clear h hd hok hu1 hv2 hh
      go_enter Try.func27, Try.ntmps27
      go_wp2_with fail
      refine HP.out.mono ?_
      rintro e w' ⟨rfl, rfl⟩
      go_wp2
      go_ret
      rw [HR.out]
      exact ⟨rfl, HN.out, HU.out, by rw [World.size_setCell, World.size_setCell]⟩
    · have HR := Lib.hid (show d.fail n = (0, { d with fails := 0 }) by unfold PD.fail; rw [if_neg (by rw [hd]; decide), if_neg hn])
      rw [HR.out] at hok
      have HN := Lib.hid (Dk.head h 5 (.int .i64 0) (h.hd.fails 0) rfl rfl hok)
      have HU := Lib.hid hu1
      by_cases n0 : 0 ≤ n
      · have n1 : ¬ n < 4611686018427387904 := fun h => hn ⟨n0, h⟩
        clear h hd hok hu1 hn
        go_enter Try.func27, Try.ntmps27
        go_wp2_with fail
        refine HP.out.mono ?_
        rintro e w' ⟨rfl, rfl⟩
        go_wp2
        go_ret
        rw [HR.out]
        exact ⟨rfl, HN.out, HU.out, by rw [World.size_setCell]⟩
      · clear h hd hok hu1 hn
        go_enter Try.func27, Try.ntmps27
        go_wp2_with fail
        refine HP.out.mono ?_
        rintro e w' ⟨rfl, rfl⟩
        go_wp2
        go_ret
        rw [HR.out]
        exact ⟨rfl, HN.out, HU.out, by rw [World.size_setCell]⟩

theorem crash_nil (A : Option Addr) (n c : Nat) (w : World) : Calls Try.prog 29 #[.pointer none, .slice A n c] w fun e w' => e = .returned (.int .i64 1) ∧ Below w.heap.size w w' := by
  go_enter Try.func29, Try.ntmps29
  go_wp2
  go_ret
  exact ⟨rfl, below_al (Below.refl _ _) _⟩

set_option maxRecDepth 100000 in
set_option maxHeartbeats 4000000 in
theorem crash_any {w : World} {S F : Nat → Prop} {b : Nat} {vs vp vk : Value} {d : PD} (h : Dk w S b vs vp d) (hn : d.ops < 1073741824) (ks : List Bool) (hk : Sl w F 1 vk ks.length (ks.map Value.bool)) (hF : ∀ x, F x → ¬ S x) :
    Calls Try.prog 29 #[.pointer (some ⟨b, 0, none⟩), vk] w fun e w' => e = .returned (.int .i64 0) ∧ Dk w' S b vs (.slice none 0 0) (d.crash (kept ks)) ∧ Upd S w w' := by
  have hk' := hk
  have hnum := h.ok.num
  obtain ⟨-, A, c, rfl, -, -, -, -⟩ := hk
  obtain ⟨W, hW⟩ : ∃ W, w.alloc (.cells #[.slice A ks.length c] 30) = W := ⟨_, rfl⟩
  have hb0 : Below w.heap.size w W := by rw [← hW]; exact below_al (Below.refl _ _) _
  have hx0 : W.heap[w.heap.size]? = some (.cells #[.slice A ks.length c] 30 (0, 0)) := by rw [← hW]; exact heap_alloc_last _ _
  have hS : ¬ S w.heap.size := fun hs => Nat.lt_irrefl _ (h.lt _ hs)
  have htl : Tells 49 #[.pointer (some ⟨w.heap.size, 0, none⟩)] (kept ks) d.pend.length S W := by
    refine ⟨enters_of Try.func49 (by kernel_rfl) rfl, fun i W' hi hU => ?_⟩
    refine crash1 ks _ w.heap.size W' F ?_ (hU.sl (Sl.below hk' (by decide) hb0) (by decide) hF) i (by omega)
    exact cell_of_row W' w.heap.size 0 _ _ _ (hU.heap hx0 hS)
  have HD := Lib.hid (h.below hb0)
  have HT := Lib.hid htl
  have HB := Lib.hid hb0
  have HX := Lib.hid hx0
  clear h hk' htl hb0 hx0
  go_enter Try.func29, Try.ntmps29
  go_wp2_with fail
  try rw [hW]
  refine (settle_any HD.out hn _ _ _ HT.out).mono ?_
  rintro e w2 ⟨⟨u, rfl⟩, hd2, hu2⟩
  have hok := PD.ok_crash hd2.ok (kept ks)
  obtain ⟨-, -, c2, c3, -, c5, -⟩ := hd2.hd.cells
  have f2 := hd2.hd.frozen 2
  have f3 := hd2.hd.frozen 3
  have f5 := hd2.hd.frozen 5
  have hv : Upd (· = b) w2 (((w2.setCell ⟨b, 2, none⟩ (.bool false)).setCell ⟨b, 3, none⟩ (.bool false)).setCell ⟨b, 5, none⟩ (.int .i64 0)) := (((Upd.refl (· = b) w2).setCell ⟨b, 2, none⟩ (.bool false) (fun _ => rfl)).setCell ⟨b, 3, none⟩ _ (fun _ => rfl)).setCell ⟨b, 5, none⟩ _ (fun _ => rfl)
  have HN := Lib.hid (show Dk (((w2.setCell ⟨b, 2, none⟩ (.bool false)).setCell ⟨b, 3, none⟩ (.bool false)).setCell ⟨b, 5, none⟩ (.int .i64 0)) S b vs (.slice none 0 0) (d.crash (kept ks)) from
    ⟨((hd2.hd.dead false).armed false).fails 0, hv.own hd2.safe fun g hg => (hd2.ss g hg).2, hv.own hd2.pend fun g hg => (hd2.sp g hg).2.1, fun x hx => Nat.lt_of_lt_of_le (hd2.lt x hx) hv.size, hd2.sb, hd2.ss, hd2.sp, PD.ok_crash HD.out.ok _⟩)
  have HU := Lib.hid ((((Upd.of_below HB.out : Upd S w W).trans hu2 (fun _ _ h => h)).trans hv (fun x _ e => by rw [e]; exact hd2.sb)))
  clear hd2 hu2 hv hok hW
  go_wp2
  go_ret
  exact ⟨rfl, HN.out, HU.out⟩

/-- What a call of 'do' does ahead of what is to be done: dead at once. -/
theorem PD.tick_no {d : PD} (ha : d.armed = true) (h0 : d.left = 0) : d.tick = (9, { d with dead := true, armed := false }) := by unfold PD.tick; rw [if_pos ha, if_pos h0]
theorem PD.tick_armed {d : PD} (ha : d.armed = true) (h0 : ¬ d.left = 0) : d.tick = (0, { d with left := d.left - 1, ops := d.ops + 1 }) := by unfold PD.tick; rw [if_pos ha, if_neg h0]
theorem PD.tick_free {d : PD} (ha : d.armed = false) : d.tick = (0, { d with ops := d.ops + 1 }) := by unfold PD.tick; rw [if_neg (by rw [ha]; decide)]

set_option maxHeartbeats 4000000 in
theorem do_no {w : World} {S : Nat → Prop} {b : Nat} {vs vp : Value} {d : PD} (h : Dk w S b vs vp d) (fv : Value) (ht : ¬ d.tick.1 = 0) :
    Calls Try.prog 45 #[.pointer (some ⟨b, 0, none⟩), fv] w (Left w S b vs vp d.tick) := by
  obtain ⟨-, -, c2, c3, c4, -, -⟩ := h.hd.cells
  have f2 := h.hd.frozen 2
  have f3 := h.hd.frozen 3
  cases ha : d.armed
  case false => rw [PD.tick_free ha] at ht; exact absurd rfl ht
  case true =>
    by_cases h0 : d.left = 0
    · have HR := Lib.hid (PD.tick_no ha h0)
      have hok := PD.ok_tick h.ok
      rw [HR.out] at hok
      have hv : Upd (· = b) w ((w.setCell ⟨b, 2, none⟩ (.bool true)).setCell ⟨b, 3, none⟩ (.bool false)) := ((Upd.refl (· = b) w).setCell ⟨b, 2, none⟩ (.bool true) (fun _ => rfl)).setCell ⟨b, 3, none⟩ _ (fun _ => rfl)
      have HU := Lib.hid (hv.mono fun x _ e => (by rw [e]; exact h.sb : S x))
      have HN := Lib.hid (show Dk ((w.setCell ⟨b, 2, none⟩ (.bool true)).setCell ⟨b, 3, none⟩ (.bool false)) S b vs vp { d with dead := true, armed := false } from
        ⟨(h.hd.dead true).armed false, hv.own h.safe fun g hg => (h.ss g hg).2, hv.own h.pend fun g hg => (h.sp g hg).2.1, fun x hx => Nat.lt_of_lt_of_le (h.lt x hx) hv.size, h.sb, h.ss, h.sp, hok⟩)
      rw [ha] at c3
      rw [h0] at c4
      clear h ht ha h0 hok hv
      go_enter Try.func45, Try.ntmps45
      go_wp2
      go_ret
      rw [HR.out]
      exact ⟨rfl, HN.out, HU.out, by rw [World.size_setCell, World.size_setCell]⟩
    · rw [PD.tick_armed ha h0] at ht; exact absurd rfl ht

set_option maxHeartbeats 4000000 in
theorem do_yes {w : World} {S : Nat → Prop} {b : Nat} {vs vp : Value} {d : PD} (h : Dk w S b vs vp d) (hn : d.ops < 1073741824) (g : Nat) (lb : Array Value) (ht : d.tick.1 = 0) (R : World → Prop)
    (eg : ∀ args w, (callFunc g args).run Try.prog w = .ok (.enter g args) w) (hw : ∀ w2, Dk w2 S b vs vp d.tick.2 → Upd S w w2 → w2.heap.size = w.heap.size → Calls Try.prog g lb w2 fun e w' => (∃ u, e = .returned u) ∧ R w') :
    Calls Try.prog 45 #[.pointer (some ⟨b, 0, none⟩), .func (.func g) #[] lb] w fun e w' => e = .returned (.int .i64 0) ∧ R w' := by
  obtain ⟨-, -, -, c3, c4, -, c6⟩ := h.hd.cells
  have f4 := h.hd.frozen 4
  have f6 := h.hd.frozen 6
  have EG := Lib.hid eg
  have hok := PD.ok_tick h.ok
  have l1 := h.ok.lo
  have l2 := h.ok.hi
  have l3 := h.ok.arm
  cases ha : d.armed
  case false =>
    have HR := Lib.hid (PD.tick_free ha)
    rw [HR.out] at hok hw
    have hv : Upd (· = b) w (w.setCell ⟨b, 6, none⟩ (.int .i64 ((d.ops + 1 : Nat) : Int))) := (Upd.refl (· = b) w).setCell ⟨b, 6, none⟩ _ (fun _ => rfl)
    have HC := Lib.hid (hw _ (Dk.head h 6 _ (h.hd.ops (d.ops + 1)) rfl rfl hok) (hv.mono fun x _ e => (by rw [e]; exact h.sb : S x)) (World.size_setCell _ _ _))
    rw [ha] at c3
    clear h ht ha hok hv hw eg l3
    go_enter Try.func45, Try.ntmps45
    go_wp2_with fail
    rw [EG.out, Oper.upon_enter]
    refine HC.out.mono ?_
    rintro e w' ⟨⟨u, rfl⟩, hr⟩
    have HRR := Lib.hid hr
    clear hr
    go_wp2
    go_ret
    exact ⟨rfl, HRR.out⟩
  case true =>
    by_cases h0 : d.left = 0
    · rw [PD.tick_no ha h0] at ht; simp at ht
    · have HR := Lib.hid (PD.tick_armed ha h0)
      rw [HR.out] at hok hw
      have hz := l3 ha
      have hd0 : (d.left == 0) = false := by simpa using h0
      have hv : Upd (· = b) w ((w.setCell ⟨b, 4, none⟩ (.int .i64 (d.left - 1))).setCell ⟨b, 6, none⟩ (.int .i64 ((d.ops + 1 : Nat) : Int))) := ((Upd.refl (· = b) w).setCell ⟨b, 4, none⟩ _ (fun _ => rfl)).setCell ⟨b, 6, none⟩ _ (fun _ => rfl)
      have HC := Lib.hid (hw _ (show Dk ((w.setCell ⟨b, 4, none⟩ (.int .i64 (d.left - 1))).setCell ⟨b, 6, none⟩ (.int .i64 ((d.ops + 1 : Nat) : Int))) S b vs vp { d with left := d.left - 1, ops := d.ops + 1 } from
        ⟨(h.hd.left (d.left - 1)).ops (d.ops + 1), hv.own h.safe fun g hg => (h.ss g hg).2, hv.own h.pend fun g hg => (h.sp g hg).2.1, fun x hx => Nat.lt_of_lt_of_le (h.lt x hx) hv.size, h.sb, h.ss, h.sp, hok⟩) (hv.mono fun x _ e => (by rw [e]; exact h.sb : S x)) (by rw [World.size_setCell, World.size_setCell]))
      have h1 : 1 ≤ d.left := by omega
      rw [ha] at c3
      clear h ht ha hok hv hw eg l3 h0
      go_enter Try.func45, Try.ntmps45
      go_wp2_with fail
      rw [EG.out, Oper.upon_enter]
      refine HC.out.mono ?_
      rintro e w' ⟨⟨u, rfl⟩, hr⟩
      have HRR := Lib.hid hr
      clear hr
      go_wp2
      go_ret
      exact ⟨rfl, HRR.out⟩

end Go.Proofs.Ythjlmkmijehnjaa
