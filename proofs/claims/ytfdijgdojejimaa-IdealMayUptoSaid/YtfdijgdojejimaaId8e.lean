/- Layer 27: heliographref27.May: behind the loop. No condition beyond sizes. (Printed by genrmay.py.) -/
import Derived.Test.YtfdijgdojejimaaIdQ
namespace Go.Proofs.Ytfdijgdojejimaa
open Go.RowKit Go.Shelf K L
set_option linter.unusedVariables false
set_option linter.unusedSimpArgs false

set_option maxRecDepth 100000 in
set_option maxHeartbeats 16000000 in
theorem st_after (A : Option Addr) (c : Nat) (w : World) (es : List (FA w)) (hle : es.length ≤ 1048576) (f : Fact) (vf : Value) (hk : f.kind = 1 ∨ f.kind = 2 ∨ f.kind = 4 ∨ f.kind = 6 ∨ f.kind = 7 ∨ f.kind = 8 ∨ f.kind = 9 ∨ f.kind = 10) (hS : Sl w (· < w.heap.size) 7 (.slice A es.length c) es.length (fcells es)) (hn : f.number < 4294967296) (hg : ∀ x ∈ facts es, x.number < 4294967296)
    (wr : World) (hb : Below w.heap.size w wr) (HF : Hid (FB wr w.heap.size f vf)) (a : Act) (hr : RelA es.length c w.heap.size A (gR f (facts es)) (tR f (facts es)) (sR f (facts es)) (lR f (facts es)) a) :
    (cR (cR (cR (cR (cR (cR ((Try.f12.body.getD .skip)))))))).wp Try.prog (bodyPost Try.prog Try.f12 fun e w' => e = .returned (.bool (may (facts es) f)) ∧ Below w.heap.size w w') a wr := by
  have HS := Lib.hid hS
  have HG := Lib.hid hg
  have HKK := Lib.hid hk
  clear hS hg hk
  obtain ⟨hd, hs, h0, h3, h5, h6, h7, h8⟩ := hr
  have ha := frame_all a hd hs
  obtain ⟨g, hg⟩ : ∃ g : Nat → Value, (fun n => a.tmps[n]?.getD undef) = g := ⟨_, rfl⟩
  have g0 : g 0 = .slice A es.length c := by rw [← hg]; simp only [h0, Option.getD_some]
  have g3 : g 3 = .pointer (some ⟨w.heap.size, 0, none⟩) := by rw [← hg]; simp only [h3, Option.getD_some]
  have g5 : g 5 = .bool (gR f (facts es)) := by rw [← hg]; simp only [h5, Option.getD_some]
  have g6 : g 6 = .bool (tR f (facts es)) := by rw [← hg]; simp only [h6, Option.getD_some]
  have g7 : g 7 = .bool (sR f (facts es)) := by rw [← hg]; simp only [h7, Option.getD_some]
  have g8 : g 8 = .int .u32 (lR f (facts es) : Nat) := by rw [← hg]; simp only [h8, Option.getD_some]
  rw [hg, frame_lit, g0, g3, g5, g6, g7, g8] at ha
  subst ha
  clear hd hs hg h0 h3 h5 h6 h7 h8 g0 g3 g5 g6 g7 g8
  simp only [Try.f12, cL, cR, cB, Option.getD_some]
  have hF := HF.out
  obtain ⟨z0, z1, z2, z3, z4, z5, z6⟩ := hF.cells
  have HBB := Lib.hid hb
  have HCR := Lib.hid (fun n => crash_any w (.slice A es.length c) es hle n wr _ (Sl.below HS.out (by decide) hb))
  clear hF hb
  have hgl := great_lt (facts es) 9 f.forth HG.out
  rcases HKK.out with hk | hk | hk | hk | hk | hk | hk | hk
  · have hm : may (facts es) f = (decide (f.number = 0) || decide (lR f (facts es) < f.number)) := by rw [l_1 f (facts es) hk]; exact may_eq1 (facts es) f hk
    clear hgl
    have d1 : (f.kind == 1) = true := by rw [beq_iff_eq]; omega
    have d2 : (f.kind == 2) = false := by rw [beq_eq_false_iff_ne]; omega
    have d4 : (f.kind == 4) = false := by rw [beq_eq_false_iff_ne]; omega
    have d6 : (f.kind == 6) = false := by rw [beq_eq_false_iff_ne]; omega
    have d7 : (f.kind == 7) = false := by rw [beq_eq_false_iff_ne]; omega
    have d8 : (f.kind == 8) = false := by rw [beq_eq_false_iff_ne]; omega
    have d9 : (f.kind == 9) = false := by rw [beq_eq_false_iff_ne]; omega
    generalize gR f (facts es) = G at hm ⊢
    generalize tR f (facts es) = T at hm ⊢
    generalize sR f (facts es) = S at hm ⊢
    generalize lR f (facts es) = L at hm ⊢
    have HM := Lib.hid hm
    have HKX := Lib.hid hk
    clear hm hk
    by_cases h0 : f.number = 0
    · have hd : ((f.number : Int) == 0) = true := by simp [h0]
      have HZ := Lib.hid h0
      clear h0
      go_wp2
      go_ret
      exact ⟨ret_bool (by rw [HM.out]; simp [HZ.out]), HBB.out⟩
    · have hd : ((f.number : Int) == 0) = false := by simp; omega
      have HZ := Lib.hid h0
      clear h0
      go_wp2
      go_ret
      exact ⟨ret_bool (by rw [HM.out]; simp [HZ.out]), HBB.out⟩
  · have hm : may (facts es) f = (decide (f.number = 0) || decide (lR f (facts es) < f.number)) := by rw [l_2 f (facts es) hk]; exact may_eq2 (facts es) f hk
    clear hgl
    have d1 : (f.kind == 1) = false := by rw [beq_eq_false_iff_ne]; omega
    have d2 : (f.kind == 2) = true := by rw [beq_iff_eq]; omega
    have d4 : (f.kind == 4) = false := by rw [beq_eq_false_iff_ne]; omega
    have d6 : (f.kind == 6) = false := by rw [beq_eq_false_iff_ne]; omega
    have d7 : (f.kind == 7) = false := by rw [beq_eq_false_iff_ne]; omega
    have d8 : (f.kind == 8) = false := by rw [beq_eq_false_iff_ne]; omega
    have d9 : (f.kind == 9) = false := by rw [beq_eq_false_iff_ne]; omega
    generalize gR f (facts es) = G at hm ⊢
    generalize tR f (facts es) = T at hm ⊢
    generalize sR f (facts es) = S at hm ⊢
    generalize lR f (facts es) = L at hm ⊢
    have HM := Lib.hid hm
    have HKX := Lib.hid hk
    clear hm hk
    by_cases h0 : f.number = 0
    · have hd : ((f.number : Int) == 0) = true := by simp [h0]
      have HZ := Lib.hid h0
      clear h0
      go_wp2
      go_ret
      exact ⟨ret_bool (by rw [HM.out]; simp [HZ.out]), HBB.out⟩
    · have hd : ((f.number : Int) == 0) = false := by simp; omega
      have HZ := Lib.hid h0
      clear h0
      go_wp2
      go_ret
      exact ⟨ret_bool (by rw [HM.out]; simp [HZ.out]), HBB.out⟩
  · have hm : may (facts es) f = (decide (f.number = 0) || decide (lR f (facts es) < f.number)) := by rw [l_4 f (facts es) hk]; exact may_eq4 (facts es) f hk
    clear hgl
    have d1 : (f.kind == 1) = false := by rw [beq_eq_false_iff_ne]; omega
    have d2 : (f.kind == 2) = false := by rw [beq_eq_false_iff_ne]; omega
    have d4 : (f.kind == 4) = true := by rw [beq_iff_eq]; omega
    have d6 : (f.kind == 6) = false := by rw [beq_eq_false_iff_ne]; omega
    have d7 : (f.kind == 7) = false := by rw [beq_eq_false_iff_ne]; omega
    have d8 : (f.kind == 8) = false := by rw [beq_eq_false_iff_ne]; omega
    have d9 : (f.kind == 9) = false := by rw [beq_eq_false_iff_ne]; omega
    generalize gR f (facts es) = G at hm ⊢
    generalize tR f (facts es) = T at hm ⊢
    generalize sR f (facts es) = S at hm ⊢
    generalize lR f (facts es) = L at hm ⊢
    have HM := Lib.hid hm
    have HKX := Lib.hid hk
    clear hm hk
    by_cases h0 : f.number = 0
    · have hd : ((f.number : Int) == 0) = true := by simp [h0]
      have HZ := Lib.hid h0
      clear h0
      go_wp2
      go_ret
      exact ⟨ret_bool (by rw [HM.out]; simp [HZ.out]), HBB.out⟩
    · have hd : ((f.number : Int) == 0) = false := by simp; omega
      have HZ := Lib.hid h0
      clear h0
      go_wp2
      go_ret
      exact ⟨ret_bool (by rw [HM.out]; simp [HZ.out]), HBB.out⟩
  · have hm : may (facts es) f = (gR f (facts es) && !tR f (facts es)) := by rw [g_6 f (facts es) hk, t_6 f (facts es) hk]; exact may_eq6 (facts es) f hk
    clear hgl
    have d1 : (f.kind == 1) = false := by rw [beq_eq_false_iff_ne]; omega
    have d2 : (f.kind == 2) = false := by rw [beq_eq_false_iff_ne]; omega
    have d4 : (f.kind == 4) = false := by rw [beq_eq_false_iff_ne]; omega
    have d6 : (f.kind == 6) = true := by rw [beq_iff_eq]; omega
    have d7 : (f.kind == 7) = false := by rw [beq_eq_false_iff_ne]; omega
    have d8 : (f.kind == 8) = false := by rw [beq_eq_false_iff_ne]; omega
    have d9 : (f.kind == 9) = false := by rw [beq_eq_false_iff_ne]; omega
    generalize gR f (facts es) = G at hm ⊢
    generalize tR f (facts es) = T at hm ⊢
    generalize sR f (facts es) = S at hm ⊢
    generalize lR f (facts es) = L at hm ⊢
    have HM := Lib.hid hm
    have HKX := Lib.hid hk
    clear hm hk
    cases G
    · go_wp2
      go_ret
      exact ⟨ret_bool (by rw [HM.out]; simp), HBB.out⟩
    · cases T
      · go_wp2
        go_ret
        exact ⟨ret_bool (by rw [HM.out]; simp), HBB.out⟩
      · go_wp2
        go_ret
        exact ⟨ret_bool (by rw [HM.out]; simp), HBB.out⟩
  · have hm : may (facts es) f = (gR f (facts es) && !tR f (facts es) && (decide (f.code ≠ 0) || (crashed (facts es) f.frm || sR f (facts es)))) := by rw [g_7 f (facts es) hk, t_7 f (facts es) hk, s_7 f (facts es) hk]; exact may_eq7 (facts es) f hk
    clear hgl
    have d1 : (f.kind == 1) = false := by rw [beq_eq_false_iff_ne]; omega
    have d2 : (f.kind == 2) = false := by rw [beq_eq_false_iff_ne]; omega
    have d4 : (f.kind == 4) = false := by rw [beq_eq_false_iff_ne]; omega
    have d6 : (f.kind == 6) = false := by rw [beq_eq_false_iff_ne]; omega
    have d7 : (f.kind == 7) = true := by rw [beq_iff_eq]; omega
    have d8 : (f.kind == 8) = false := by rw [beq_eq_false_iff_ne]; omega
    have d9 : (f.kind == 9) = false := by rw [beq_eq_false_iff_ne]; omega
    generalize gR f (facts es) = G at hm ⊢
    generalize tR f (facts es) = T at hm ⊢
    generalize sR f (facts es) = S at hm ⊢
    generalize lR f (facts es) = L at hm ⊢
    have HM := Lib.hid hm
    have HKX := Lib.hid hk
    clear hm hk
    cases G
    · go_wp2
      go_ret
      exact ⟨ret_bool (by rw [HM.out]; simp), HBB.out⟩
    · cases T
      · by_cases hc : f.code = 0
        · have hd : (f.code != 0) = false := by simp [hc]
          have HZ := Lib.hid hc
          clear hc
          cases S
          · go_wp2_with fail
            refine (HCR.out _).mono ?_
            rintro e wz ⟨rfl, hbz⟩
            have hbf := below_tr HBB.out hbz
            cases hcr : crashed (facts es) f.frm
            · go_wp2
              go_ret
              exact ⟨ret_bool (by rw [HM.out, hcr]; simp [HZ.out]), hbf⟩
            · go_wp2
              go_ret
              exact ⟨ret_bool (by rw [HM.out, hcr]; simp [HZ.out]), hbf⟩
          · go_wp2
            go_ret
            exact ⟨ret_bool (by rw [HM.out]; simp [HZ.out]), HBB.out⟩
        · have hd : (f.code != 0) = true := by simp [hc]
          have HZ := Lib.hid hc
          clear hc
          go_wp2
          go_ret
          exact ⟨ret_bool (by rw [HM.out]; simp [HZ.out]), HBB.out⟩
      · go_wp2
        go_ret
        exact ⟨ret_bool (by rw [HM.out]; simp), HBB.out⟩
  · have hm : may (facts es) f = (decide (0 < f.number) && gR f (facts es) && sR f (facts es) && !tR f (facts es)) := by rw [g_8 f (facts es) hk, s_8 f (facts es) hk, t_8 f (facts es) hk]; exact may_eq8 (facts es) f hk
    clear hgl
    have d1 : (f.kind == 1) = false := by rw [beq_eq_false_iff_ne]; omega
    have d2 : (f.kind == 2) = false := by rw [beq_eq_false_iff_ne]; omega
    have d4 : (f.kind == 4) = false := by rw [beq_eq_false_iff_ne]; omega
    have d6 : (f.kind == 6) = false := by rw [beq_eq_false_iff_ne]; omega
    have d7 : (f.kind == 7) = false := by rw [beq_eq_false_iff_ne]; omega
    have d8 : (f.kind == 8) = true := by rw [beq_iff_eq]; omega
    have d9 : (f.kind == 9) = false := by rw [beq_eq_false_iff_ne]; omega
    generalize gR f (facts es) = G at hm ⊢
    generalize tR f (facts es) = T at hm ⊢
    generalize sR f (facts es) = S at hm ⊢
    generalize lR f (facts es) = L at hm ⊢
    have HM := Lib.hid hm
    have HKX := Lib.hid hk
    clear hm hk
    by_cases h0 : 0 < f.number
    · have hd : decide ((0 : Int) < (f.number : Int)) = true := by rw [decide_eq_true_eq]; omega
      have HZ := Lib.hid h0
      clear h0
      cases G
      · go_wp2
        go_ret
        exact ⟨ret_bool (by rw [HM.out]; simp [HZ.out]), HBB.out⟩
      · cases S
        · go_wp2
          go_ret
          exact ⟨ret_bool (by rw [HM.out]; simp [HZ.out]), HBB.out⟩
        · cases T
          · go_wp2
            go_ret
            exact ⟨ret_bool (by rw [HM.out]; simp [HZ.out]), HBB.out⟩
          · go_wp2
            go_ret
            exact ⟨ret_bool (by rw [HM.out]; simp [HZ.out]), HBB.out⟩
    · have hd : decide ((0 : Int) < (f.number : Int)) = false := by rw [decide_eq_false_iff_not]; omega
      have HZ := Lib.hid h0
      clear h0
      go_wp2
      go_ret
      exact ⟨ret_bool (by rw [HM.out]; simp [show ¬ 0 < f.number from HZ.out]), HBB.out⟩
  · have hm : may (facts es) f = (decide (lR f (facts es) < f.number) && (decide (f.number - lR f (facts es) = 1) || crashed (facts es) f.node) && gR f (facts es)) := by rw [l_9 f (facts es) hk, g_9 f (facts es) hk]; exact may_eq9 (facts es) f hk
    rw [← l_9 f (facts es) hk] at hgl
    have d1 : (f.kind == 1) = false := by rw [beq_eq_false_iff_ne]; omega
    have d2 : (f.kind == 2) = false := by rw [beq_eq_false_iff_ne]; omega
    have d4 : (f.kind == 4) = false := by rw [beq_eq_false_iff_ne]; omega
    have d6 : (f.kind == 6) = false := by rw [beq_eq_false_iff_ne]; omega
    have d7 : (f.kind == 7) = false := by rw [beq_eq_false_iff_ne]; omega
    have d8 : (f.kind == 8) = false := by rw [beq_eq_false_iff_ne]; omega
    have d9 : (f.kind == 9) = true := by rw [beq_iff_eq]; omega
    generalize gR f (facts es) = G at hm ⊢
    generalize tR f (facts es) = T at hm ⊢
    generalize sR f (facts es) = S at hm ⊢
    generalize lR f (facts es) = L at hm ⊢ hgl
    have HM := Lib.hid hm
    have HKX := Lib.hid hk
    clear hm hk
    cases G
    · go_wp2
      go_ret
      exact ⟨ret_bool (by rw [HM.out]; simp), HBB.out⟩
    · by_cases h1 : L < f.number
      · have hd1 : decide ((L : Int) < (f.number : Int)) = true := by rw [decide_eq_true_eq]; omega
        have H1 := Lib.hid h1
        have hwr : IntKind.u32.wrap ((L : Int) + 1) = (L : Int) + 1 := by rw [IntKind.wrap_u32]; omega
        by_cases h2 : f.number = L + 1
        · have hd2 : ((f.number : Int) == (L : Int) + 1) = true := by simp; omega
          have H2 := Lib.hid h2
          clear h1 h2
          go_wp2
          go_ret
          exact ⟨ret_bool (by rw [HM.out, decide_eq_true H1.out, decide_eq_true (show f.number - L = 1 by have := H2.out; omega)]; simp), HBB.out⟩
        · have hd2 : ((f.number : Int) == (L : Int) + 1) = false := by simp; omega
          have H2 := Lib.hid h2
          clear h1 h2
          go_wp2_with fail
          refine (HCR.out _).mono ?_
          rintro e wz ⟨rfl, hbz⟩
          have hbf := below_tr HBB.out hbz
          go_wp2
          go_ret
          exact ⟨ret_bool (by rw [HM.out, decide_eq_true H1.out, decide_eq_false (show ¬ f.number - L = 1 by have := H2.out; have := H1.out; omega)]; simp), hbf⟩
      · have hd1 : decide ((L : Int) < (f.number : Int)) = false := by rw [decide_eq_false_iff_not]; omega
        have H1 := Lib.hid h1
        clear h1
        go_wp2
        go_ret
        exact ⟨ret_bool (by rw [HM.out, decide_eq_false H1.out]; simp), HBB.out⟩
  · have hm : may (facts es) f = (gR f (facts es) && !tR f (facts es) && (crashed (facts es) f.frm || sR f (facts es))) := by rw [g_10 f (facts es) hk, t_10 f (facts es) hk, s_10 f (facts es) hk]; exact may_eq10 (facts es) f hk
    clear hgl
    have d1 : (f.kind == 1) = false := by rw [beq_eq_false_iff_ne]; omega
    have d2 : (f.kind == 2) = false := by rw [beq_eq_false_iff_ne]; omega
    have d4 : (f.kind == 4) = false := by rw [beq_eq_false_iff_ne]; omega
    have d6 : (f.kind == 6) = false := by rw [beq_eq_false_iff_ne]; omega
    have d7 : (f.kind == 7) = false := by rw [beq_eq_false_iff_ne]; omega
    have d8 : (f.kind == 8) = false := by rw [beq_eq_false_iff_ne]; omega
    have d9 : (f.kind == 9) = false := by rw [beq_eq_false_iff_ne]; omega
    generalize gR f (facts es) = G at hm ⊢
    generalize tR f (facts es) = T at hm ⊢
    generalize sR f (facts es) = S at hm ⊢
    generalize lR f (facts es) = L at hm ⊢
    have HM := Lib.hid hm
    have HKX := Lib.hid hk
    clear hm hk
    cases G
    · go_wp2
      go_ret
      exact ⟨ret_bool (by rw [HM.out]; simp), HBB.out⟩
    · cases T
      · cases S
        · go_wp2_with fail
          refine (HCR.out _).mono ?_
          rintro e wz ⟨rfl, hbz⟩
          have hbf := below_tr HBB.out hbz
          cases hcr : crashed (facts es) f.frm
          · go_wp2
            go_ret
            exact ⟨ret_bool (by rw [HM.out, hcr]; simp), hbf⟩
          · go_wp2
            go_ret
            exact ⟨ret_bool (by rw [HM.out, hcr]; simp), hbf⟩
        · go_wp2
          go_ret
          exact ⟨ret_bool (by rw [HM.out]; simp), HBB.out⟩
      · go_wp2
        go_ret
        exact ⟨ret_bool (by rw [HM.out]; simp), HBB.out⟩

end Go.Proofs.Ytfdijgdojejimaa
