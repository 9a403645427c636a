/- Layer 27: heliographref27.May: the numbers of a kind. No condition beyond sizes. (Printed by genrmay.py.) -/
import Derived.Test.YtfdijgdojejimaaIdQ
namespace Go.Proofs.Ytfdijgdojejimaa
open Go.RowKit Go.Shelf K L
set_option linter.unusedVariables false
set_option linter.unusedSimpArgs false

set_option maxRecDepth 100000 in
set_option maxHeartbeats 16000000 in
theorem st_14 {Q : Exit → Act → World → Prop} {KK : Act → World → Prop} (wb : World) (n b o c N m q : Nat) (f x : Fact) (vf vx : Value) (G T S : Bool) (L : Nat) (a : Act) (hF : FB wb N f vf) (hX : FB wb q x vx) (hr : RelM n b o c N m q f x G T S L a) (hc : ∀ a, RelM n b o c N m q f x G (stepT f T x) S (stepL f L x) a → KK a wb) :
    (cL (cR (cR (cR (cR (cB (cL (cR (cB (cB (cR (cL (cR (cR (cR (cR (cR ((Try.f12.body.getD .skip))))))))))))))))))).wp Try.prog (Exit.then KK Q) a wb := by
  obtain ⟨T1, hT1⟩ : ∃ v, v = stepT f T x := ⟨_, rfl⟩
  obtain ⟨L1, hL1⟩ : ∃ v, v = stepL f L x := ⟨_, rfl⟩
  rw [← hT1, ← hL1] at hc
  have HT1 := Lib.hid hT1
  have HL1 := Lib.hid hL1
  clear hT1 hL1
  have HC := Lib.hid hc
  clear hc
  obtain ⟨hd, hs, h0, h3, h9, h5, h6, h7, h8, h10, h11, h12, h13⟩ := hr
  have ha := frame_all a hd hs
  obtain ⟨g, hg⟩ : ∃ g : Nat → Value, (fun n => a.tmps[n]?.getD undef) = g := ⟨_, rfl⟩
  have g0 : g 0 = .slice (some ⟨b, o, none⟩) n c := by rw [← hg]; simp only [h0, Option.getD_some]
  have g3 : g 3 = .pointer (some ⟨N, 0, none⟩) := by rw [← hg]; simp only [h3, Option.getD_some]
  have g9 : g 9 = .int .i64 m := by rw [← hg]; simp only [h9, Option.getD_some]
  have g5 : g 5 = .bool G := by rw [← hg]; simp only [h5, Option.getD_some]
  have g6 : g 6 = .bool T := by rw [← hg]; simp only [h6, Option.getD_some]
  have g7 : g 7 = .bool S := by rw [← hg]; simp only [h7, Option.getD_some]
  have g8 : g 8 = .int .u32 (L : Nat) := by rw [← hg]; simp only [h8, Option.getD_some]
  have g10 : g 10 = .pointer (some ⟨q, 0, none⟩) := by rw [← hg]; simp only [h10, Option.getD_some]
  have g11 : g 11 = .bool (f.forth x) := by rw [← hg]; simp only [h11, Option.getD_some]
  have g12 : g 12 = .bool (f.back x) := by rw [← hg]; simp only [h12, Option.getD_some]
  have g13 : g 13 = .bool (f.like x) := by rw [← hg]; simp only [h13, Option.getD_some]
  rw [hg, frame_lit, g0, g3, g9, g5, g6, g7, g8, g10, g11, g12, g13] at ha
  subst ha
  clear hd hs hg h0 h3 h9 h5 h6 h7 h8 h10 h11 h12 h13 g0 g3 g9 g5 g6 g7 g8 g10 g11 g12 g13
  obtain ⟨y0, y1, y2, y3, y4, y5, y6⟩ := hX.cells
  obtain ⟨z0, z1, z2, z3, z4, z5, z6⟩ := hF.cells
  clear hX hF
  simp only [Try.f12, cL, cR, cB, Option.getD_some]
  by_cases kk : x.kind = f.kind
  · have hkk : (x.kind == f.kind) = true := by simp [kk]
    have HKX := Lib.hid kk
    clear kk
    obtain ⟨T2, hT2⟩ : ∃ v, v = (T || (c16 f x && (f.kind == 8 && decide ((f.number : Int) ≤ x.number)))) := ⟨_, rfl⟩
    have HT2 := Lib.hid hT2
    clear hT2
    have hl16 : c16 f x = false → L = L1 := by intro h; rw [HL1.out]; unfold stepL; rw [if_pos HKX.out, h]; rfl
    have hl17 : c16 f x = true → L1 = max L x.number := by intro h; rw [HL1.out]; unfold stepL; rw [if_pos HKX.out, h]; rfl
    have ht1 : T1 = (T2 || c21 f x) := by rw [HT1.out]; unfold stepT; rw [if_pos HKX.out, HT2.out]
    have HL16 := Lib.hid hl16
    have HL17 := Lib.hid hl17
    have HTT := Lib.hid ht1
    clear hl16 hl17 ht1
    go_upto_region 16 with fail
    rename_i K16 hK16 K17 hK17
    have hcut : ∀ a wx, RelM n b o c N m q f x G T2 S L1 a ∧ wx = wb → K16 a wx := by
      rintro a wx ⟨hr, hwx⟩
      obtain ⟨hd, hs, h0, h3, h9, h5, h6, h7, h8, h10, h11, h12, h13⟩ := hr
      have ha := frame_all a hd hs
      obtain ⟨g, hg⟩ : ∃ g : Nat → Value, (fun n => a.tmps[n]?.getD undef) = g := ⟨_, rfl⟩
      have g0 : g 0 = .slice (some ⟨b, o, none⟩) n c := by rw [← hg]; simp only [h0, Option.getD_some]
      have g3 : g 3 = .pointer (some ⟨N, 0, none⟩) := by rw [← hg]; simp only [h3, Option.getD_some]
      have g9 : g 9 = .int .i64 m := by rw [← hg]; simp only [h9, Option.getD_some]
      have g5 : g 5 = .bool G := by rw [← hg]; simp only [h5, Option.getD_some]
      have g6 : g 6 = .bool T2 := by rw [← hg]; simp only [h6, Option.getD_some]
      have g7 : g 7 = .bool S := by rw [← hg]; simp only [h7, Option.getD_some]
      have g8 : g 8 = .int .u32 (L1 : Nat) := by rw [← hg]; simp only [h8, Option.getD_some]
      have g10 : g 10 = .pointer (some ⟨q, 0, none⟩) := by rw [← hg]; simp only [h10, Option.getD_some]
      have g11 : g 11 = .bool (f.forth x) := by rw [← hg]; simp only [h11, Option.getD_some]
      have g12 : g 12 = .bool (f.back x) := by rw [← hg]; simp only [h12, Option.getD_some]
      have g13 : g 13 = .bool (f.like x) := by rw [← hg]; simp only [h13, Option.getD_some]
      rw [hg, frame_lit, g0, g3, g9, g5, g6, g7, g8, g10, g11, g12, g13] at ha
      subst ha
      clear hd hs hg h0 h3 h9 h5 h6 h7 h8 h10 h11 h12 h13 g0 g3 g9 g5 g6 g7 g8 g10 g11 g12 g13
      replace hwx := hwx.symm
      subst hwx
      apply hK16
      clear hK16 hK17
      cases a6 : (f.kind == 6)
      · cases a10 : (f.kind == 10)
        · cases a7 : (f.kind == 7)
          · go_wp2
            exact HC.out _ ⟨rfl, rfl, rfl, rfl, rfl, rfl, congrArg (fun b => some (Value.bool b)) (show T2 = _ from by rw [HTT.out]; unfold c21; simp only [a6, a10, a7, Bool.true_and, Bool.and_true, Bool.false_and, Bool.and_false, Bool.or_false, Bool.false_or, Bool.or_true, Bool.true_or]), rfl, rfl, rfl, rfl, rfl, rfl⟩
          · cases p1 : (x.node == f.node)
            · go_wp2
              exact HC.out _ ⟨rfl, rfl, rfl, rfl, rfl, rfl, congrArg (fun b => some (Value.bool b)) (show T2 = _ from by rw [HTT.out]; unfold c21; simp only [a6, a10, a7, p1, Bool.true_and, Bool.and_true, Bool.false_and, Bool.and_false, Bool.or_false, Bool.false_or, Bool.or_true, Bool.true_or]), rfl, rfl, rfl, rfl, rfl, rfl⟩
            · cases p2 : ((x.number : Int) == (f.number : Int))
              · go_wp2
                exact HC.out _ ⟨rfl, rfl, rfl, rfl, rfl, rfl, congrArg (fun b => some (Value.bool b)) (show T2 = _ from by rw [HTT.out]; unfold c21; simp only [a6, a10, a7, p1, p2, Bool.true_and, Bool.and_true, Bool.false_and, Bool.and_false, Bool.or_false, Bool.false_or, Bool.or_true, Bool.true_or]), rfl, rfl, rfl, rfl, rfl, rfl⟩
              · go_wp2
                exact HC.out _ ⟨rfl, rfl, rfl, rfl, rfl, rfl, congrArg (fun b => some (Value.bool b)) (show true = _ from by rw [HTT.out]; unfold c21; simp only [a6, a10, a7, p1, p2, Bool.true_and, Bool.and_true, Bool.false_and, Bool.and_false, Bool.or_false, Bool.false_or, Bool.or_true, Bool.true_or]), rfl, rfl, rfl, rfl, rfl, rfl⟩
        · cases p1 : (f.forth x)
          · have z7 : (f.kind == 7) = false := by rw [beq_iff_eq] at a10; rw [beq_eq_false_iff_ne]; omega
            go_wp2
            exact HC.out _ ⟨rfl, rfl, rfl, rfl, rfl, rfl, congrArg (fun b => some (Value.bool b)) (show T2 = _ from by rw [HTT.out]; unfold c21; simp only [a6, a10, z7, p1, Bool.true_and, Bool.and_true, Bool.false_and, Bool.and_false, Bool.or_false, Bool.false_or, Bool.or_true, Bool.true_or]), rfl, rfl, rfl, congrArg (fun b => some (Value.bool b)) p1.symm, rfl, rfl⟩
          · cases p2 : ((x.number : Int) == (f.number : Int))
            · have z7 : (f.kind == 7) = false := by rw [beq_iff_eq] at a10; rw [beq_eq_false_iff_ne]; omega
              go_wp2
              exact HC.out _ ⟨rfl, rfl, rfl, rfl, rfl, rfl, congrArg (fun b => some (Value.bool b)) (show T2 = _ from by rw [HTT.out]; unfold c21; simp only [a6, a10, z7, p1, p2, Bool.true_and, Bool.and_true, Bool.false_and, Bool.and_false, Bool.or_false, Bool.false_or, Bool.or_true, Bool.true_or]), rfl, rfl, rfl, congrArg (fun b => some (Value.bool b)) p1.symm, rfl, rfl⟩
            · have z7 : (f.kind == 7) = false := by rw [beq_iff_eq] at a10; rw [beq_eq_false_iff_ne]; omega
              go_wp2
              exact HC.out _ ⟨rfl, rfl, rfl, rfl, rfl, rfl, congrArg (fun b => some (Value.bool b)) (show true = _ from by rw [HTT.out]; unfold c21; simp only [a6, a10, z7, p1, p2, Bool.true_and, Bool.and_true, Bool.false_and, Bool.and_false, Bool.or_false, Bool.false_or, Bool.or_true, Bool.true_or]), rfl, rfl, rfl, congrArg (fun b => some (Value.bool b)) p1.symm, rfl, rfl⟩
      · cases p1 : (f.forth x)
        · have z10 : (f.kind == 10) = false := by rw [beq_iff_eq] at a6; rw [beq_eq_false_iff_ne]; omega
          have z7 : (f.kind == 7) = false := by rw [beq_iff_eq] at a6; rw [beq_eq_false_iff_ne]; omega
          go_wp2
          exact HC.out _ ⟨rfl, rfl, rfl, rfl, rfl, rfl, congrArg (fun b => some (Value.bool b)) (show T2 = _ from by rw [HTT.out]; unfold c21; simp only [a6, z10, z7, p1, Bool.true_and, Bool.and_true, Bool.false_and, Bool.and_false, Bool.or_false, Bool.false_or, Bool.or_true, Bool.true_or]), rfl, rfl, rfl, congrArg (fun b => some (Value.bool b)) p1.symm, rfl, rfl⟩
        · cases p2 : ((x.number : Int) == (f.number : Int))
          · have z10 : (f.kind == 10) = false := by rw [beq_iff_eq] at a6; rw [beq_eq_false_iff_ne]; omega
            have z7 : (f.kind == 7) = false := by rw [beq_iff_eq] at a6; rw [beq_eq_false_iff_ne]; omega
            go_wp2
            exact HC.out _ ⟨rfl, rfl, rfl, rfl, rfl, rfl, congrArg (fun b => some (Value.bool b)) (show T2 = _ from by rw [HTT.out]; unfold c21; simp only [a6, z10, z7, p1, p2, Bool.true_and, Bool.and_true, Bool.false_and, Bool.and_false, Bool.or_false, Bool.false_or, Bool.or_true, Bool.true_or]), rfl, rfl, rfl, congrArg (fun b => some (Value.bool b)) p1.symm, rfl, rfl⟩
          · have z10 : (f.kind == 10) = false := by rw [beq_iff_eq] at a6; rw [beq_eq_false_iff_ne]; omega
            have z7 : (f.kind == 7) = false := by rw [beq_iff_eq] at a6; rw [beq_eq_false_iff_ne]; omega
            go_wp2
            exact HC.out _ ⟨rfl, rfl, rfl, rfl, rfl, rfl, congrArg (fun b => some (Value.bool b)) (show true = _ from by rw [HTT.out]; unfold c21; simp only [a6, z10, z7, p1, p2, Bool.true_and, Bool.and_true, Bool.false_and, Bool.and_false, Bool.or_false, Bool.false_or, Bool.or_true, Bool.true_or]), rfl, rfl, rfl, congrArg (fun b => some (Value.bool b)) p1.symm, rfl, rfl⟩
    clear hK16
    have HC16 := Lib.hid hcut
    clear hcut
    cases a1 : (f.kind == 1)
    · cases a2 : (f.kind == 2)
      · cases a4 : (f.kind == 4)
        · cases a9 : (f.kind == 9)
          · cases a8 : (f.kind == 8)
            · have hc : c16 f x = false := by unfold c16; simp only [a1, a2, a4, a9, a8, Bool.true_and, Bool.and_true, Bool.false_and, Bool.and_false, Bool.or_false, Bool.false_or, Bool.or_true, Bool.true_or]
              have HCF := Lib.hid hc
              clear hc
              go_wp2
              exact HC16.out _ _ ⟨⟨rfl, rfl, rfl, rfl, rfl, rfl, congrArg (fun b => some (Value.bool b)) (show T = T2 from by rw [HT2.out, HCF.out]; simp only [Bool.true_and, Bool.and_true, Bool.false_and, Bool.and_false, Bool.or_false, Bool.false_or, Bool.or_true, Bool.true_or]), rfl, congrArg (fun n : Nat => some (Value.int .u32 (n : Int))) (HL16.out HCF.out), rfl, rfl, rfl, rfl⟩, rfl⟩
            · cases p1 : (f.forth x)
              · have hc : c16 f x = false := by unfold c16; simp only [a1, a2, a4, a9, a8, p1, Bool.true_and, Bool.and_true, Bool.false_and, Bool.and_false, Bool.or_false, Bool.false_or, Bool.or_true, Bool.true_or]
                have HCF := Lib.hid hc
                clear hc
                go_wp2
                exact HC16.out _ _ ⟨⟨rfl, rfl, rfl, rfl, rfl, rfl, congrArg (fun b => some (Value.bool b)) (show T = T2 from by rw [HT2.out, HCF.out]; simp only [Bool.true_and, Bool.and_true, Bool.false_and, Bool.and_false, Bool.or_false, Bool.false_or, Bool.or_true, Bool.true_or]), rfl, congrArg (fun n : Nat => some (Value.int .u32 (n : Int))) (HL16.out HCF.out), rfl, congrArg (fun b => some (Value.bool b)) p1.symm, rfl, rfl⟩, rfl⟩
              · cases p2 : (x.name == f.name)
                · have hc : c16 f x = false := by unfold c16; simp only [a1, a2, a4, a9, a8, p1, p2, Bool.true_and, Bool.and_true, Bool.false_and, Bool.and_false, Bool.or_false, Bool.false_or, Bool.or_true, Bool.true_or]
                  have HCF := Lib.hid hc
                  clear hc
                  go_wp2
                  exact HC16.out _ _ ⟨⟨rfl, rfl, rfl, rfl, rfl, rfl, congrArg (fun b => some (Value.bool b)) (show T = T2 from by rw [HT2.out, HCF.out]; simp only [Bool.true_and, Bool.and_true, Bool.false_and, Bool.and_false, Bool.or_false, Bool.false_or, Bool.or_true, Bool.true_or]), rfl, congrArg (fun n : Nat => some (Value.int .u32 (n : Int))) (HL16.out HCF.out), rfl, congrArg (fun b => some (Value.bool b)) p1.symm, rfl, rfl⟩, rfl⟩
                · have hc : c16 f x = true := by unfold c16; simp only [a1, a2, a4, a9, a8, p1, p2, Bool.true_and, Bool.and_true, Bool.false_and, Bool.and_false, Bool.or_false, Bool.false_or, Bool.or_true, Bool.true_or]
                  have HCT := Lib.hid hc
                  clear hc
                  have HLL := Lib.hid (HL17.out HCT.out)
                  by_cases hl : L < x.number
                  · by_cases hn8 : f.number ≤ x.number
                    · have hd : decide ((L : Int) < (x.number : Int)) = true := by rw [decide_eq_true_eq]; omega
                      have HLX := Lib.hid hl
                      clear hl
                      have hd2 : decide ((f.number : Int) ≤ (x.number : Int)) = true := by rw [decide_eq_true_eq]; omega
                      have HNX := Lib.hid hn8
                      clear hn8
                      go_wp2
                      exact HC16.out _ _ ⟨⟨rfl, rfl, rfl, rfl, rfl, rfl, congrArg (fun b => some (Value.bool b)) (show true = T2 from by rw [HT2.out, HCT.out]; simp only [a8, hd2, Bool.true_and, Bool.and_true, Bool.false_and, Bool.and_false, Bool.or_false, Bool.false_or, Bool.or_true, Bool.true_or]), rfl, congrArg (fun n : Nat => some (Value.int .u32 (n : Int))) (show x.number = L1 from by have := HLL.out; have := HLX.out; omega), rfl, congrArg (fun b => some (Value.bool b)) p1.symm, rfl, rfl⟩, rfl⟩
                    · have hd : decide ((L : Int) < (x.number : Int)) = true := by rw [decide_eq_true_eq]; omega
                      have HLX := Lib.hid hl
                      clear hl
                      have hd2 : decide ((f.number : Int) ≤ (x.number : Int)) = false := by rw [decide_eq_false_iff_not]; omega
                      have HNX := Lib.hid hn8
                      clear hn8
                      go_wp2
                      exact HC16.out _ _ ⟨⟨rfl, rfl, rfl, rfl, rfl, rfl, congrArg (fun b => some (Value.bool b)) (show T = T2 from by rw [HT2.out, HCT.out]; simp only [a8, hd2, Bool.true_and, Bool.and_true, Bool.false_and, Bool.and_false, Bool.or_false, Bool.false_or, Bool.or_true, Bool.true_or]), rfl, congrArg (fun n : Nat => some (Value.int .u32 (n : Int))) (show x.number = L1 from by have := HLL.out; have := HLX.out; omega), rfl, congrArg (fun b => some (Value.bool b)) p1.symm, rfl, rfl⟩, rfl⟩
                  · by_cases hn8 : f.number ≤ x.number
                    · have hd : decide ((L : Int) < (x.number : Int)) = false := by rw [decide_eq_false_iff_not]; omega
                      have HLX := Lib.hid hl
                      clear hl
                      have hd2 : decide ((f.number : Int) ≤ (x.number : Int)) = true := by rw [decide_eq_true_eq]; omega
                      have HNX := Lib.hid hn8
                      clear hn8
                      go_wp2
                      exact HC16.out _ _ ⟨⟨rfl, rfl, rfl, rfl, rfl, rfl, congrArg (fun b => some (Value.bool b)) (show true = T2 from by rw [HT2.out, HCT.out]; simp only [a8, hd2, Bool.true_and, Bool.and_true, Bool.false_and, Bool.and_false, Bool.or_false, Bool.false_or, Bool.or_true, Bool.true_or]), rfl, congrArg (fun n : Nat => some (Value.int .u32 (n : Int))) (show L = L1 from by have := HLL.out; have := HLX.out; omega), rfl, congrArg (fun b => some (Value.bool b)) p1.symm, rfl, rfl⟩, rfl⟩
                    · have hd : decide ((L : Int) < (x.number : Int)) = false := by rw [decide_eq_false_iff_not]; omega
                      have HLX := Lib.hid hl
                      clear hl
                      have hd2 : decide ((f.number : Int) ≤ (x.number : Int)) = false := by rw [decide_eq_false_iff_not]; omega
                      have HNX := Lib.hid hn8
                      clear hn8
                      go_wp2
                      exact HC16.out _ _ ⟨⟨rfl, rfl, rfl, rfl, rfl, rfl, congrArg (fun b => some (Value.bool b)) (show T = T2 from by rw [HT2.out, HCT.out]; simp only [a8, hd2, Bool.true_and, Bool.and_true, Bool.false_and, Bool.and_false, Bool.or_false, Bool.false_or, Bool.or_true, Bool.true_or]), rfl, congrArg (fun n : Nat => some (Value.int .u32 (n : Int))) (show L = L1 from by have := HLL.out; have := HLX.out; omega), rfl, congrArg (fun b => some (Value.bool b)) p1.symm, rfl, rfl⟩, rfl⟩
          · cases p1 : (f.forth x)
            · have z8 : (f.kind == 8) = false := by rw [beq_iff_eq] at a9; rw [beq_eq_false_iff_ne]; omega
              have hc : c16 f x = false := by unfold c16; simp only [a1, a2, a4, a9, z8, p1, Bool.true_and, Bool.and_true, Bool.false_and, Bool.and_false, Bool.or_false, Bool.false_or, Bool.or_true, Bool.true_or]
              have HCF := Lib.hid hc
              clear hc
              go_wp2
              exact HC16.out _ _ ⟨⟨rfl, rfl, rfl, rfl, rfl, rfl, congrArg (fun b => some (Value.bool b)) (show T = T2 from by rw [HT2.out, HCF.out]; simp only [Bool.true_and, Bool.and_true, Bool.false_and, Bool.and_false, Bool.or_false, Bool.false_or, Bool.or_true, Bool.true_or]), rfl, congrArg (fun n : Nat => some (Value.int .u32 (n : Int))) (HL16.out HCF.out), rfl, congrArg (fun b => some (Value.bool b)) p1.symm, rfl, rfl⟩, rfl⟩
            · have z8 : (f.kind == 8) = false := by rw [beq_iff_eq] at a9; rw [beq_eq_false_iff_ne]; omega
              have hc : c16 f x = true := by unfold c16; simp only [a1, a2, a4, a9, z8, p1, Bool.true_and, Bool.and_true, Bool.false_and, Bool.and_false, Bool.or_false, Bool.false_or, Bool.or_true, Bool.true_or]
              have HCT := Lib.hid hc
              clear hc
              have HLL := Lib.hid (HL17.out HCT.out)
              by_cases hl : L < x.number
              · have hd : decide ((L : Int) < (x.number : Int)) = true := by rw [decide_eq_true_eq]; omega
                have HLX := Lib.hid hl
                clear hl
                go_wp2
                exact HC16.out _ _ ⟨⟨rfl, rfl, rfl, rfl, rfl, rfl, congrArg (fun b => some (Value.bool b)) (show T = T2 from by rw [HT2.out, HCT.out]; simp only [z8, Bool.true_and, Bool.and_true, Bool.false_and, Bool.and_false, Bool.or_false, Bool.false_or, Bool.or_true, Bool.true_or]), rfl, congrArg (fun n : Nat => some (Value.int .u32 (n : Int))) (show x.number = L1 from by have := HLL.out; have := HLX.out; omega), rfl, congrArg (fun b => some (Value.bool b)) p1.symm, rfl, rfl⟩, rfl⟩
              · have hd : decide ((L : Int) < (x.number : Int)) = false := by rw [decide_eq_false_iff_not]; omega
                have HLX := Lib.hid hl
                clear hl
                go_wp2
                exact HC16.out _ _ ⟨⟨rfl, rfl, rfl, rfl, rfl, rfl, congrArg (fun b => some (Value.bool b)) (show T = T2 from by rw [HT2.out, HCT.out]; simp only [z8, Bool.true_and, Bool.and_true, Bool.false_and, Bool.and_false, Bool.or_false, Bool.false_or, Bool.or_true, Bool.true_or]), rfl, congrArg (fun n : Nat => some (Value.int .u32 (n : Int))) (show L = L1 from by have := HLL.out; have := HLX.out; omega), rfl, congrArg (fun b => some (Value.bool b)) p1.symm, rfl, rfl⟩, rfl⟩
        · cases p1 : (f.forth x)
          · have z9 : (f.kind == 9) = false := by rw [beq_iff_eq] at a4; rw [beq_eq_false_iff_ne]; omega
            have z8 : (f.kind == 8) = false := by rw [beq_iff_eq] at a4; rw [beq_eq_false_iff_ne]; omega
            have hc : c16 f x = false := by unfold c16; simp only [a1, a2, a4, z9, z8, p1, Bool.true_and, Bool.and_true, Bool.false_and, Bool.and_false, Bool.or_false, Bool.false_or, Bool.or_true, Bool.true_or]
            have HCF := Lib.hid hc
            clear hc
            go_wp2
            exact HC16.out _ _ ⟨⟨rfl, rfl, rfl, rfl, rfl, rfl, congrArg (fun b => some (Value.bool b)) (show T = T2 from by rw [HT2.out, HCF.out]; simp only [Bool.true_and, Bool.and_true, Bool.false_and, Bool.and_false, Bool.or_false, Bool.false_or, Bool.or_true, Bool.true_or]), rfl, congrArg (fun n : Nat => some (Value.int .u32 (n : Int))) (HL16.out HCF.out), rfl, congrArg (fun b => some (Value.bool b)) p1.symm, rfl, rfl⟩, rfl⟩
          · have z9 : (f.kind == 9) = false := by rw [beq_iff_eq] at a4; rw [beq_eq_false_iff_ne]; omega
            have z8 : (f.kind == 8) = false := by rw [beq_iff_eq] at a4; rw [beq_eq_false_iff_ne]; omega
            have hc : c16 f x = true := by unfold c16; simp only [a1, a2, a4, z9, z8, p1, Bool.true_and, Bool.and_true, Bool.false_and, Bool.and_false, Bool.or_false, Bool.false_or, Bool.or_true, Bool.true_or]
            have HCT := Lib.hid hc
            clear hc
            have HLL := Lib.hid (HL17.out HCT.out)
            by_cases hl : L < x.number
            · have hd : decide ((L : Int) < (x.number : Int)) = true := by rw [decide_eq_true_eq]; omega
              have HLX := Lib.hid hl
              clear hl
              go_wp2
              exact HC16.out _ _ ⟨⟨rfl, rfl, rfl, rfl, rfl, rfl, congrArg (fun b => some (Value.bool b)) (show T = T2 from by rw [HT2.out, HCT.out]; simp only [z8, Bool.true_and, Bool.and_true, Bool.false_and, Bool.and_false, Bool.or_false, Bool.false_or, Bool.or_true, Bool.true_or]), rfl, congrArg (fun n : Nat => some (Value.int .u32 (n : Int))) (show x.number = L1 from by have := HLL.out; have := HLX.out; omega), rfl, congrArg (fun b => some (Value.bool b)) p1.symm, rfl, rfl⟩, rfl⟩
            · have hd : decide ((L : Int) < (x.number : Int)) = false := by rw [decide_eq_false_iff_not]; omega
              have HLX := Lib.hid hl
              clear hl
              go_wp2
              exact HC16.out _ _ ⟨⟨rfl, rfl, rfl, rfl, rfl, rfl, congrArg (fun b => some (Value.bool b)) (show T = T2 from by rw [HT2.out, HCT.out]; simp only [z8, Bool.true_and, Bool.and_true, Bool.false_and, Bool.and_false, Bool.or_false, Bool.false_or, Bool.or_true, Bool.true_or]), rfl, congrArg (fun n : Nat => some (Value.int .u32 (n : Int))) (show L = L1 from by have := HLL.out; have := HLX.out; omega), rfl, congrArg (fun b => some (Value.bool b)) p1.symm, rfl, rfl⟩, rfl⟩
      · cases p1 : (x.node == f.node)
        · have z4 : (f.kind == 4) = false := by rw [beq_iff_eq] at a2; rw [beq_eq_false_iff_ne]; omega
          have z9 : (f.kind == 9) = false := by rw [beq_iff_eq] at a2; rw [beq_eq_false_iff_ne]; omega
          have z8 : (f.kind == 8) = false := by rw [beq_iff_eq] at a2; rw [beq_eq_false_iff_ne]; omega
          have hc : c16 f x = false := by unfold c16; simp only [a1, a2, z4, z9, z8, p1, Bool.true_and, Bool.and_true, Bool.false_and, Bool.and_false, Bool.or_false, Bool.false_or, Bool.or_true, Bool.true_or]
          have HCF := Lib.hid hc
          clear hc
          go_wp2
          exact HC16.out _ _ ⟨⟨rfl, rfl, rfl, rfl, rfl, rfl, congrArg (fun b => some (Value.bool b)) (show T = T2 from by rw [HT2.out, HCF.out]; simp only [Bool.true_and, Bool.and_true, Bool.false_and, Bool.and_false, Bool.or_false, Bool.false_or, Bool.or_true, Bool.true_or]), rfl, congrArg (fun n : Nat => some (Value.int .u32 (n : Int))) (HL16.out HCF.out), rfl, rfl, rfl, rfl⟩, rfl⟩
        · cases p2 : (x.name == f.name)
          · have z4 : (f.kind == 4) = false := by rw [beq_iff_eq] at a2; rw [beq_eq_false_iff_ne]; omega
            have z9 : (f.kind == 9) = false := by rw [beq_iff_eq] at a2; rw [beq_eq_false_iff_ne]; omega
            have z8 : (f.kind == 8) = false := by rw [beq_iff_eq] at a2; rw [beq_eq_false_iff_ne]; omega
            have hc : c16 f x = false := by unfold c16; simp only [a1, a2, z4, z9, z8, p1, p2, Bool.true_and, Bool.and_true, Bool.false_and, Bool.and_false, Bool.or_false, Bool.false_or, Bool.or_true, Bool.true_or]
            have HCF := Lib.hid hc
            clear hc
            go_wp2
            exact HC16.out _ _ ⟨⟨rfl, rfl, rfl, rfl, rfl, rfl, congrArg (fun b => some (Value.bool b)) (show T = T2 from by rw [HT2.out, HCF.out]; simp only [Bool.true_and, Bool.and_true, Bool.false_and, Bool.and_false, Bool.or_false, Bool.false_or, Bool.or_true, Bool.true_or]), rfl, congrArg (fun n : Nat => some (Value.int .u32 (n : Int))) (HL16.out HCF.out), rfl, rfl, rfl, rfl⟩, rfl⟩
          · have z4 : (f.kind == 4) = false := by rw [beq_iff_eq] at a2; rw [beq_eq_false_iff_ne]; omega
            have z9 : (f.kind == 9) = false := by rw [beq_iff_eq] at a2; rw [beq_eq_false_iff_ne]; omega
            have z8 : (f.kind == 8) = false := by rw [beq_iff_eq] at a2; rw [beq_eq_false_iff_ne]; omega
            have hc : c16 f x = true := by unfold c16; simp only [a1, a2, z4, z9, z8, p1, p2, Bool.true_and, Bool.and_true, Bool.false_and, Bool.and_false, Bool.or_false, Bool.false_or, Bool.or_true, Bool.true_or]
            have HCT := Lib.hid hc
            clear hc
            have HLL := Lib.hid (HL17.out HCT.out)
            by_cases hl : L < x.number
            · have hd : decide ((L : Int) < (x.number : Int)) = true := by rw [decide_eq_true_eq]; omega
              have HLX := Lib.hid hl
              clear hl
              go_wp2
              exact HC16.out _ _ ⟨⟨rfl, rfl, rfl, rfl, rfl, rfl, congrArg (fun b => some (Value.bool b)) (show T = T2 from by rw [HT2.out, HCT.out]; simp only [z8, Bool.true_and, Bool.and_true, Bool.false_and, Bool.and_false, Bool.or_false, Bool.false_or, Bool.or_true, Bool.true_or]), rfl, congrArg (fun n : Nat => some (Value.int .u32 (n : Int))) (show x.number = L1 from by have := HLL.out; have := HLX.out; omega), rfl, rfl, rfl, rfl⟩, rfl⟩
            · have hd : decide ((L : Int) < (x.number : Int)) = false := by rw [decide_eq_false_iff_not]; omega
              have HLX := Lib.hid hl
              clear hl
              go_wp2
              exact HC16.out _ _ ⟨⟨rfl, rfl, rfl, rfl, rfl, rfl, congrArg (fun b => some (Value.bool b)) (show T = T2 from by rw [HT2.out, HCT.out]; simp only [z8, Bool.true_and, Bool.and_true, Bool.false_and, Bool.and_false, Bool.or_false, Bool.false_or, Bool.or_true, Bool.true_or]), rfl, congrArg (fun n : Nat => some (Value.int .u32 (n : Int))) (show L = L1 from by have := HLL.out; have := HLX.out; omega), rfl, rfl, rfl, rfl⟩, rfl⟩
    · cases p1 : (x.node == f.node)
      · have z2 : (f.kind == 2) = false := by rw [beq_iff_eq] at a1; rw [beq_eq_false_iff_ne]; omega
        have z4 : (f.kind == 4) = false := by rw [beq_iff_eq] at a1; rw [beq_eq_false_iff_ne]; omega
        have z9 : (f.kind == 9) = false := by rw [beq_iff_eq] at a1; rw [beq_eq_false_iff_ne]; omega
        have z8 : (f.kind == 8) = false := by rw [beq_iff_eq] at a1; rw [beq_eq_false_iff_ne]; omega
        have hc : c16 f x = false := by unfold c16; simp only [a1, z2, z4, z9, z8, p1, Bool.true_and, Bool.and_true, Bool.false_and, Bool.and_false, Bool.or_false, Bool.false_or, Bool.or_true, Bool.true_or]
        have HCF := Lib.hid hc
        clear hc
        go_wp2
        exact HC16.out _ _ ⟨⟨rfl, rfl, rfl, rfl, rfl, rfl, congrArg (fun b => some (Value.bool b)) (show T = T2 from by rw [HT2.out, HCF.out]; simp only [Bool.true_and, Bool.and_true, Bool.false_and, Bool.and_false, Bool.or_false, Bool.false_or, Bool.or_true, Bool.true_or]), rfl, congrArg (fun n : Nat => some (Value.int .u32 (n : Int))) (HL16.out HCF.out), rfl, rfl, rfl, rfl⟩, rfl⟩
      · have z2 : (f.kind == 2) = false := by rw [beq_iff_eq] at a1; rw [beq_eq_false_iff_ne]; omega
        have z4 : (f.kind == 4) = false := by rw [beq_iff_eq] at a1; rw [beq_eq_false_iff_ne]; omega
        have z9 : (f.kind == 9) = false := by rw [beq_iff_eq] at a1; rw [beq_eq_false_iff_ne]; omega
        have z8 : (f.kind == 8) = false := by rw [beq_iff_eq] at a1; rw [beq_eq_false_iff_ne]; omega
        have hc : c16 f x = true := by unfold c16; simp only [a1, z2, z4, z9, z8, p1, Bool.true_and, Bool.and_true, Bool.false_and, Bool.and_false, Bool.or_false, Bool.false_or, Bool.or_true, Bool.true_or]
        have HCT := Lib.hid hc
        clear hc
        have HLL := Lib.hid (HL17.out HCT.out)
        by_cases hl : L < x.number
        · have hd : decide ((L : Int) < (x.number : Int)) = true := by rw [decide_eq_true_eq]; omega
          have HLX := Lib.hid hl
          clear hl
          go_wp2
          exact HC16.out _ _ ⟨⟨rfl, rfl, rfl, rfl, rfl, rfl, congrArg (fun b => some (Value.bool b)) (show T = T2 from by rw [HT2.out, HCT.out]; simp only [z8, Bool.true_and, Bool.and_true, Bool.false_and, Bool.and_false, Bool.or_false, Bool.false_or, Bool.or_true, Bool.true_or]), rfl, congrArg (fun n : Nat => some (Value.int .u32 (n : Int))) (show x.number = L1 from by have := HLL.out; have := HLX.out; omega), rfl, rfl, rfl, rfl⟩, rfl⟩
        · have hd : decide ((L : Int) < (x.number : Int)) = false := by rw [decide_eq_false_iff_not]; omega
          have HLX := Lib.hid hl
          clear hl
          go_wp2
          exact HC16.out _ _ ⟨⟨rfl, rfl, rfl, rfl, rfl, rfl, congrArg (fun b => some (Value.bool b)) (show T = T2 from by rw [HT2.out, HCT.out]; simp only [z8, Bool.true_and, Bool.and_true, Bool.false_and, Bool.and_false, Bool.or_false, Bool.false_or, Bool.or_true, Bool.true_or]), rfl, congrArg (fun n : Nat => some (Value.int .u32 (n : Int))) (show L = L1 from by have := HLL.out; have := HLX.out; omega), rfl, rfl, rfl, rfl⟩, rfl⟩
  · have hkk : (x.kind == f.kind) = false := by simp [kk]
    have e1 : T1 = T := by rw [HT1.out]; unfold stepT; rw [if_neg kk]
    have e2 : L1 = L := by rw [HL1.out]; unfold stepL; rw [if_neg kk]
    have E1 := Lib.hid e1
    have E2 := Lib.hid e2
    clear e1 e2 kk
    go_wp2
    exact HC.out _ ⟨rfl, rfl, rfl, rfl, rfl, rfl, congrArg (fun b => some (Value.bool b)) E1.out.symm, rfl, congrArg (fun n : Nat => some (Value.int .u32 (n : Int))) E2.out.symm, rfl, rfl, rfl, rfl⟩

end Go.Proofs.Ytfdijgdojejimaa
