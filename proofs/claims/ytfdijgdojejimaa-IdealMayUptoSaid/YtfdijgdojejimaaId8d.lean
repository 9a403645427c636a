/- Layer 27: heliographref27.May: .., the other half. No condition beyond sizes. (Printed by genrmay.py.) -/
import Derived.Test.YtfdijgdojejimaaIdQ
namespace Go.Proofs.Ytfdijgdojejimaa
open Go.RowKit Go.Shelf K L
set_option linter.unusedVariables false
set_option linter.unusedSimpArgs false

set_option maxRecDepth 100000 in
set_option maxHeartbeats 8000000 in
theorem st_31 {Q : Exit → Act → World → Prop} {KK : Act → World → Prop} (wb : World) (n b o c N m q : Nat) (f x : Fact) (vf vx : Value) (G T S : Bool) (L : Nat) (a : Act) (hF : FB wb N f vf) (hX : FB wb q x vx) (hr : RelM n b o c N m q f x G T S L a) (hc : ∀ a, RelM n b o c N m q f x G T (S || k31 f x) L a → KK a wb) :
    (cL (cR (cR (cR (cR (cR (cR (cR (cR (cR (cB (cL (cR (cB (cB (cR (cL (cR (cR (cR (cR (cR ((Try.f12.body.getD .skip)))))))))))))))))))))))).wp Try.prog (Exit.then KK Q) a wb := by
  have HC := Lib.hid hc
  clear hc
  obtain ⟨hd, hs, h0, h3, h9, h5, h6, h7, h8, h10, h11, h12, h13⟩ := hr
  have ha := frame_all a hd hs
  obtain ⟨g, hg⟩ : ∃ g : Nat → Value, (fun n => a.tmps[n]?.getD undef) = g := ⟨_, rfl⟩
  have g0 : g 0 = .slice (some ⟨b, o, none⟩) n c := by rw [← hg]; simp only [h0, Option.getD_some]
  have g3 : g 3 = .pointer (some ⟨N, 0, none⟩) := by rw [← hg]; simp only [h3, Option.getD_some]
  have g9 : g 9 = .int .i64 m := by rw [← hg]; simp only [h9, Option.getD_some]
  have g5 : g 5 = .bool G := by rw [← hg]; simp only [h5, Option.getD_some]
  have g6 : g 6 = .bool T := by rw [← hg]; simp only [h6, Option.getD_some]
  have g7 : g 7 = .bool S := by rw [← hg]; simp only [h7, Option.getD_some]
  have g8 : g 8 = .int .u32 (L : Nat) := by rw [← hg]; simp only [h8, Option.getD_some]
  have g10 : g 10 = .pointer (some ⟨q, 0, none⟩) := by rw [← hg]; simp only [h10, Option.getD_some]
  have g11 : g 11 = .bool (f.forth x) := by rw [← hg]; simp only [h11, Option.getD_some]
  have g12 : g 12 = .bool (f.back x) := by rw [← hg]; simp only [h12, Option.getD_some]
  have g13 : g 13 = .bool (f.like x) := by rw [← hg]; simp only [h13, Option.getD_some]
  rw [hg, frame_lit, g0, g3, g9, g5, g6, g7, g8, g10, g11, g12, g13] at ha
  subst ha
  clear hd hs hg h0 h3 h9 h5 h6 h7 h8 h10 h11 h12 h13 g0 g3 g9 g5 g6 g7 g8 g10 g11 g12 g13
  obtain ⟨y0, y1, y2, y3, y4, y5, y6⟩ := hX.cells
  obtain ⟨z0, z1, z2, z3, z4, z5, z6⟩ := hF.cells
  clear hX hF
  simp only [Try.f12, cL, cR, cB, Option.getD_some]
  cases p0 : (f.kind == 8)
  · go_wp2
    exact HC.out _ ⟨rfl, rfl, rfl, rfl, rfl, rfl, rfl, congrArg (fun b => some (Value.bool b)) (show S = _ from by simp only [k31, p0, Bool.true_and, Bool.and_true, Bool.false_and, Bool.and_false, Bool.or_false, Bool.false_or, Bool.or_true, Bool.true_or]), rfl, rfl, rfl, rfl, rfl⟩
  · cases p1 : (x.kind == 3)
    · go_wp2
      exact HC.out _ ⟨rfl, rfl, rfl, rfl, rfl, rfl, rfl, congrArg (fun b => some (Value.bool b)) (show S = _ from by simp only [k31, p0, p1, Bool.true_and, Bool.and_true, Bool.false_and, Bool.and_false, Bool.or_false, Bool.false_or, Bool.or_true, Bool.true_or]), rfl, rfl, rfl, rfl, rfl⟩
    · cases p2 : f.forth x
      · go_wp2
        exact HC.out _ ⟨rfl, rfl, rfl, rfl, rfl, rfl, rfl, congrArg (fun b => some (Value.bool b)) (show S = _ from by simp only [k31, p0, p1, p2, Bool.true_and, Bool.and_true, Bool.false_and, Bool.and_false, Bool.or_false, Bool.false_or, Bool.or_true, Bool.true_or]), rfl, rfl, congrArg (fun b => some (Value.bool b)) p2.symm, rfl, rfl⟩
      · cases p3 : (x.name == f.name)
        · go_wp2
          exact HC.out _ ⟨rfl, rfl, rfl, rfl, rfl, rfl, rfl, congrArg (fun b => some (Value.bool b)) (show S = _ from by simp only [k31, p0, p1, p2, p3, Bool.true_and, Bool.and_true, Bool.false_and, Bool.and_false, Bool.or_false, Bool.false_or, Bool.or_true, Bool.true_or]), rfl, rfl, congrArg (fun b => some (Value.bool b)) p2.symm, rfl, rfl⟩
        · go_wp2
          exact HC.out _ ⟨rfl, rfl, rfl, rfl, rfl, rfl, rfl, congrArg (fun b => some (Value.bool b)) (show true = _ from by simp only [k31, p0, p1, p2, p3, Bool.true_and, Bool.and_true, Bool.false_and, Bool.and_false, Bool.or_false, Bool.false_or, Bool.or_true, Bool.true_or]), rfl, rfl, congrArg (fun b => some (Value.bool b)) p2.symm, rfl, rfl⟩

set_option maxRecDepth 100000 in
set_option maxHeartbeats 8000000 in
theorem st_33 {Q : Exit → Act → World → Prop} {KK : Act → World → Prop} (wb : World) (n b o c N m q : Nat) (f x : Fact) (vf vx : Value) (G T S : Bool) (L : Nat) (a : Act) (hF : FB wb N f vf) (hX : FB wb q x vx) (hr : RelM n b o c N m q f x G T S L a) (hc : ∀ a, RelM n b o c N m q f x (G || k33 f x) T S L a → KK a wb) :
    (cL (cR (cR (cR (cR (cR (cR (cR (cR (cR (cR (cB (cL (cR (cB (cB (cR (cL (cR (cR (cR (cR (cR ((Try.f12.body.getD .skip))))))))))))))))))))))))).wp Try.prog (Exit.then KK Q) a wb := by
  have HC := Lib.hid hc
  clear hc
  obtain ⟨hd, hs, h0, h3, h9, h5, h6, h7, h8, h10, h11, h12, h13⟩ := hr
  have ha := frame_all a hd hs
  obtain ⟨g, hg⟩ : ∃ g : Nat → Value, (fun n => a.tmps[n]?.getD undef) = g := ⟨_, rfl⟩
  have g0 : g 0 = .slice (some ⟨b, o, none⟩) n c := by rw [← hg]; simp only [h0, Option.getD_some]
  have g3 : g 3 = .pointer (some ⟨N, 0, none⟩) := by rw [← hg]; simp only [h3, Option.getD_some]
  have g9 : g 9 = .int .i64 m := by rw [← hg]; simp only [h9, Option.getD_some]
  have g5 : g 5 = .bool G := by rw [← hg]; simp only [h5, Option.getD_some]
  have g6 : g 6 = .bool T := by rw [← hg]; simp only [h6, Option.getD_some]
  have g7 : g 7 = .bool S := by rw [← hg]; simp only [h7, Option.getD_some]
  have g8 : g 8 = .int .u32 (L : Nat) := by rw [← hg]; simp only [h8, Option.getD_some]
  have g10 : g 10 = .pointer (some ⟨q, 0, none⟩) := by rw [← hg]; simp only [h10, Option.getD_some]
  have g11 : g 11 = .bool (f.forth x) := by rw [← hg]; simp only [h11, Option.getD_some]
  have g12 : g 12 = .bool (f.back x) := by rw [← hg]; simp only [h12, Option.getD_some]
  have g13 : g 13 = .bool (f.like x) := by rw [← hg]; simp only [h13, Option.getD_some]
  rw [hg, frame_lit, g0, g3, g9, g5, g6, g7, g8, g10, g11, g12, g13] at ha
  subst ha
  clear hd hs hg h0 h3 h9 h5 h6 h7 h8 h10 h11 h12 h13 g0 g3 g9 g5 g6 g7 g8 g10 g11 g12 g13
  obtain ⟨y0, y1, y2, y3, y4, y5, y6⟩ := hX.cells
  obtain ⟨z0, z1, z2, z3, z4, z5, z6⟩ := hF.cells
  clear hX hF
  simp only [Try.f12, cL, cR, cB, Option.getD_some]
  cases p0 : (f.kind == 9)
  · go_wp2
    exact HC.out _ ⟨rfl, rfl, rfl, rfl, rfl, congrArg (fun b => some (Value.bool b)) (show G = _ from by simp only [k33, p0, Bool.true_and, Bool.and_true, Bool.false_and, Bool.and_false, Bool.or_false, Bool.false_or, Bool.or_true, Bool.true_or]), rfl, rfl, rfl, rfl, rfl, rfl, rfl⟩
  · cases p1 : (x.kind == 4)
    · go_wp2
      exact HC.out _ ⟨rfl, rfl, rfl, rfl, rfl, congrArg (fun b => some (Value.bool b)) (show G = _ from by simp only [k33, p0, p1, Bool.true_and, Bool.and_true, Bool.false_and, Bool.and_false, Bool.or_false, Bool.false_or, Bool.or_true, Bool.true_or]), rfl, rfl, rfl, rfl, rfl, rfl, rfl⟩
    · cases p2 : f.back x
      · go_wp2
        exact HC.out _ ⟨rfl, rfl, rfl, rfl, rfl, congrArg (fun b => some (Value.bool b)) (show G = _ from by simp only [k33, p0, p1, p2, Bool.true_and, Bool.and_true, Bool.false_and, Bool.and_false, Bool.or_false, Bool.false_or, Bool.or_true, Bool.true_or]), rfl, rfl, rfl, rfl, rfl, congrArg (fun b => some (Value.bool b)) p2.symm, rfl⟩
      · cases p3 : f.fits x
        · go_wp2_with fail
          refine (rfits_any _ _ _).mono ?_
          rintro e w4 ⟨rfl, rfl⟩
          rw [show (decide (x.number = 0) || decide (x.number = f.number)) = _ from p3]
          go_wp2
          exact HC.out _ ⟨rfl, rfl, rfl, rfl, rfl, congrArg (fun b => some (Value.bool b)) (show G = _ from by simp only [k33, p0, p1, p2, p3, Bool.true_and, Bool.and_true, Bool.false_and, Bool.and_false, Bool.or_false, Bool.false_or, Bool.or_true, Bool.true_or]), rfl, rfl, rfl, rfl, rfl, congrArg (fun b => some (Value.bool b)) p2.symm, rfl⟩
        · go_wp2_with fail
          refine (rfits_any _ _ _).mono ?_
          rintro e w4 ⟨rfl, rfl⟩
          rw [show (decide (x.number = 0) || decide (x.number = f.number)) = _ from p3]
          go_wp2
          exact HC.out _ ⟨rfl, rfl, rfl, rfl, rfl, congrArg (fun b => some (Value.bool b)) (show true = _ from by simp only [k33, p0, p1, p2, p3, Bool.true_and, Bool.and_true, Bool.false_and, Bool.and_false, Bool.or_false, Bool.false_or, Bool.or_true, Bool.true_or]), rfl, rfl, rfl, rfl, rfl, congrArg (fun b => some (Value.bool b)) p2.symm, rfl⟩

set_option maxRecDepth 100000 in
set_option maxHeartbeats 8000000 in
theorem st_35 {Q : Exit → Act → World → Prop} {KK : Act → World → Prop} (wb : World) (n b o c N m q : Nat) (f x : Fact) (vf vx : Value) (G T S : Bool) (L : Nat) (a : Act) (hF : FB wb N f vf) (hX : FB wb q x vx) (hr : RelM n b o c N m q f x G T S L a) (hc : ∀ a, RelM n b o c N m q f x (G || k35 f x) T S L a → KK a wb) :
    (cL (cR (cR (cR (cR (cR (cR (cR (cR (cR (cR (cR (cB (cL (cR (cB (cB (cR (cL (cR (cR (cR (cR (cR ((Try.f12.body.getD .skip)))))))))))))))))))))))))).wp Try.prog (Exit.then KK Q) a wb := by
  have HC := Lib.hid hc
  clear hc
  obtain ⟨hd, hs, h0, h3, h9, h5, h6, h7, h8, h10, h11, h12, h13⟩ := hr
  have ha := frame_all a hd hs
  obtain ⟨g, hg⟩ : ∃ g : Nat → Value, (fun n => a.tmps[n]?.getD undef) = g := ⟨_, rfl⟩
  have g0 : g 0 = .slice (some ⟨b, o, none⟩) n c := by rw [← hg]; simp only [h0, Option.getD_some]
  have g3 : g 3 = .pointer (some ⟨N, 0, none⟩) := by rw [← hg]; simp only [h3, Option.getD_some]
  have g9 : g 9 = .int .i64 m := by rw [← hg]; simp only [h9, Option.getD_some]
  have g5 : g 5 = .bool G := by rw [← hg]; simp only [h5, Option.getD_some]
  have g6 : g 6 = .bool T := by rw [← hg]; simp only [h6, Option.getD_some]
  have g7 : g 7 = .bool S := by rw [← hg]; simp only [h7, Option.getD_some]
  have g8 : g 8 = .int .u32 (L : Nat) := by rw [← hg]; simp only [h8, Option.getD_some]
  have g10 : g 10 = .pointer (some ⟨q, 0, none⟩) := by rw [← hg]; simp only [h10, Option.getD_some]
  have g11 : g 11 = .bool (f.forth x) := by rw [← hg]; simp only [h11, Option.getD_some]
  have g12 : g 12 = .bool (f.back x) := by rw [← hg]; simp only [h12, Option.getD_some]
  have g13 : g 13 = .bool (f.like x) := by rw [← hg]; simp only [h13, Option.getD_some]
  rw [hg, frame_lit, g0, g3, g9, g5, g6, g7, g8, g10, g11, g12, g13] at ha
  subst ha
  clear hd hs hg h0 h3 h9 h5 h6 h7 h8 h10 h11 h12 h13 g0 g3 g9 g5 g6 g7 g8 g10 g11 g12 g13
  obtain ⟨y0, y1, y2, y3, y4, y5, y6⟩ := hX.cells
  obtain ⟨z0, z1, z2, z3, z4, z5, z6⟩ := hF.cells
  clear hX hF
  simp only [Try.f12, cL, cR, cB, Option.getD_some]
  cases p0 : (f.kind == 10)
  · go_wp2
    exact HC.out _ ⟨rfl, rfl, rfl, rfl, rfl, congrArg (fun b => some (Value.bool b)) (show G = _ from by simp only [k35, p0, Bool.true_and, Bool.and_true, Bool.false_and, Bool.and_false, Bool.or_false, Bool.false_or, Bool.or_true, Bool.true_or]), rfl, rfl, rfl, rfl, rfl, rfl, rfl⟩
  · cases p1 : (x.kind == 4)
    · go_wp2
      exact HC.out _ ⟨rfl, rfl, rfl, rfl, rfl, congrArg (fun b => some (Value.bool b)) (show G = _ from by simp only [k35, p0, p1, Bool.true_and, Bool.and_true, Bool.false_and, Bool.and_false, Bool.or_false, Bool.false_or, Bool.or_true, Bool.true_or]), rfl, rfl, rfl, rfl, rfl, rfl, rfl⟩
    · cases p2 : f.forth x
      · go_wp2
        exact HC.out _ ⟨rfl, rfl, rfl, rfl, rfl, congrArg (fun b => some (Value.bool b)) (show G = _ from by simp only [k35, p0, p1, p2, Bool.true_and, Bool.and_true, Bool.false_and, Bool.and_false, Bool.or_false, Bool.false_or, Bool.or_true, Bool.true_or]), rfl, rfl, rfl, rfl, congrArg (fun b => some (Value.bool b)) p2.symm, rfl, rfl⟩
      · cases p3 : f.fits x
        · go_wp2_with fail
          refine (rfits_any _ _ _).mono ?_
          rintro e w4 ⟨rfl, rfl⟩
          rw [show (decide (x.number = 0) || decide (x.number = f.number)) = _ from p3]
          go_wp2
          exact HC.out _ ⟨rfl, rfl, rfl, rfl, rfl, congrArg (fun b => some (Value.bool b)) (show G = _ from by simp only [k35, p0, p1, p2, p3, Bool.true_and, Bool.and_true, Bool.false_and, Bool.and_false, Bool.or_false, Bool.false_or, Bool.or_true, Bool.true_or]), rfl, rfl, rfl, rfl, congrArg (fun b => some (Value.bool b)) p2.symm, rfl, rfl⟩
        · go_wp2_with fail
          refine (rfits_any _ _ _).mono ?_
          rintro e w4 ⟨rfl, rfl⟩
          rw [show (decide (x.number = 0) || decide (x.number = f.number)) = _ from p3]
          go_wp2
          exact HC.out _ ⟨rfl, rfl, rfl, rfl, rfl, congrArg (fun b => some (Value.bool b)) (show true = _ from by simp only [k35, p0, p1, p2, p3, Bool.true_and, Bool.and_true, Bool.false_and, Bool.and_false, Bool.or_false, Bool.false_or, Bool.or_true, Bool.true_or]), rfl, rfl, rfl, rfl, congrArg (fun b => some (Value.bool b)) p2.symm, rfl, rfl⟩

set_option maxRecDepth 100000 in
set_option maxHeartbeats 8000000 in
theorem st_37 {Q : Exit → Act → World → Prop} {KK : Act → World → Prop} (wb : World) (n b o c N m q : Nat) (f x : Fact) (vf vx : Value) (G T S : Bool) (L : Nat) (a : Act) (hF : FB wb N f vf) (hX : FB wb q x vx) (hr : RelM n b o c N m q f x G T S L a) (hc : ∀ a, RelM n b o c N m q f x G T (S || k37 f x) L a → Q .normal a wb) :
    (cR (cR (cR (cR (cR (cR (cR (cR (cR (cR (cR (cR (cB (cL (cR (cB (cB (cR (cL (cR (cR (cR (cR (cR ((Try.f12.body.getD .skip)))))))))))))))))))))))))).wp Try.prog Q a wb := by
  have HC := Lib.hid hc
  clear hc
  obtain ⟨hd, hs, h0, h3, h9, h5, h6, h7, h8, h10, h11, h12, h13⟩ := hr
  have ha := frame_all a hd hs
  obtain ⟨g, hg⟩ : ∃ g : Nat → Value, (fun n => a.tmps[n]?.getD undef) = g := ⟨_, rfl⟩
  have g0 : g 0 = .slice (some ⟨b, o, none⟩) n c := by rw [← hg]; simp only [h0, Option.getD_some]
  have g3 : g 3 = .pointer (some ⟨N, 0, none⟩) := by rw [← hg]; simp only [h3, Option.getD_some]
  have g9 : g 9 = .int .i64 m := by rw [← hg]; simp only [h9, Option.getD_some]
  have g5 : g 5 = .bool G := by rw [← hg]; simp only [h5, Option.getD_some]
  have g6 : g 6 = .bool T := by rw [← hg]; simp only [h6, Option.getD_some]
  have g7 : g 7 = .bool S := by rw [← hg]; simp only [h7, Option.getD_some]
  have g8 : g 8 = .int .u32 (L : Nat) := by rw [← hg]; simp only [h8, Option.getD_some]
  have g10 : g 10 = .pointer (some ⟨q, 0, none⟩) := by rw [← hg]; simp only [h10, Option.getD_some]
  have g11 : g 11 = .bool (f.forth x) := by rw [← hg]; simp only [h11, Option.getD_some]
  have g12 : g 12 = .bool (f.back x) := by rw [← hg]; simp only [h12, Option.getD_some]
  have g13 : g 13 = .bool (f.like x) := by rw [← hg]; simp only [h13, Option.getD_some]
  rw [hg, frame_lit, g0, g3, g9, g5, g6, g7, g8, g10, g11, g12, g13] at ha
  subst ha
  clear hd hs hg h0 h3 h9 h5 h6 h7 h8 h10 h11 h12 h13 g0 g3 g9 g5 g6 g7 g8 g10 g11 g12 g13
  obtain ⟨y0, y1, y2, y3, y4, y5, y6⟩ := hX.cells
  obtain ⟨z0, z1, z2, z3, z4, z5, z6⟩ := hF.cells
  clear hX hF
  simp only [Try.f12, cL, cR, cB, Option.getD_some]
  cases p0 : (f.kind == 10)
  · go_wp2
    exact HC.out _ ⟨rfl, rfl, rfl, rfl, rfl, rfl, rfl, congrArg (fun b => some (Value.bool b)) (show S = _ from by simp only [k37, p0, Bool.true_and, Bool.and_true, Bool.false_and, Bool.and_false, Bool.or_false, Bool.false_or, Bool.or_true, Bool.true_or]), rfl, rfl, rfl, rfl, rfl⟩
  · cases p1 : (x.kind == 9)
    · go_wp2
      exact HC.out _ ⟨rfl, rfl, rfl, rfl, rfl, rfl, rfl, congrArg (fun b => some (Value.bool b)) (show S = _ from by simp only [k37, p0, p1, Bool.true_and, Bool.and_true, Bool.false_and, Bool.and_false, Bool.or_false, Bool.false_or, Bool.or_true, Bool.true_or]), rfl, rfl, rfl, rfl, rfl⟩
    · cases p2 : f.back x
      · go_wp2
        exact HC.out _ ⟨rfl, rfl, rfl, rfl, rfl, rfl, rfl, congrArg (fun b => some (Value.bool b)) (show S = _ from by simp only [k37, p0, p1, p2, Bool.true_and, Bool.and_true, Bool.false_and, Bool.and_false, Bool.or_false, Bool.false_or, Bool.or_true, Bool.true_or]), rfl, rfl, rfl, congrArg (fun b => some (Value.bool b)) p2.symm, rfl⟩
      · cases p3 : ((x.number : Int) == (f.number : Int))
        · go_wp2
          exact HC.out _ ⟨rfl, rfl, rfl, rfl, rfl, rfl, rfl, congrArg (fun b => some (Value.bool b)) (show S = _ from by simp only [k37, p0, p1, p2, p3, Bool.true_and, Bool.and_true, Bool.false_and, Bool.and_false, Bool.or_false, Bool.false_or, Bool.or_true, Bool.true_or]), rfl, rfl, rfl, congrArg (fun b => some (Value.bool b)) p2.symm, rfl⟩
        · cases p4 : (x.code == f.code)
          · go_wp2
            exact HC.out _ ⟨rfl, rfl, rfl, rfl, rfl, rfl, rfl, congrArg (fun b => some (Value.bool b)) (show S = _ from by simp only [k37, p0, p1, p2, p3, p4, Bool.true_and, Bool.and_true, Bool.false_and, Bool.and_false, Bool.or_false, Bool.false_or, Bool.or_true, Bool.true_or]), rfl, rfl, rfl, congrArg (fun b => some (Value.bool b)) p2.symm, rfl⟩
          · go_wp2
            exact HC.out _ ⟨rfl, rfl, rfl, rfl, rfl, rfl, rfl, congrArg (fun b => some (Value.bool b)) (show true = _ from by simp only [k37, p0, p1, p2, p3, p4, Bool.true_and, Bool.and_true, Bool.false_and, Bool.and_false, Bool.or_false, Bool.false_or, Bool.or_true, Bool.true_or]), rfl, rfl, rfl, congrArg (fun b => some (Value.bool b)) p2.symm, rfl⟩

end Go.Proofs.Ytfdijgdojejimaa
