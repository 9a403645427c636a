/- Layer 27: heliographref27.May: the three Booleans of a round. No condition beyond sizes. (Printed by genrmay.py.) -/
import Derived.Test.YtfdijgdojejimaaIdQ
namespace Go.Proofs.Ytfdijgdojejimaa
open Go.RowKit Go.Shelf K L
set_option linter.unusedVariables false
set_option linter.unusedSimpArgs false

set_option maxRecDepth 100000 in
set_option maxHeartbeats 16000000 in
theorem st_11 {Q : Exit → Act → World → Prop} {KK : Act → World → Prop} (wb : World) (n b o c N m q : Nat) (f x : Fact) (Ab Af : Option Addr) (cb cf : Nat) (G T S : Bool) (L : Nat) (a : Act) (hF : FB wb N f (.slice Af f.bytes.length cf)) (hX : FB wb q x (.slice Ab x.bytes.length cb)) (hx2 : Bs wb (· < wb.heap.size) (.slice Ab x.bytes.length cb) x.bytes) (hf2 : Bs wb (· < wb.heap.size) (.slice Af f.bytes.length cf) f.bytes)
    (hd : a.defers = []) (hs : a.tmps.size = 460) (h0 : a.tmps[0]? = some (.slice (some ⟨b, o, none⟩) n c)) (h3 : a.tmps[3]? = some (.pointer (some ⟨N, 0, none⟩))) (h9 : a.tmps[9]? = some (.int .i64 m)) (h5 : a.tmps[5]? = some (.bool G)) (h6 : a.tmps[6]? = some (.bool T)) (h7 : a.tmps[7]? = some (.bool S)) (h8 : a.tmps[8]? = some (.int .u32 (L : Nat))) (h10 : a.tmps[10]? = some (.pointer (some ⟨q, 0, none⟩)))
    (hK : ∀ a w, (cR (cR (cB (cL (cR (cB (cB (cR (cL (cR (cR (cR (cR (cR ((Try.f12.body.getD .skip)))))))))))))))).wp Try.prog Q a w → KK a w) (h2 : ∀ a k, RelM n b o c N m q f x G T S L a → (cR (cR (cR (cR (cB (cL (cR (cB (cB (cR (cL (cR (cR (cR (cR (cR ((Try.f12.body.getD .skip)))))))))))))))))).wp Try.prog Q a (wb.drewN k)) :
    (cL (cR (cB (cL (cR (cB (cB (cR (cL (cR (cR (cR (cR (cR ((Try.f12.body.getD .skip)))))))))))))))).wp Try.prog (Exit.then KK Q) a wb := by
  have HX2 := Lib.hid hx2
  have HF2 := Lib.hid hf2
  clear hx2 hf2
  have ha := frame_all a hd hs
  obtain ⟨g, hg⟩ : ∃ g : Nat → Value, (fun n => a.tmps[n]?.getD undef) = g := ⟨_, rfl⟩
  have g0 : g 0 = .slice (some ⟨b, o, none⟩) n c := by rw [← hg]; simp only [h0, Option.getD_some]
  have g3 : g 3 = .pointer (some ⟨N, 0, none⟩) := by rw [← hg]; simp only [h3, Option.getD_some]
  have g9 : g 9 = .int .i64 m := by rw [← hg]; simp only [h9, Option.getD_some]
  have g5 : g 5 = .bool G := by rw [← hg]; simp only [h5, Option.getD_some]
  have g6 : g 6 = .bool T := by rw [← hg]; simp only [h6, Option.getD_some]
  have g7 : g 7 = .bool S := by rw [← hg]; simp only [h7, Option.getD_some]
  have g8 : g 8 = .int .u32 (L : Nat) := by rw [← hg]; simp only [h8, Option.getD_some]
  have g10 : g 10 = .pointer (some ⟨q, 0, none⟩) := by rw [← hg]; simp only [h10, Option.getD_some]
  rw [hg, frame_lit, g0, g3, g9, g5, g6, g7, g8, g10] at ha
  subst ha
  clear hd hs hg h0 h3 h9 h5 h6 h7 h8 h10 g0 g3 g9 g5 g6 g7 g8 g10
  obtain ⟨y0, y1, y2, y3, y4, y5, y6⟩ := hX.cells
  obtain ⟨z0, z1, z2, z3, z4, z5, z6⟩ := hF.cells
  clear hX hF
  refine cut3 (r2 := cL (cR (cR (cB (cL (cR (cB (cB (cR (cL (cR (cR (cR (cR (cR ((Try.f12.body.getD .skip))))))))))))))))) (r3 := cL (cR (cR (cR (cB (cL (cR (cB (cB (cR (cL (cR (cR (cR (cR (cR ((Try.f12.body.getD .skip)))))))))))))))))) (R := cR (cR (cR (cR (cB (cL (cR (cB (cB (cR (cL (cR (cR (cR (cR (cR ((Try.f12.body.getD .skip)))))))))))))))))) hK (fun a wx => RelM n b o c N m q f x G T S L a ∧ ∃ k, wx = wb.drewN k) (fun K2 K3 K4 hK2 hK3 HC => ?_) (fun a wx hrw => by obtain ⟨hr, k, hk⟩ := hrw; rw [hk]; exact h2 a k hr)
  clear hK h2
  simp only [Try.f12, cL, cR, cB, Option.getD_some] at hK2 hK3 ⊢
  cases k1 : (x.node == f.node) <;> cases k2 : (x.node == f.frm) <;> cases k3 : (x.name == f.name)
  · go_wp2
    exact HC.out _ _ ⟨⟨rfl, rfl, rfl, rfl, rfl, rfl, rfl, rfl, rfl, rfl, by simp [Fact.forth, k1], by simp [Fact.back, k2], by simp [Fact.like, k3]⟩, 0, rfl⟩
  · go_wp2_with fail
    refine (same_any _ _ _ _ _ _ _ HX2.out HF2.out).mono ?_
    rintro e w4 ⟨rfl, k, rfl⟩
    go_wp2
    exact HC.out _ _ ⟨⟨rfl, rfl, rfl, rfl, rfl, rfl, rfl, rfl, rfl, rfl, by simp [Fact.forth, k1], by simp [Fact.back, k2], by simp [Fact.like, k3]⟩, k, rfl⟩
  · go_wp2
    exact HC.out _ _ ⟨⟨rfl, rfl, rfl, rfl, rfl, rfl, rfl, rfl, rfl, rfl, by simp [Fact.forth, k1], by simp [Fact.back, k2], by simp [Fact.like, k3]⟩, 0, rfl⟩
  · go_wp2_with fail
    refine (same_any _ _ _ _ _ _ _ HX2.out HF2.out).mono ?_
    rintro e w4 ⟨rfl, k, rfl⟩
    go_wp2
    exact HC.out _ _ ⟨⟨rfl, rfl, rfl, rfl, rfl, rfl, rfl, rfl, rfl, rfl, by simp [Fact.forth, k1], by simp [Fact.back, k2], by simp [Fact.like, k3]⟩, k, rfl⟩
  · go_wp2
    exact HC.out _ _ ⟨⟨rfl, rfl, rfl, rfl, rfl, rfl, rfl, rfl, rfl, rfl, by simp [Fact.forth, k1], by simp [Fact.back, k2], by simp [Fact.like, k3]⟩, 0, rfl⟩
  · go_wp2_with fail
    refine (same_any _ _ _ _ _ _ _ HX2.out HF2.out).mono ?_
    rintro e w4 ⟨rfl, k, rfl⟩
    go_wp2
    exact HC.out _ _ ⟨⟨rfl, rfl, rfl, rfl, rfl, rfl, rfl, rfl, rfl, rfl, by simp [Fact.forth, k1], by simp [Fact.back, k2], by simp [Fact.like, k3]⟩, k, rfl⟩
  · go_wp2
    exact HC.out _ _ ⟨⟨rfl, rfl, rfl, rfl, rfl, rfl, rfl, rfl, rfl, rfl, by simp [Fact.forth, k1], by simp [Fact.back, k2], by simp [Fact.like, k3]⟩, 0, rfl⟩
  · go_wp2_with fail
    refine (same_any _ _ _ _ _ _ _ HX2.out HF2.out).mono ?_
    rintro e w4 ⟨rfl, k, rfl⟩
    go_wp2
    exact HC.out _ _ ⟨⟨rfl, rfl, rfl, rfl, rfl, rfl, rfl, rfl, rfl, rfl, by simp [Fact.forth, k1], by simp [Fact.back, k2], by simp [Fact.like, k3]⟩, k, rfl⟩

end Go.Proofs.Ytfdijgdojejimaa
