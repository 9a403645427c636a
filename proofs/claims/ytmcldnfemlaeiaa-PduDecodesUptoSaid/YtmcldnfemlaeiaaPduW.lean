/- Law 11's walks: wakes, copied. No condition beyond sizes. -/
import Derived.Test.YtmcldnfemlaeiaaPduM
import Derived.Test.YtmcldnfemlaeiaaPduDA
namespace Go.Proofs.Ytmcldnfemlaeiaa
open Go.RowKit K L
set_option linter.unusedVariables false
set_option linter.unusedSimpArgs false

set_option maxRecDepth 100000 in
set_option maxHeartbeats 4000000 in
theorem wakes_any (w : World) : Calls Try.prog 8 #[] w fun e w' => e = .returned (.bool true) ∧ Below w.heap.size w w' := by
  have he : Msg.enc ⟨1, 1, [97], 5, 0, 0, 0, []⟩ = [1, 0, 0, 0, 1, 1, 97, 0, 5] := by decide
  have hE : decE [4, 0, 0, 0, 3, 1] = 0 := by decide
  have hM : (decR [4, 0, 0, 0, 3, 1]).1 = ⟨4, 3, [], 0, 0, 0, 1, []⟩ := by rfl
  have hD : decM [4, 0, 0, 0, 3, 1] = ⟨4, 3, [], 0, 0, 0, 1, []⟩ := by unfold decM; rw [hE, if_pos rfl, hM]
  have HE := Lib.hid he
  have HD := Lib.hid hE
  have HM := Lib.hid hD
  clear he hE hM hD
  go_enter Try.func8, Try.ntmps8
  go_wp2_with fail
  refine (encode_good ⟨1, 1, [97], 5, 0, 0, 0, []⟩ (.slice none 0 0) _ _ (Sl.nil _ (fun _ => True) _) (by decide) (by decide) (by decide)).mono ?_
  rintro e w1 ⟨v, rfl, ho, hB⟩
  rw [HE.out] at ho
  have hb := ho.bs
  obtain ⟨A, c, rfl, l1, l2, -, -⟩ := hb.open_
  obtain ⟨b8, o8, rfl, hb8, hlt8, hc8⟩ := Sl.cells hb (by decide) (by decide)
  have c8 := hc8 8 (.int .u8 5) rfl
  clear hc8 hb
  go_wp2_with fail
  refine (decode_any _ [4, 0, 0, 0, 3, 1] _ _ (lit_bs w1 [4, 0, 0, 0, 3, 1] #[.int .u8 4, .int .u8 0, .int .u8 0, .int .u8 0, .int .u8 3, .int .u8 1] rfl 6 rfl (by decide)) (by decide)).mono ?_
  rintro e w2 ⟨vb, rfl, ho2, hB2⟩
  rw [HD.out, HM.out] at *
  unfold Msg.cells
  dsimp only at ho2 ⊢
  have c8' : w2.cell? ⟨b8, o8 + 8, none⟩ = some (.int .u8 5) := by
    have h1 := cell_al c8 (.cells #[.int .u8 4, .int .u8 0, .int .u8 0, .int .u8 0, .int .u8 3, .int .u8 1] 5)
    rw [← h1]
    have hbk := hB2.block b8 (by rw [World.size_alloc]; omega)
    simp only [World.cell?, hbk]
  have hb2 := ho2.bs
  obtain ⟨A2, c2, rfl, -, -, -, -⟩ := hb2.open_
  have c8a := fun o => cell_al c8' o
  replace hB2 : Below w.heap.size w w2 := below_tr (below_al hB _) hB2
  clear c8 ho hb2 ho2
  go_wp2
  go_ret
  exact ⟨rfl, (by repeat' (first | exact Below.refl _ _ | assumption | with_reducible refine below_dn ?_ _ | with_reducible refine below_al ?_ _ | with_reducible refine Below.drew ?_ | (with_reducible refine below_sc ?_ ?_ _) | (simp; done) | (simp; omega)))⟩

end Go.Proofs.Ytmcldnfemlaeiaa
