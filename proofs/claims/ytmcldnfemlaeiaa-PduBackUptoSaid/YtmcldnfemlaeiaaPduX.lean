/- Law 11's walks: PduAgain, PduBack. No condition beyond sizes. -/
import Derived.Test.YtmcldnfemlaeiaaPduW
import Derived.Test.YtmcldnfemlaeiaaPduP
namespace Go.Proofs.Ytmcldnfemlaeiaa
open Go.RowKit K L
set_option linter.unusedVariables false
set_option linter.unusedSimpArgs false

set_option maxRecDepth 100000 in
set_option maxHeartbeats 4000000 in
theorem again_walk (v : Value) (xs : List UInt8) (w : World) (h : Bs w (· < w.heap.size) v xs) (hl : xs.length ≤ 1048576) :
    Calls Try.prog 7 #[v] w fun e w' => e = .returned (.bool true) ∧ Below w.heap.size w w' := by
  have hz : decE xs ≠ 0 → decM xs = noMsg := fun h => by unfold decM; rw [if_neg h]
  have hg := enc_dec xs
  have hdec := fun v w F h => decode_any v xs w F h (Nat.le_trans hl (by decide))
  generalize decM xs = m at *
  generalize decE xs = er at *
  have HZ := Lib.hid hz
  have HG := Lib.hid hg
  have HD := Lib.hid hdec
  clear hz hg hdec
  have hb := h
  obtain ⟨A, c, rfl, l1, l2, -, -⟩ := h.open_
  unfold maxLen at l2
  clear h
  go_enter Try.func7, Try.ntmps7
  go_wp2_with fail
  refine (wakes_any _).mono ?_
  rintro e w1 ⟨rfl, hB⟩
  go_wp2_with fail
  refine (HD.out _ _ _ (hb.below hB)).mono ?_
  rintro e w2 ⟨vb, rfl, ho, hB2⟩
  replace ho := ho.low hB.size
  replace hB := below_tr hB hB2
  clear hB2
  have hob := ho.bs
  obtain ⟨A2, c2, rfl, n1, n2, -, -⟩ := hob.open_
  clear hob
  obtain ⟨kind, number, name, size, off, sum, code, bytes⟩ := m
  unfold Msg.cells
  dsimp only at ho n1 n2 HZ HG ⊢
  by_cases he : er = 0
  · have HOK := Lib.hid (HG.out he)
    have heb : (er != 0) = false := by simpa using he
    have hon := ho.bs.below (below_al (Below.refl w2.heap.size w2) (.cells #[.int .i64 kind, .int .u32 (number : Nat), .string ⟨name.toArray⟩, .int .i64 size, .int .i64 off, .int .u32 (sum : Nat), .int .i64 code, .slice A2 bytes.length c2] 25))
    subst he
    go_wp2_with fail
    refine (encode_good ⟨kind, number, name, size, off, sum, code, bytes⟩ (.slice A2 bytes.length c2) _ _ hon HOK.out.1 HOK.out.2.2.1 HOK.out.2.2.2).mono ?_
    rintro e w3 ⟨vc, rfl, ho3, hB3⟩
    rw [HOK.out.2.1] at ho3
    replace hB : Below w.heap.size w w3 := below_tr (below_al hB _) hB3
    have hx := hb.below hB
    clear hB3
    have hoc := ho3.bs
    obtain ⟨A3, c3, rfl, -, -, -, -⟩ := hoc.open_
    go_wp2_with fail
    refine (eq_any _ _ xs xs _ _ _ hx hoc).mono ?_
    rintro e w4 ⟨rfl, n, rfl⟩
    rw [beq_self_eq_true]
    go_wp2
    go_ret
    exact ⟨rfl, below_dn hB n⟩
  · have hM := HZ.out he
    have heb : (er != 0) = true := by simpa using he
    have hon := ho.bs.below (below_al (Below.refl w2.heap.size w2) (.cells #[.int .i64 kind, .int .u32 (number : Nat), .string ⟨name.toArray⟩, .int .i64 size, .int .i64 off, .int .u32 (sum : Nat), .int .i64 code, .slice A2 bytes.length c2] 25))
    have hsame : Msg.same ⟨kind, number, name, size, off, sum, code, bytes⟩ noMsg = true := by rw [hM]; rfl
    have HS := Lib.hid hsame
    clear hM hsame he
    go_wp2_with fail
    refine (psame_any ⟨kind, number, name, size, off, sum, code, bytes⟩ noMsg (.slice A2 bytes.length c2) (.slice none 0 0) _ _ (fun _ => True) hon (Sl.nil _ _ _)).mono ?_
    rintro e w3 ⟨rfl, hB3⟩
    rw [HS.out]
    go_wp2
    go_ret
    exact ⟨rfl, below_tr (below_al hB _) hB3⟩

theorem bs_take {w : World} {F : Nat → Prop} {A : Option Addr} {c : Nat} {xs : List UInt8} (h : Bs w F (.slice A xs.length c) xs) (j : Nat) (hj : j ≤ xs.length) : Bs w F (.slice A j c) (xs.take j) := by
  obtain ⟨h1, A', c', e, h2, h3, h4, h5⟩ := h
  cases e
  have hl : (xs.take j).length = j := by rw [List.length_take]; omega
  refine ⟨by simp [bvs], A, c, by rw [hl], by omega, h3, h4, fun hp => ?_⟩
  rw [hl] at hp
  obtain ⟨ad, e, hF, hat⟩ := h5 (by omega)
  refine ⟨ad, e, hF, fun i u hu => hat i u ?_⟩
  have hij : i < j := by
    have := (List.getElem?_eq_some_iff.1 hu).1
    simp only [bvs, List.length_map, List.length_take] at this; omega
  rw [← hu]
  simp only [bvs, List.map_take, List.getElem?_take, if_pos hij]

set_option maxRecDepth 100000 in
set_option maxHeartbeats 4000000 in
theorem back_walk (m : Msg) (vm : Value) (cut : Int) (w : World) (h : Bs w (· < w.heap.size) vm m.bytes) (hl : m.name.length ≤ 1048576) (hn : m.number < 4294967296) (hu : m.sum < 4294967296) (hc : -9223372036854775808 ≤ cut ∧ cut ≤ 9223372036854775807) :
    Calls Try.prog 6 #[.agg (m.cells vm).toArray, .int .i64 cut] w fun e w' => e = .returned (.bool true) ∧ Below w.heap.size w w' := by
  by_cases hok : m.ok
  · have h1 := dec_enc m hok hn hu
    have h2 := dec_pre m hok hn hu
    have hen := fun w F h => encode_good m vm w F h hok hn hu
    have hlen : 5 ≤ m.enc.length ∧ m.enc.length ≤ 100000 := enc_len m hok
    generalize hxs : m.enc = xs at *
    clear hxs
    have H1 := Lib.hid h1
    have H2 := Lib.hid h2
    have HEN := Lib.hid hen
    clear h1 h2 hen hok
    have hb := h
    obtain ⟨A, c, rfl, l1, l2, -, -⟩ := h.open_
    unfold maxLen at l2
    clear h
    obtain ⟨kind, number, name, size, off, sum, code, bytes⟩ := m
    unfold Msg.cells at HEN ⊢
    dsimp only at hl hn hu hb l1 HEN H1 H2 ⊢
    go_enter Try.func6, Try.ntmps6
    go_wp2_with fail
    obtain ⟨hm, hB0, hb1, hsz⟩ := box_one w (.cells #[.int .i64 kind, .int .u32 (number : Nat), .string ⟨name.toArray⟩, .int .i64 size, .int .i64 off, .int .u32 (sum : Nat), .int .i64 code, .slice A bytes.length c] 25) _ _ _ hb
    generalize w.alloc (.cells #[.int .i64 kind, .int .u32 (number : Nat), .string ⟨name.toArray⟩, .int .i64 size, .int .i64 off, .int .u32 (sum : Nat), .int .i64 code, .slice A bytes.length c] 25) = W at *
    clear hb
    have HB0 := Lib.hid hB0
    refine (wakes_any W).mono ?_
    rintro e w1 ⟨rfl, hB⟩
    have hm1 := heap_bl hB hm
    have c0 := cell_of hm1 0
    have c1 := cell_of hm1 1
    have c2 := cell_of hm1 2
    have c3 := cell_of hm1 3
    have c4 := cell_of hm1 4
    have c5 := cell_of hm1 5
    have c6 := cell_of hm1 6
    have c7 := cell_of hm1 7
    simp at c0 c1 c2 c3 c4 c5 c6 c7
    go_wp2_with fail
    clear c0 c1 c2 c3 c4 c5 c6 c7 hm1
    refine (HEN.out w1 _ (hb1.below hB)).mono ?_
    rintro e w2 ⟨vb, rfl, ho, hB2⟩
    replace ho := ho.low hB.size
    replace hB := below_tr hB hB2
    clear hB2
    have hbs := ho.bs
    obtain ⟨A2, c2, rfl, n1, n2, -, -⟩ := hbs.open_
    unfold maxLen at n2
    go_wp2_with fail
    refine (decode_any _ xs w2 _ hbs (by omega)).mono ?_
    rintro e w3 ⟨vd, rfl, hod, hB3⟩
    rw [H1.out.1, H1.out.2] at *
    replace ho := G.ob_fresh ho hB3
    replace hB := below_tr hB hB3
    clear hB3 hbs
    unfold Msg.cells
    dsimp only at hod ⊢
    have hds := hod.bs
    obtain ⟨A3, x3, rfl, -, -, -, -⟩ := hds.open_
    clear hds
    have r1 : 0 ≤ cut % (xs.length : Int) := Int.emod_nonneg _ (by omega)
    have r2 : cut % (xs.length : Int) < (xs.length : Int) := Int.emod_lt_of_pos _ (by omega)
    have hq : ∃ j : Nat, j < xs.length ∧ (if cut < 0 then 0 else (cut % (xs.length : Int)).toNat) = j := ⟨_, by split <;> omega, rfl⟩
    obtain ⟨j, hj, hje⟩ := hq
    have hfin : ∀ w' : World, Below w3.heap.size w3 w' → Bs w' (W.heap.size ≤ ·) (.slice A2 j c2) (xs.take j) := fun w' hb' => bs_take (G.ob_fresh ho hb').bs j (by omega)
    have HFIN := Lib.hid hfin
    have hpre := H2.out j hj
    have HPRE := Lib.hid hpre
    have hob := fun o => G.ob_fresh hod (below_al (Below.refl w3.heap.size w3) o)
    have HOB := Lib.hid hob
    have hm3 := heap_bl hB hm
    clear hfin hpre hob
    by_cases hneg : cut < 0
    · rw [if_pos hneg] at hje
      subst hje
      go_wp2_with fail
      refine (decode_any _ (xs.take 0) (w3.alloc (.cells #[.int .i64 kind, .int .u32 (number : Nat), .string ⟨name.toArray⟩, .int .i64 size, .int .i64 off, .int .u32 (sum : Nat), .int .i64 code, .slice A3 bytes.length x3] 25)) _ (HFIN.out _ (below_al (Below.refl _ _) _)) (by rw [List.length_take]; omega)).mono ?_
      rintro e w4 ⟨ve, rfl, hoe, hB4⟩
      rw [HPRE.out]
      generalize decM (xs.take 0) = mz at *
      have hes := hoe.bs
      obtain ⟨A4, x4, rfl, -, -, -, -⟩ := hes.open_
      clear hes hoe
      unfold Msg.cells
      dsimp only
      have hma := heap_bl hB4 (heap_al hm3 _)
      have hmd := heap_bl hB4 (heap_alloc_new w3 _)
      have k0 := fun o => cell_al (cell_of hma 0) o
      have k1 := fun o => cell_al (cell_of hma 1) o
      have k2 := fun o => cell_al (cell_of hma 2) o
      have k3 := fun o => cell_al (cell_of hma 3) o
      have k4 := fun o => cell_al (cell_of hma 4) o
      have k5 := fun o => cell_al (cell_of hma 5) o
      have k6 := fun o => cell_al (cell_of hma 6) o
      have k7 := fun o => cell_al (cell_of hma 7) o
      have q0 := fun o => cell_al (cell_of hmd 0) o
      have q1 := fun o => cell_al (cell_of hmd 1) o
      have q2 := fun o => cell_al (cell_of hmd 2) o
      have q3 := fun o => cell_al (cell_of hmd 3) o
      have q4 := fun o => cell_al (cell_of hmd 4) o
      have q5 := fun o => cell_al (cell_of hmd 5) o
      have q6 := fun o => cell_al (cell_of hmd 6) o
      have q7 := fun o => cell_al (cell_of hmd 7) o
      go_wp2_with fail
      clear k0 k1 k2 k3 k4 k5 k6 k7 q0 q1 q2 q3 q4 q5 q6 q7 hma hmd
      refine (psame_any ⟨kind, number, name, size, off, sum, code, bytes⟩ ⟨kind, number, name, size, off, sum, code, bytes⟩ (.slice A bytes.length c) (.slice A3 bytes.length x3) _ _ _
        (Bs.below (Bs.below (Bs.below (hb1.below hB) (below_al (Below.refl _ _) _)) hB4) (below_al (Below.refl _ _) _)) (Bs.below (Bs.below (HOB.out _).bs hB4) (below_al (Below.refl _ _) _))).mono ?_
      rintro e w5 ⟨rfl, hB5⟩
      rw [same_self]
      go_wp2
      go_ret
      exact ⟨rfl, below_tr HB0.out (below_tr hB (below_tr (below_tr (below_al (Below.refl _ _) _) (below_tr hB4 (below_al (Below.refl _ _) _))) hB5))⟩
    · rw [if_neg hneg] at hje
      go_wp2_with fail
      refine (decode_any _ (xs.take j) (w3.alloc (.cells #[.int .i64 kind, .int .u32 (number : Nat), .string ⟨name.toArray⟩, .int .i64 size, .int .i64 off, .int .u32 (sum : Nat), .int .i64 code, .slice A3 bytes.length x3] 25)) _ (HFIN.out _ (below_al (Below.refl _ _) _)) (by rw [List.length_take]; omega)).mono ?_
      rintro e w4 ⟨ve, rfl, hoe, hB4⟩
      rw [HPRE.out]
      generalize decM (xs.take j) = mz at *
      have hes := hoe.bs
      obtain ⟨A4, x4, rfl, -, -, -, -⟩ := hes.open_
      clear hes hoe
      unfold Msg.cells
      dsimp only
      have hma := heap_bl hB4 (heap_al hm3 _)
      have hmd := heap_bl hB4 (heap_alloc_new w3 _)
      have k0 := fun o => cell_al (cell_of hma 0) o
      have k1 := fun o => cell_al (cell_of hma 1) o
      have k2 := fun o => cell_al (cell_of hma 2) o
      have k3 := fun o => cell_al (cell_of hma 3) o
      have k4 := fun o => cell_al (cell_of hma 4) o
      have k5 := fun o => cell_al (cell_of hma 5) o
      have k6 := fun o => cell_al (cell_of hma 6) o
      have k7 := fun o => cell_al (cell_of hma 7) o
      have q0 := fun o => cell_al (cell_of hmd 0) o
      have q1 := fun o => cell_al (cell_of hmd 1) o
      have q2 := fun o => cell_al (cell_of hmd 2) o
      have q3 := fun o => cell_al (cell_of hmd 3) o
      have q4 := fun o => cell_al (cell_of hmd 4) o
      have q5 := fun o => cell_al (cell_of hmd 5) o
      have q6 := fun o => cell_al (cell_of hmd 6) o
      have q7 := fun o => cell_al (cell_of hmd 7) o
      go_wp2_with fail
      clear k0 k1 k2 k3 k4 k5 k6 k7 q0 q1 q2 q3 q4 q5 q6 q7 hma hmd
      refine (psame_any ⟨kind, number, name, size, off, sum, code, bytes⟩ ⟨kind, number, name, size, off, sum, code, bytes⟩ (.slice A bytes.length c) (.slice A3 bytes.length x3) _ _ _
        (Bs.below (Bs.below (Bs.below (hb1.below hB) (below_al (Below.refl _ _) _)) hB4) (below_al (Below.refl _ _) _)) (Bs.below (Bs.below (HOB.out _).bs hB4) (below_al (Below.refl _ _) _))).mono ?_
      rintro e w5 ⟨rfl, hB5⟩
      rw [same_self]
      go_wp2
      go_ret
      exact ⟨rfl, below_tr HB0.out (below_tr hB (below_tr (below_tr (below_al (Below.refl _ _) _) (below_tr hB4 (below_al (Below.refl _ _) _))) hB5))⟩
  · have hen := fun w F h => encode_bad m vm w F h (Nat.le_trans hl (by decide)) hok
    have HEN := Lib.hid hen
    clear hen hok
    have hb := h
    obtain ⟨A, c, rfl, l1, l2, -, -⟩ := h.open_
    unfold maxLen at l2
    clear h
    obtain ⟨kind, number, name, size, off, sum, code, bytes⟩ := m
    unfold Msg.cells at HEN ⊢
    dsimp only at hl hn hu hb l1 HEN ⊢
    go_enter Try.func6, Try.ntmps6
    go_wp2_with fail
    obtain ⟨hm, hB0, hb1, hsz⟩ := box_one w (.cells #[.int .i64 kind, .int .u32 (number : Nat), .string ⟨name.toArray⟩, .int .i64 size, .int .i64 off, .int .u32 (sum : Nat), .int .i64 code, .slice A bytes.length c] 25) _ _ _ hb
    generalize w.alloc (.cells #[.int .i64 kind, .int .u32 (number : Nat), .string ⟨name.toArray⟩, .int .i64 size, .int .i64 off, .int .u32 (sum : Nat), .int .i64 code, .slice A bytes.length c] 25) = W at *
    clear hb
    refine (wakes_any W).mono ?_
    rintro e w1 ⟨rfl, hB⟩
    have hm1 := heap_bl hB hm
    have c0 := cell_of hm1 0
    have c1 := cell_of hm1 1
    have c2 := cell_of hm1 2
    have c3 := cell_of hm1 3
    have c4 := cell_of hm1 4
    have c5 := cell_of hm1 5
    have c6 := cell_of hm1 6
    have c7 := cell_of hm1 7
    simp at c0 c1 c2 c3 c4 c5 c6 c7
    go_wp2_with fail
    clear c0 c1 c2 c3 c4 c5 c6 c7 hm1
    refine (HEN.out w1 _ (hb1.below hB)).mono ?_
    rintro e w2 ⟨rfl, hB2⟩
    go_wp2
    go_ret
    exact ⟨rfl, below_tr hB0 (below_tr hB hB2)⟩

end Go.Proofs.Ytmcldnfemlaeiaa
