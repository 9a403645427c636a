/- Layer 5's reference and law: files held against each other; how large they are. No condition beyond sizes. -/
import Derived.Test.YtjgobljclodpfaaFi4
import Derived.Test.YtjgobljclodpfaaFr1
namespace Go.Proofs.Ytjgobljclodpfaa
open Go.RowKit Go.Shelf K L
set_option linter.unusedVariables false
set_option linter.unusedSimpArgs false

set_option maxRecDepth 100000 in
set_option maxHeartbeats 4000000 in
theorem rsame_any (v1 v2 : Value) (es gs : List FE) (w : World) (F G : Nat → Prop) (h : Fs w F v1 es) (g : Fs w G v2 gs) :
    Calls Try.prog 16 #[.agg #[v1], .agg #[v2]] w fun e w' => e = .returned (.bool (decide (fls es = fls gs))) ∧ Below w.heap.size w w' := by
  have hB0 := below_al (below_al (Below.refl w.heap.size w) (.cells #[v1] 24)) (.cells #[v2] 24)
  have hm1 := heap_al (heap_alloc_new w (.cells #[v1] 24)) (.cells #[v2] 24)
  have hm2 := heap_alloc_new (w.alloc (.cells #[v1] 24)) (.cells #[v2] 24)
  rw [World.size_alloc] at hm2
  have hs := h.below hB0
  have gs' := g.below hB0
  obtain ⟨A, c, rfl, l1, l2⟩ := fs_form h
  obtain ⟨B, d, rfl, m1, m2⟩ := fs_form g
  clear h g
  obtain ⟨R, hR⟩ : ∃ r, decide (fls es = fls gs) = r := ⟨_, rfl⟩
  rw [hR]
  have HR := Lib.hid hR
  have HB0 := Lib.hid hB0
  have HM1 := Lib.hid hm1
  have HM2 := Lib.hid hm2
  clear hR hB0 hm1 hm2
  by_cases hl : es.length = gs.length
  · have HL := Lib.hid hl
    have hlb : ((es.length : Int) != (gs.length : Int)) = false := by simp; omega
    have hle : gs.length ≤ es.length := by omega
    have hge : es.length ≤ gs.length := by omega
    clear hl
    go_enter Try.func16, Try.ntmps16
    go_wp2
    clear hlb
    generalize (w.alloc (.cells #[.slice A es.length c] 24)).alloc (.cells #[.slice B gs.length d] 24) = W at *
    go_loopw [5] (fun i wr => ∃ k : Nat, k ≤ es.length ∧ i = .int .i64 k ∧ Hid (∀ (j : Nat) (h1 : j < es.length) (h2 : j < gs.length), j < k → es[j].1 = gs[j].1) ∧ Below W.heap.size W wr) (fun i _ => es.length - (intOf i).toNat)
    case atStart => exact ⟨0, Nat.zero_le _, rfl, Lib.hid (fun j _ _ h => by omega), Below.refl _ _⟩
    case round =>
      obtain ⟨k, hk, rfl, HO, hB⟩ := hrel
      have HB := Lib.hid hB
      have q1 := cell_of (heap_bl hB HM1.out) 0
      have q2 := cell_of (heap_bl hB HM2.out) 0
      simp at q1 q2
      by_cases hlt : k < es.length
      · have hlt2 : k < gs.length := by omega
        obtain ⟨b, o, hA, hb, c0, c1⟩ := fs_at (hs.below hB) k hlt
        obtain ⟨b', o', hA', hb', d0, d1⟩ := fs_at (gs'.below hB) k hlt2
        subst hA hA'
        have hv1 := (hs.below hB).2 es[k] (List.getElem_mem hlt)
        have hv2 := (gs'.below hB).2 gs[k] (List.getElem_mem hlt2)
        have hno : es[k].1 ≠ gs[k].1 → R = false := fun h => by rw [← HR.out, decide_eq_false (fls_ne_at hlt hlt2 h)]
        have hyes : es[k].1 = gs[k].1 → ∀ (j : Nat) (h1 : j < es.length) (h2 : j < gs.length), j < k + 1 → es[j].1 = gs[j].1 := fun h j h1 h2 hj => by
          by_cases e : j = k
          · subst e; exact h
          · exact HO.out j h1 h2 (by omega)
        have HNO := Lib.hid hno
        have HYES := Lib.hid hyes
        clear hno hyes HO hB
        have hfe := fl_eq es[k].1 gs[k].1
        generalize es[k] = y at *
        generalize gs[k] = z at *
        obtain ⟨y, vy⟩ := y
        obtain ⟨z, vz⟩ := z
        dsimp only at c0 c1 d0 d1 hv1 hv2 HNO HYES hfe
        have HV1 := Lib.hid hv1
        have HV2 := Lib.hid hv2
        have HFE := Lib.hid hfe
        obtain ⟨Ay, cy, rfl, -⟩ := hv1.open_
        obtain ⟨Az, cz, rfl, -⟩ := hv2.open_
        clear hv1 hv2 hfe
        cases h1 : y.name == z.name
        · have hne : y ≠ z := by have := HFE.out; rw [h1, Bool.false_and, decide_eq_false_iff_not] at this; exact this
          have HN := Lib.hid (HNO.out hne)
          clear hne HNO HYES
          go_wp2
          go_quiet (fail)
          go_wp2
          go_ret
          exact ⟨by rw [HN.out]; rfl, below_tr HB0.out (below_dn HB.out _)⟩
        · cases h2 : y.bytes == z.bytes
          · have hne : y ≠ z := by have := HFE.out; rw [h1, h2, Bool.true_and, decide_eq_false_iff_not] at this; exact this
            have HN := Lib.hid (HNO.out hne)
            have HC := Lib.hid (fun n => same_any (.slice Ay y.bytes.length cy) (.slice Az z.bytes.length cz) y.bytes z.bytes (wr.drewN n) _ _ (HV1.out.below (below_dn (Below.refl _ _) n)) (HV2.out.below (below_dn (Below.refl _ _) n)))
            rw [h2] at HC
            clear hne HNO HYES
            go_wp2
            go_quiet ((go_at_call 25; exact Calls.quiet_of (HC.out _)))
            go_wp2
            go_ret
            exact ⟨by rw [HN.out]; rfl, below_tr HB0.out (below_dn HB.out _)⟩
          · have he : y = z := by have := HFE.out; rw [h1, h2, Bool.true_and, decide_eq_true_eq] at this; exact this
            have HN := Lib.hid (HYES.out he)
            have HC := Lib.hid (fun n => same_any (.slice Ay y.bytes.length cy) (.slice Az z.bytes.length cz) y.bytes z.bytes (wr.drewN n) _ _ (HV1.out.below (below_dn (Below.refl _ _) n)) (HV2.out.below (below_dn (Below.refl _ _) n)))
            rw [h2] at HC
            clear he HNO HYES
            go_wp2
            go_quiet ((go_at_call 25; exact Calls.quiet_of (HC.out _)))
            go_wp2
            exact ⟨⟨k + 1, by omega, by go_num, HN, below_dn HB.out _⟩, by simp only [intOf]; omega⟩
      · obtain rfl : k = es.length := by omega
        have HE := Lib.hid (show R = true by rw [← HR.out, decide_eq_true (fls_eq_of HL.out fun j h1 h2 => HO.out j h1 h2 h1)])
        go_wp2
        go_ret
        exact ⟨by rw [HE.out]; rfl, below_tr HB0.out HB.out⟩
  · have HE := Lib.hid (show R = false by rw [← HR.out, decide_eq_false (fun e => hl (by have := congrArg List.length e; simpa [fls] using this))])
    have hlb : ((es.length : Int) != (gs.length : Int)) = true := by simp; omega
    go_enter Try.func16, Try.ntmps16
    go_wp2
    go_ret
    exact ⟨by rw [HE.out]; rfl, HB0.out⟩

/-- How large: the sum, till it is too great. -/
def lsum (l : List Fl) : Nat := (l.map fun x => min x.bytes.length 1048576).sum
theorem lsum_snoc (l : List Fl) (x : Fl) : lsum (l ++ [x]) = lsum l + min x.bytes.length 1048576 := by simp [lsum]
theorem lsum_take (es : List FE) (k : Nat) (h : k < es.length) : lsum (fls (es.take (k + 1))) = lsum (fls (es.take k)) + min es[k].1.bytes.length 1048576 := by
  rw [fls_take_snoc es k h, lsum_snoc]
theorem lsum_le (es : List FE) (k : Nat) : lsum (fls (es.take k)) ≤ lsum (fls es) := by
  have : fls (es.take k) = (fls es).take k := by simp [fls, List.map_take]
  rw [this]
  have h : lsum (fls es) = lsum ((fls es).take k) + lsum ((fls es).drop k) := by
    conv => lhs; rw [← List.take_append_drop k (fls es)]
    unfold lsum
    rw [List.map_append, List.sum_append]
  omega
def big (l : List Fl) : Bool := decide (1048576 < lsum l) || decide (500 < l.length)

set_option maxHeartbeats 2000000 in
theorem large_any (v : Value) (es : List FE) (w : World) (F : Nat → Prop) (h : Fs w F v es) :
    Calls Try.prog 11 #[.agg #[v]] w fun e w' => e = .returned (.bool (big (fls es))) ∧ Below w.heap.size w w' := by
  have hB0 := below_al (Below.refl w.heap.size w) (.cells #[v] 24)
  have hm := heap_alloc_new w (.cells #[v] 24)
  have hs := h.below hB0
  obtain ⟨A, c, rfl, l1, l2⟩ := fs_form h
  obtain ⟨R, hR⟩ : ∃ r, big (fls es) = r := ⟨_, rfl⟩
  rw [hR]
  have HR := Lib.hid hR
  have HB0 := Lib.hid hB0
  have HM := Lib.hid hm
  clear h hR hB0 hm
  go_enter Try.func11, Try.ntmps11
  go_wp2
  generalize w.alloc (.cells #[.slice A es.length c] 24) = W at *
  go_loopw [3, 9] (fun n i wr => ∃ k : Nat, k ≤ es.length ∧ i = .int .i64 k ∧ n = .int .i64 (lsum (fls (es.take k)) : Nat) ∧ lsum (fls (es.take k)) ≤ 1048576 ∧ Below W.heap.size W wr) (fun _ i _ => es.length - (intOf i).toNat)
  case atStart => exact ⟨0, Nat.zero_le _, rfl, rfl, Nat.zero_le _, Below.refl _ _⟩
  case round =>
    obtain ⟨k, hk, rfl, rfl, hle, hB⟩ := hrel
    have HB := Lib.hid hB
    have hmr := heap_bl hB HM.out
    have q := cell_of hmr 0
    simp at q
    by_cases hlt : k < es.length
    · have hsn := lsum_take es k hlt
      have hct1 := lsum_le es (k + 1)
      obtain ⟨b, o, rfl, hb, c0, c1⟩ := fs_at (hs.below hB) k hlt
      have hvb := (hs.below hB).2 es[k] (List.getElem_mem hlt)
      generalize es[k] = y at *
      obtain ⟨y, vb⟩ := y
      dsimp only at c0 c1 hsn hvb
      obtain ⟨A', c', rfl, z0, z1, -, -⟩ := hvb.open_
      have z2 : y.bytes.length ≤ 9223372036854775807 := by unfold maxLen at z1; omega
      have HB1 := Lib.hid (below_al HB.out (.cells #[.string ⟨y.name.toArray⟩, .slice A' y.bytes.length c'] 40))
      obtain ⟨mn, hmn⟩ : ∃ m : Nat, min y.bytes.length 1048576 = m := ⟨_, rfl⟩
      have hmn' : (if (1048576 : Int) < (y.bytes.length : Int) then (1048576 : Int) else (y.bytes.length : Int)) = (mn : Int) := by rw [← hmn]; split <;> omega
      have hmn2 : mn ≤ 1048576 := by omega
      rw [hmn] at hsn
      by_cases hgt : 1048576 < lsum (fls (es.take k)) + mn
      · have HE := Lib.hid (show R = true by rw [← HR.out, big, decide_eq_true (by omega), Bool.true_or])
        clear hsn hmn
        go_wp2
        go_ret
        exact ⟨by rw [HE.out]; rfl, below_tr HB0.out HB1.out⟩
      · have HSN := Lib.hid hsn
        clear hsn hmn
        go_wp2
        exact ⟨⟨k + 1, by omega, by go_num, by rw [HSN.out]; go_num, by rw [HSN.out]; omega, HB1.out⟩, by simp only [intOf]; omega⟩
    · obtain rfl : k = es.length := by omega
      rw [List.take_length] at hle
      have HE := Lib.hid (show R = decide (500 < es.length) by rw [← HR.out, big, decide_eq_false (by omega), Bool.false_or, fls_len])
      go_wp2
      go_ret
      exact ⟨ret_bool (by rw [HE.out, Bool.eq_iff_iff]; simp; omega), below_tr HB0.out HB.out⟩

end Go.Proofs.Ytjgobljclodpfaa
