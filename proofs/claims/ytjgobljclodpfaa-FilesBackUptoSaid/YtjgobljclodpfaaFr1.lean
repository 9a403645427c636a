/- Layer 5's reference: names, costs, places. No condition beyond sizes. -/
import Derived.Test.YtjgobljclodpfaaFi2
namespace Go.Proofs.Ytjgobljclodpfaa
open Go.RowKit Go.Shelf K L
set_option linter.unusedVariables false
set_option linter.unusedSimpArgs false

set_option maxHeartbeats 400000 in
theorem rname_any (s : List UInt8) (w : World) (hs : s.length ≤ 1000000000000) : Calls Try.prog 36 #[.string ⟨s.toArray⟩] w fun e w' => e = .returned (.bool (nmOk s)) ∧ w = w' := by
  go_enter Try.func36, Try.ntmps36
  by_cases h : 1 ≤ s.length
  · go_wp2
    go_ret
    exact ⟨ret_bool (by unfold nmOk; rw [Bool.eq_iff_iff]; simp; omega), rfl⟩
  · go_wp2
    go_ret
    exact ⟨ret_bool (by unfold nmOk; rw [Bool.eq_iff_iff]; simp; omega), rfl⟩

set_option maxHeartbeats 1000000 in
theorem rcost_any (v : Value) (es : List FE) (w : World) (F : Nat → Prop) (h : Fs w F v es) (hc : cost (fls es) ≤ 1000000000000) :
    Calls Try.prog 22 #[v] w fun e w' => e = .returned (.int .i64 (cost (fls es) : Nat)) ∧ Below w.heap.size w w' := by
  have hs := h
  obtain ⟨A, c, rfl, l1, l2⟩ := fs_form h
  clear h
  go_enter Try.func22, Try.ntmps22
  go_wp2
  go_loopw [3, 4] (fun n i wr => ∃ k : Nat, k ≤ es.length ∧ i = .int .i64 k ∧ n = .int .i64 (cost (fls (es.take k)) : Nat) ∧ Below w.heap.size w wr) (fun _ i _ => es.length - (intOf i).toNat)
  case atStart => exact ⟨0, Nat.zero_le _, rfl, rfl, Below.refl _ _⟩
  case round =>
    obtain ⟨k, hk, rfl, rfl, hB⟩ := hrel
    have hct := cost_fls_take es k
    by_cases hlt : k < es.length
    · have hsn := cost_take_snoc es k hlt
      have hct1 := cost_fls_take es (k + 1)
      obtain ⟨b, o, rfl, hb, c0, c1⟩ := fs_at (hs.below hB) k hlt
      have hvb := hs.2 es[k] (List.getElem_mem hlt)
      generalize es[k] = y at *
      obtain ⟨y, vb⟩ := y
      dsimp only at c0 c1 hsn hvb
      obtain ⟨A', c', rfl, -, -, -, -⟩ := hvb.open_
      have hsz := str_len y.name
      have hle : cost (fls (es.take k)) + (y.name.length + y.bytes.length) ≤ 1000000000000 := by omega
      have HSN := Lib.hid hsn
      have hw1 : IntKind.i64.wrap ((cost (fls (es.take k)) : Int) + (y.name.length : Int)) = (cost (fls (es.take k)) : Int) + (y.name.length : Int) := by rw [IntKind.wrap_i64]; omega
      have hw2 : IntKind.i64.wrap ((cost (fls (es.take k)) : Int) + (y.name.length : Int) + (y.bytes.length : Int)) = (cost (fls (es.take k)) : Int) + (y.name.length : Int) + (y.bytes.length : Int) := by rw [IntKind.wrap_i64]; omega
      clear hsn hvb
      go_wp2
      go_quiet (fail)
      clear hw1 hw2
      go_wp2
      exact ⟨⟨k + 1, by omega, by go_num, by rw [HSN.out]; go_num, below_dn hB _⟩, by simp only [intOf]; omega⟩
    · obtain rfl : k = es.length := by omega
      rw [List.take_length] at *
      go_wp2
      go_ret
      exact ⟨rfl, hB⟩

set_option maxRecDepth 100000 in
set_option maxHeartbeats 4000000 in
theorem right_any (v : Value) (es : List FE) (w : World) (F : Nat → Prop) (h : Fs w F v es) (hc : cost (fls es) ≤ 1000000000000) :
    Calls Try.prog 14 #[.agg #[v]] w fun e w' => e = .returned (.bool (okFs (fls es))) ∧ Below w.heap.size w w' := by
  have hs := h
  obtain ⟨A, c, rfl, l1, l2⟩ := fs_form h
  clear h
  obtain ⟨R, hR⟩ : ∃ r, okFs (fls es) = r := ⟨_, rfl⟩
  rw [hR]
  have HR := Lib.hid hR
  clear hR
  have hB0 : Below w.heap.size w (w.alloc (.cells #[.slice A es.length c] 24)) := below_al (Below.refl _ _) _
  have hm := heap_alloc_new w (.cells #[.slice A es.length c] 24)
  have hs0 := hs.below hB0
  have HM := Lib.hid hm
  have HB0 := Lib.hid hB0
  go_enter Try.func14, Try.ntmps14
  go_wp2
  generalize w.alloc (.cells #[.slice A es.length c] 24) = W at *
  clear hm hB0 hs
  go_loopw [3] (fun i wr => ∃ k : Nat, k ≤ es.length ∧ i = .int .i64 k ∧ Hid (okTo (fls es) k = true) ∧ Below W.heap.size W wr) (fun i _ => es.length - (intOf i).toNat)
  case atStart => exact ⟨0, Nat.zero_le _, rfl, Lib.hid (okTo_zero _), Below.refl _ _⟩
  case round =>
    obtain ⟨k, hk, rfl, HO, hB⟩ := hrel
    have HBr := Lib.hid hB
    have hmr := heap_bl hB HM.out
    have cm := cell_of hmr 0
    simp at cm
    have hwl : w.heap.size < wr.heap.size := (Array.getElem?_eq_some_iff.1 hmr).1
    by_cases hlt : k < es.length
    · obtain ⟨b, o, hA, hb, c0, c1⟩ := fs_at (hs0.below hB) k hlt
      subst hA
      have hvb := (hs0.below hB).2 es[k] (List.getElem_mem hlt)
      have hcl := cost_at es k hlt
      have hfl := fls_get es k hlt
      have hbad := @ok_bad (fls es) k (by rw [fls_len]; exact hlt)
      have hsucc := @okTo_succ (fls es) k (by rw [fls_len]; exact hlt) HO.out
      rw [hfl] at hbad hsucc
      have hprev : ∀ j (e : k = j + 1), ∃ p : List UInt8, wr.cell? ⟨b, o + j * 2, none⟩ = some (.string ⟨p.toArray⟩) ∧ (slt p es[k].1.name = false → okFs (fls es) = false) ∧ (flOk es[k].1 = true → slt p es[k].1.name = true → okTo (fls es) (k + 1) = true) := by
        intro j e
        obtain ⟨b', o', hA, -, d0, -⟩ := fs_at (hs0.below hB) j (by omega)
        cases hA
        refine ⟨_, d0, fun hs => ?_, fun h1 h2 => hsucc h1 fun j' e' => ?_⟩
        · subst e
          refine ok_fall (k := j) (by rw [fls_len]; exact hlt) ?_
          rw [fls_get es j (by omega), hfl]; exact hs
        · obtain rfl : j' = j := by omega
          rw [fls_get es j' (by omega)]; exact h2
      have HPREV := Lib.hid hprev
      have HBAD := Lib.hid hbad
      have HSUCC := Lib.hid hsucc
      clear hprev hbad hsucc hfl HO
      generalize es[k] = y at *
      obtain ⟨y, vb⟩ := y
      dsimp only at c0 c1 hvb hcl
      obtain ⟨A', c', rfl, -, -, -, -⟩ := hvb.open_
      clear hvb hB
      cases h1 : nmOk y.name
      · have HNM := Lib.hid (rname_any y.name · (by omega))
        rw [h1] at HNM
        have HE := Lib.hid (show R = false by rw [← HR.out, HBAD.out (by simp [flOk, h1])])
        go_wp2
        go_quiet ((go_at_call 36; exact quiet_eq (HNM.out _)))
        go_wp2
        go_ret
        exact ⟨by rw [HE.out]; rfl, below_tr HB0.out (below_dn HBr.out _)⟩
      have HNM := Lib.hid (rname_any y.name · (by omega))
      rw [h1] at HNM
      by_cases h2 : 4096 < y.bytes.length
      · have HE := Lib.hid (show R = false by rw [← HR.out, HBAD.out (by simp [flOk, h1]; omega)])
        have hd : decide (4096 < (y.bytes.length : Int)) = true := by rw [decide_eq_true_eq]; omega
        go_wp2
        go_quiet ((go_at_call 36; exact quiet_eq (HNM.out _)))
        go_wp2
        go_ret
        exact ⟨by rw [HE.out]; rfl, below_tr HB0.out (below_dn HBr.out _)⟩
      have hfo : flOk y = true := by simp [flOk, h1]; omega
      have HFO := Lib.hid hfo
      have hd : decide (4096 < (y.bytes.length : Int)) = false := by rw [decide_eq_false_iff_not]; omega
      clear hfo
      cases k with
      | zero =>
        have HN := Lib.hid (HSUCC.out HFO.out (fun j e => by omega))
        rw [Nat.zero_mul, Nat.add_zero] at c0 c1
        go_wp2
        go_quiet ((go_at_call 36; exact quiet_eq (HNM.out _)))
        go_wp2
        exact ⟨⟨1, by omega, rfl, HN, below_dn HBr.out _⟩, by simp only [intOf]; omega⟩
      | succ j =>
        obtain ⟨p, d0, q1, q2⟩ := HPREV.out j rfl
        have Q1 := Lib.hid q1
        have Q2 := Lib.hid (q2 HFO.out)
        have hw : IntKind.i64.wrap ((j : Int) + 1 - 1) = (j : Int) := by rw [IntKind.wrap_i64]; omega
        have hw0 : decide ((0 : Int) < (j : Int) + 1) = true := by rw [decide_eq_true_eq]; omega
        clear q1 q2
        cases h3 : Op.bytesLess p y.name
        · have HE := Lib.hid (show R = false by rw [← HR.out, Q1.out h3])
          go_wp2
          go_quiet ((go_at_call 36; exact quiet_eq (HNM.out _)))
          go_wp2
          go_ret
          exact ⟨by rw [HE.out]; rfl, below_tr HB0.out (below_dn HBr.out _)⟩
        · have HN := Lib.hid (Q2.out h3)
          go_wp2
          go_quiet ((go_at_call 36; exact quiet_eq (HNM.out _)))
          go_wp2
          exact ⟨⟨j + 1 + 1, by omega, by go_num, HN, below_dn HBr.out _⟩, by simp only [intOf]; omega⟩
    · obtain rfl : k = es.length := by omega
      have hend := okTo_end (l := fls es) (by rw [fls_len]; exact HO.out)
      rw [fls_len] at hend
      by_cases h64 : es.length ≤ 64
      · have h64' : decide (es.length ≤ 64) = true := by rw [decide_eq_true_eq]; omega
        rw [h64', Bool.true_and] at hend
        have HEND := Lib.hid hend
        clear hend h64'
        go_wp2_with fail
        refine (rcost_any _ es _ _ (hs0.below hB) hc).mono ?_
        rintro e w' ⟨rfl, hb⟩
        by_cases h5 : cost (fls es) ≤ 32768
        · have HE := Lib.hid (show R = true by rw [← HR.out, HEND.out, decide_eq_true h5])
          go_wp2
          go_ret
          exact ⟨ret_bool (by rw [HE.out, decide_eq_true_eq]; omega), below_tr HB0.out (below_tr HBr.out hb)⟩
        · have HE := Lib.hid (show R = false by rw [← HR.out, HEND.out, decide_eq_false h5])
          go_wp2
          go_ret
          exact ⟨ret_bool (by rw [HE.out, decide_eq_false_iff_not]; omega), below_tr HB0.out (below_tr HBr.out hb)⟩
      · have h64' : decide (es.length ≤ 64) = false := by rw [decide_eq_false_iff_not]; omega
        rw [h64', Bool.false_and] at hend
        have HE := Lib.hid (show R = false by rw [← HR.out, hend])
        clear hend h64'
        go_wp2
        go_ret
        exact ⟨by rw [HE.out]; rfl, below_tr HB0.out HBr.out⟩

set_option maxRecDepth 100000 in
set_option maxHeartbeats 4000000 in
theorem rplace_any (nm : List UInt8) (v : Value) (es : List FE) (w : World) (F : Nat → Prop) (h : Fs w F v es) :
    Calls Try.prog 24 #[.agg #[v], .string ⟨nm.toArray⟩] w fun e w' => e = .returned (.tuple #[.int .i64 (place (fls es) nm : Nat), .bool (there (fls es) nm)]) ∧ Below w.heap.size w w' := by
  have hs := h
  obtain ⟨A, c, rfl, l1, l2⟩ := fs_form h
  clear h
  obtain ⟨P, hP⟩ : ∃ p, place (fls es) nm = p := ⟨_, rfl⟩
  obtain ⟨T, hT⟩ : ∃ t, there (fls es) nm = t := ⟨_, rfl⟩
  rw [hP, hT]
  have HP := Lib.hid hP
  have HT := Lib.hid hT
  clear hP hT
  have hB0 : Below w.heap.size w (w.alloc (.cells #[.slice A es.length c] 24)) := below_al (Below.refl _ _) _
  have hm := heap_alloc_new w (.cells #[.slice A es.length c] 24)
  have hs0 := hs.below hB0
  have HM := Lib.hid hm
  have HB0 := Lib.hid hB0
  go_enter Try.func24, Try.ntmps24
  go_wp2
  generalize w.alloc (.cells #[.slice A es.length c] 24) = W at *
  clear hm hB0 hs
  go_loopw [6] (fun i wr => ∃ k : Nat, k ≤ es.length ∧ i = .int .i64 k ∧ Hid (∀ (j : Nat) (h : j < (fls es).length), j < k → slt (fls es)[j].name nm = true) ∧ Below W.heap.size W wr) (fun i _ => es.length - (intOf i).toNat)
  case atStart => exact ⟨0, Nat.zero_le _, rfl, Lib.hid (fun j h hj => by omega), Below.refl _ _⟩
  case round =>
    obtain ⟨k, hk, rfl, HO, hB⟩ := hrel
    have HBr := Lib.hid hB
    have hmr := heap_bl hB HM.out
    have cm := cell_of hmr 0
    simp at cm
    have hwl : w.heap.size < wr.heap.size := (Array.getElem?_eq_some_iff.1 hmr).1
    by_cases hlt : k < es.length
    · obtain ⟨b, o, hA, hb, c0, c1⟩ := fs_at (hs0.below hB) k hlt
      subst hA
      have hfl := fls_get es k hlt
      have hpl : slt es[k].1.name nm = false → place (fls es) nm = k := fun hf => place_of _ _ _ (by rw [fls_len]; exact hk) (fun j h hj => HO.out j h hj) (fun h => by rw [hfl]; exact hf)
      have hth : slt es[k].1.name nm = false → there (fls es) nm = (es[k].1.name == nm) := fun hf => by
        have h1 := hpl hf
        have := there_eq (fls es) nm (by rw [h1, fls_len]; exact hlt)
        simp only [h1, hfl] at this
        exact this
      have hnx : slt es[k].1.name nm = true → ∀ (j : Nat) (h : j < (fls es).length), j < k + 1 → slt (fls es)[j].name nm = true := fun hf j h hj => by
        by_cases e : j = k
        · subst e; rw [hfl]; exact hf
        · exact HO.out j h (by omega)
      have HPL := Lib.hid hpl
      have HTH := Lib.hid hth
      have HNX := Lib.hid hnx
      clear hpl hth hnx hfl HO
      generalize es[k] = y at *
      obtain ⟨y, vb⟩ := y
      dsimp only at c0 c1 HPL HTH HNX
      cases h3 : Op.bytesLess y.name nm
      · have E1 := Lib.hid (show P = k by rw [← HP.out, HPL.out h3])
        have E2 := Lib.hid (show T = (y.name == nm) by rw [← HT.out, HTH.out h3])
        clear HPL HTH HNX
        go_wp2
        go_quiet (fail)
        go_wp2
        go_ret2
        exact ⟨by rw [E1.out, E2.out]; rfl, below_tr HB0.out (below_dn HBr.out _)⟩
      · have E1 := Lib.hid (HNX.out h3)
        clear HPL HTH HNX
        go_wp2
        exact ⟨⟨k + 1, by omega, by go_num, E1, HBr.out⟩, by simp only [intOf]; omega⟩
    · obtain rfl : k = es.length := by omega
      have hpl : place (fls es) nm = es.length := place_of _ _ _ (by rw [fls_len]; exact Nat.le_refl _) (fun j h hj => HO.out j h hj) (fun h => absurd h (by rw [fls_len]; omega))
      have E1 := Lib.hid (show P = es.length by rw [← HP.out, hpl])
      have E2 := Lib.hid (show T = false by rw [← HT.out, there_no _ _ (by rw [hpl, fls_len]; omega)])
      clear hpl HO
      go_wp2
      go_quiet (fail)
      go_wp2
      go_ret2
      exact ⟨by rw [E1.out, E2.out]; rfl, below_tr HB0.out (below_dn HBr.out _)⟩

end Go.Proofs.Ytjgobljclodpfaa
