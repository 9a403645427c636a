/- Layer 5's walks: what files cost, whether they are files. No condition beyond sizes. -/
import Derived.Test.YtjgobljclodpfaaFi1
namespace Go.Proofs.Ytjgobljclodpfaa
open Go.RowKit Go.Shelf K L
set_option linter.unusedVariables false
set_option linter.unusedSimpArgs false

/-- A slice value of files, as an aggregate: its form. -/
theorem fs_form {w : World} {F : Nat → Prop} {v : Value} {es : List FE} (h : Fs w F v es) : ∃ A c, v = .slice A es.length c ∧ es.length ≤ c ∧ c ≤ 9223372036854775807 := by
  obtain ⟨⟨-, A, c, rfl, l1, l2, -, -⟩, -⟩ := h
  exact ⟨A, c, rfl, l1, by simpa [maxLen] using l2⟩
theorem fls_take_snoc (es : List FE) (k : Nat) (h : k < es.length) : fls (es.take (k + 1)) = fls (es.take k) ++ [es[k].1] := by
  unfold fls; rw [take_snoc es k h, List.map_append]; rfl
theorem cost_take_snoc (es : List FE) (k : Nat) (h : k < es.length) : cost (fls (es.take (k + 1))) = cost (fls (es.take k)) + (es[k].1.name.length + es[k].1.bytes.length) := by
  rw [fls_take_snoc es k h, cost_snoc]; rfl
theorem cost_fls_take (es : List FE) (k : Nat) : cost (fls (es.take k)) ≤ cost (fls es) := by
  have : fls (es.take k) = (fls es).take k := by simp [fls, List.map_take]
  rw [this]; exact cost_take _ _

set_option maxHeartbeats 1000000 in
theorem cost_any (v : Value) (es : List FE) (w : World) (F : Nat → Prop) (h : Fs w F v es) (hc : cost (fls es) ≤ 1000000000000) :
    Calls Try.prog 21 #[.agg #[v]] w fun e w' => e = .returned (.int .i64 (cost (fls es) : Nat)) ∧ Below w.heap.size w w' := by
  have hs := h
  obtain ⟨A, c, rfl, l1, l2⟩ := fs_form h
  clear h
  go_enter Try.func21, Try.ntmps21
  go_wp2
  go_loopw [3, 9] (fun n i wr => ∃ k : Nat, k ≤ es.length ∧ i = .int .i64 k ∧ n = .int .i64 (cost (fls (es.take k)) : Nat) ∧ Below w.heap.size w wr) (fun _ i _ => es.length - (intOf i).toNat)
  case atStart => exact ⟨0, Nat.zero_le _, rfl, rfl, (Below.refl _ _).alloc (Nat.le_refl _) _⟩
  case round =>
    obtain ⟨k, hk, rfl, rfl, hB⟩ := hrel
    have hct := cost_fls_take es k
    by_cases hlt : k < es.length
    · have hsn := cost_take_snoc es k hlt
      have hct1 := cost_fls_take es (k + 1)
      obtain ⟨b, o, rfl, hb, c0, c1⟩ := fs_at (hs.below hB) k hlt
      have hvb := hs.2 es[k] (List.getElem_mem hlt)
      generalize es[k] = y at *
      obtain ⟨y, vb⟩ := y
      dsimp only at c0 c1 hsn hvb
      obtain ⟨A', c', rfl, -, -, -, -⟩ := hvb.open_
      have hsz := str_len y.name
      have HSN := Lib.hid hsn
      have hle : cost (fls (es.take k)) + (y.name.length + y.bytes.length) ≤ 1000000000000 := by omega
      clear hsn hvb
      go_wp2
      exact ⟨⟨k + 1, by omega, by go_num, by rw [HSN.out]; go_num, below_al hB _⟩, by simp only [intOf]; omega⟩
    · obtain rfl : k = es.length := by omega
      rw [List.take_length] at *
      go_wp2
      go_ret
      exact ⟨rfl, hB⟩

theorem cost_at (es : List FE) (k : Nat) (h : k < es.length) : es[k].1.name.length + es[k].1.bytes.length ≤ cost (fls es) := by
  have h1 := cost_take_snoc es k h
  have h2 := cost_fls_take es (k + 1)
  omega
theorem fls_get (es : List FE) (k : Nat) (h : k < es.length) : (fls es)[k]'(by simpa [fls] using h) = es[k].1 := by simp [fls]
theorem fls_len (es : List FE) : (fls es).length = es.length := by simp [fls]

set_option maxRecDepth 100000 in
set_option maxHeartbeats 4000000 in
theorem check_any (v : Value) (es : List FE) (w : World) (F : Nat → Prop) (h : Fs w F v es) (hc : cost (fls es) ≤ 1000000000000) :
    Calls Try.prog 17 #[.agg #[v]] w fun e w' => e = .returned (.int .i64 (ckErr (fls es))) ∧ Below w.heap.size w w' := by
  have hs := h
  obtain ⟨A, c, rfl, l1, l2⟩ := fs_form h
  clear h
  obtain ⟨R, hR⟩ : ∃ r, ckErr (fls es) = r := ⟨_, rfl⟩
  rw [hR]
  have HR := Lib.hid hR
  clear hR
  by_cases h64 : 64 < es.length
  · have HE := Lib.hid (show R = 150 by rw [← HR.out, ckErr, ok_long (by rw [fls_len]; exact h64)]; rfl)
    go_enter Try.func17, Try.ntmps17
    go_wp2
    go_ret
    exact ⟨by rw [HE.out]; rfl, (Below.refl _ _).alloc (Nat.le_refl _) _⟩
  have hB0 : Below w.heap.size w (w.alloc (.cells #[.slice A es.length c] 24)) := below_al (Below.refl _ _) _
  have hm := heap_alloc_new w (.cells #[.slice A es.length c] 24)
  have hs0 := hs.below hB0
  have HM := Lib.hid hm
  have HB0 := Lib.hid hB0
  go_enter Try.func17, Try.ntmps17
  go_wp2
  generalize w.alloc (.cells #[.slice A es.length c] 24) = W at *
  clear hm hB0 hs
  go_loopw [3, 12] (fun _ i wr => ∃ k : Nat, k ≤ es.length ∧ i = .int .i64 k ∧ Hid (okTo (fls es) k = true) ∧ Below W.heap.size W wr) (fun _ i _ => es.length - (intOf i).toNat)
  case atStart => exact ⟨0, Nat.zero_le _, rfl, Lib.hid (okTo_zero _), Below.refl _ _⟩
  case round =>
    obtain ⟨k, hk, rfl, HO, hB⟩ := hrel
    have HBr := Lib.hid hB
    have hmr := heap_bl hB HM.out
    have cm := cell_of hmr 0
    simp at cm
    have hwl : w.heap.size < wr.heap.size := (Array.getElem?_eq_some_iff.1 hmr).1
    by_cases hlt : k < es.length
    · obtain ⟨b, o, hA, hb, c0, c1⟩ := fs_at (hs0.below hB) k hlt
      subst hA
      have hvb := (hs0.below hB).2 es[k] (List.getElem_mem hlt)
      have hcl := cost_at es k hlt
      have hfl := fls_get es k hlt
      have hbad := @ok_bad (fls es) k (by rw [fls_len]; exact hlt)
      have hsucc := @okTo_succ (fls es) k (by rw [fls_len]; exact hlt) HO.out
      rw [hfl] at hbad hsucc
      have hprev : ∀ j (e : k = j + 1), ∃ p : List UInt8, wr.cell? ⟨b, o + j * 2, none⟩ = some (.string ⟨p.toArray⟩) ∧ (slt p es[k].1.name = false → okFs (fls es) = false) ∧ (flOk es[k].1 = true → slt p es[k].1.name = true → okTo (fls es) (k + 1) = true) := by
        intro j e
        obtain ⟨b', o', hA, -, d0, -⟩ := fs_at (hs0.below hB) j (by omega)
        cases hA
        refine ⟨_, d0, fun hs => ?_, fun h1 h2 => hsucc h1 fun j' e' => ?_⟩
        · subst e
          refine ok_fall (k := j) (by rw [fls_len]; exact hlt) ?_
          rw [fls_get es j (by omega), hfl]; exact hs
        · obtain rfl : j' = j := by omega
          rw [fls_get es j' (by omega)]; exact h2
      have HPREV := Lib.hid hprev
      have HBAD := Lib.hid hbad
      have HSUCC := Lib.hid hsucc
      clear hprev hbad hsucc hfl HO
      generalize es[k] = y at *
      obtain ⟨y, vb⟩ := y
      dsimp only at c0 c1 hvb hcl
      obtain ⟨A', c', rfl, -, -, -, -⟩ := hvb.open_
      have HBN := Lib.hid (below_al HBr.out (.cells #[.string ⟨y.name.toArray⟩, .slice A' y.bytes.length c'] 40))
      clear hvb hB
      cases h1 : nmOk y.name
      · have HNM := Lib.hid (name_any y.name · (by omega))
        rw [h1] at HNM
        have HE := Lib.hid (show R = 150 by rw [← HR.out, ckErr, HBAD.out (by simp [flOk, h1])]; rfl)
        go_wp2
        go_quiet ((go_at_call 38; exact quiet_eq (HNM.out _)))
        go_wp2
        go_ret
        exact ⟨by rw [HE.out]; rfl, below_tr HB0.out (below_dn HBN.out _)⟩
      have HNM := Lib.hid (name_any y.name · (by omega))
      rw [h1] at HNM
      by_cases h2 : 4096 < y.bytes.length
      · have HE := Lib.hid (show R = 150 by rw [← HR.out, ckErr, HBAD.out (by simp [flOk, h1]; omega)]; rfl)
        have hd : decide (4096 < (y.bytes.length : Int)) = true := by rw [decide_eq_true_eq]; omega
        go_wp2
        go_quiet ((go_at_call 38; exact quiet_eq (HNM.out _)))
        go_wp2
        go_ret
        exact ⟨by rw [HE.out]; rfl, below_tr HB0.out (below_dn HBN.out _)⟩
      have hfo : flOk y = true := by simp [flOk, h1]; omega
      have HFO := Lib.hid hfo
      have hd : decide (4096 < (y.bytes.length : Int)) = false := by rw [decide_eq_false_iff_not]; omega
      clear hfo
      cases k with
      | zero =>
        have HN := Lib.hid (HSUCC.out HFO.out (fun j e => by omega))
        rw [Nat.zero_mul, Nat.add_zero] at c0 c1
        go_wp2
        go_quiet ((go_at_call 38; exact quiet_eq (HNM.out _)))
        go_wp2
        exact ⟨⟨1, by omega, rfl, HN, below_dn HBN.out _⟩, by simp only [intOf]; omega⟩
      | succ j =>
        obtain ⟨p, d0, q1, q2⟩ := HPREV.out j rfl
        have Q1 := Lib.hid q1
        have Q2 := Lib.hid (q2 HFO.out)
        have hw : IntKind.i64.wrap ((j : Int) + 1 - 1) = (j : Int) := by rw [IntKind.wrap_i64]; omega
        have hw0 : decide ((0 : Int) < (j : Int) + 1) = true := by rw [decide_eq_true_eq]; omega
        clear q1 q2
        cases h3 : Op.bytesLess p y.name
        · have HE := Lib.hid (show R = 150 by rw [← HR.out, ckErr, Q1.out h3]; rfl)
          go_wp2
          go_quiet ((go_at_call 38; exact quiet_eq (HNM.out _)))
          go_wp2
          go_ret
          exact ⟨by rw [HE.out]; rfl, below_tr HB0.out (below_dn HBN.out _)⟩
        · have HN := Lib.hid (Q2.out h3)
          go_wp2
          go_quiet ((go_at_call 38; exact quiet_eq (HNM.out _)))
          go_wp2
          exact ⟨⟨j + 1 + 1, by omega, by go_num, HN, below_dn HBN.out _⟩, by simp only [intOf]; omega⟩
    · obtain rfl : k = es.length := by omega
      have hend := okTo_end (l := fls es) (by rw [fls_len]; exact HO.out)
      rw [fls_len] at hend
      have h64' : decide (es.length ≤ 64) = true := by rw [decide_eq_true_eq]; omega
      rw [h64', Bool.true_and] at hend
      have HEND := Lib.hid hend
      clear hend h64'
      go_wp2_with fail
      refine (cost_any _ es _ _ (hs0.below hB) hc).mono ?_
      rintro e w' ⟨rfl, hb⟩
      by_cases h5 : cost (fls es) ≤ 32768
      · have HE := Lib.hid (show R = 0 by rw [← HR.out, ckErr, HEND.out, decide_eq_true h5]; rfl)
        go_wp2
        go_ret
        exact ⟨by rw [HE.out]; rfl, below_tr HB0.out (below_tr HBr.out hb)⟩
      · have HE := Lib.hid (show R = 150 by rw [← HR.out, ckErr, HEND.out, decide_eq_false h5]; rfl)
        go_wp2
        go_ret
        exact ⟨by rw [HE.out]; rfl, below_tr HB0.out (below_tr HBr.out hb)⟩

end Go.Proofs.Ytjgobljclodpfaa
