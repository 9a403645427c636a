/- Layer 5's walks: files held against each other; a file's bytes; its place. No condition beyond sizes. -/
import Derived.Test.YtjgobljclodpfaaFi3
namespace Go.Proofs.Ytjgobljclodpfaa
open Go.RowKit Go.Shelf K L
set_option linter.unusedVariables false
set_option linter.unusedSimpArgs false

theorem fl_eq (x y : Fl) : decide (x = y) = ((x.name == y.name) && (x.bytes == y.bytes)) := by
  obtain ⟨a, b⟩ := x
  obtain ⟨c, d⟩ := y
  rw [Bool.eq_iff_iff]
  simp

set_option maxHeartbeats 1000000 in
theorem same1_any (x y : Fl) (vx vy : Value) (w : World) (F G : Nat → Prop) (h : Bs w F vx x.bytes) (g : Bs w G vy y.bytes) :
    Calls Try.prog 43 #[.agg #[.string ⟨x.name.toArray⟩, vx], .agg #[.string ⟨y.name.toArray⟩, vy]] w fun e w' => e = .returned (.bool (decide (x = y))) ∧ Below w.heap.size w w' := by
  have hr := fl_eq x y
  generalize decide (x = y) = R at *
  have HR := Lib.hid hr
  have hB := below_al (below_al (Below.refl w.heap.size w) (.cells #[.string ⟨x.name.toArray⟩, vx] 40)) (.cells #[.string ⟨y.name.toArray⟩, vy] 40)
  have HX := Lib.hid (h.below hB)
  have HY := Lib.hid (g.below hB)
  have HB := Lib.hid hB
  clear hr h g hB
  cases h1 : x.name == y.name
  · rw [h1, Bool.false_and] at HR
    go_enter Try.func43, Try.ntmps43
    go_wp2
    go_ret
    exact ⟨ret_bool (by rw [HR.out]), HB.out⟩
  · rw [h1, Bool.true_and] at HR
    go_enter Try.func43, Try.ntmps43
    go_wp2_with fail
    refine (eq_any _ _ x.bytes y.bytes _ _ _ HX.out HY.out).mono ?_
    rintro e w' ⟨rfl, n, rfl⟩
    go_wp2
    go_ret
    exact ⟨ret_bool (by rw [HR.out]), below_dn HB.out n⟩

theorem fls_eq_of {es gs : List FE} (hl : es.length = gs.length) (h : ∀ (j : Nat) (h1 : j < es.length) (h2 : j < gs.length), es[j].1 = gs[j].1) : fls es = fls gs := by
  apply List.ext_getElem (by simpa [fls] using hl)
  intro j h1 h2
  rw [fls_get es j (by simpa [fls] using h1), fls_get gs j (by simpa [fls] using h2)]
  exact h j _ _
theorem fls_ne_at {es gs : List FE} {k : Nat} (h1 : k < es.length) (h2 : k < gs.length) (h : es[k].1 ≠ gs[k].1) : fls es ≠ fls gs := by
  intro e
  apply h
  rw [← fls_get es k h1, ← fls_get gs k h2]
  simp only [e]

set_option maxRecDepth 100000 in
set_option maxHeartbeats 2000000 in
theorem eqf_any (v1 v2 : Value) (es gs : List FE) (w : World) (F G : Nat → Prop) (h : Fs w F v1 es) (g : Fs w G v2 gs) :
    Calls Try.prog 42 #[v1, v2, .func (.func 43) #[] #[]] w fun e w' => e = .returned (.bool (decide (fls es = fls gs))) ∧ Below w.heap.size w w' := by
  have hs := h
  have gs' := g
  obtain ⟨A, c, rfl, l1, l2⟩ := fs_form h
  obtain ⟨B, d, rfl, m1, m2⟩ := fs_form g
  clear h g
  obtain ⟨R, hR⟩ : ∃ r, decide (fls es = fls gs) = r := ⟨_, rfl⟩
  rw [hR]
  have HR := Lib.hid hR
  clear hR
  by_cases hl : es.length = gs.length
  · have HL := Lib.hid hl
    have hlb : ((es.length : Int) != (gs.length : Int)) = false := by simp; omega
    have hle : gs.length ≤ es.length := by omega
    have hge : es.length ≤ gs.length := by omega
    clear hl
    go_enter Try.func42, Try.ntmps42
    go_wp2
    clear hlb
    go_loopw [7, 17] (fun _ i wr => ∃ k : Nat, k ≤ es.length ∧ i = .int .i64 k ∧ Hid (∀ (j : Nat) (h1 : j < es.length) (h2 : j < gs.length), j < k → es[j].1 = gs[j].1) ∧ Below w.heap.size w wr) (fun _ i _ => es.length - (intOf i).toNat)
    case atStart => exact ⟨0, Nat.zero_le _, rfl, Lib.hid (fun j _ _ h => by omega), Below.refl _ _⟩
    case round =>
      obtain ⟨k, hk, rfl, HO, hB⟩ := hrel
      have HB := Lib.hid hB
      by_cases hlt : k < es.length
      · have hlt2 : k < gs.length := by omega
        obtain ⟨b, o, hA, hb, c0, c1⟩ := fs_at (hs.below hB) k hlt
        obtain ⟨b', o', hA', hb', d0, d1⟩ := fs_at (gs'.below hB) k hlt2
        subst hA hA'
        have hv1 := (hs.below hB).2 es[k] (List.getElem_mem hlt)
        have hv2 := (gs'.below hB).2 gs[k] (List.getElem_mem hlt2)
        have hno : es[k].1 ≠ gs[k].1 → R = false := fun h => by rw [← HR.out, decide_eq_false (fls_ne_at hlt hlt2 h)]
        have hyes : es[k].1 = gs[k].1 → ∀ (j : Nat) (h1 : j < es.length) (h2 : j < gs.length), j < k + 1 → es[j].1 = gs[j].1 := fun h j h1 h2 hj => by
          by_cases e : j = k
          · subst e; exact h
          · exact HO.out j h1 h2 (by omega)
        have HNO := Lib.hid hno
        have HYES := Lib.hid hyes
        clear hno hyes HO hB
        generalize es[k] = y at *
        generalize gs[k] = z at *
        obtain ⟨y, vy⟩ := y
        obtain ⟨z, vz⟩ := z
        dsimp only at c0 c1 d0 d1 hv1 hv2 HNO HYES
        have hB2 := below_al (below_al (Below.refl wr.heap.size wr) (.cells #[.string ⟨y.name.toArray⟩, vy] 40)) (.cells #[.string ⟨z.name.toArray⟩, vz] 40)
        have HC := Lib.hid (same1_any y z vy vz _ _ _ (hv1.below hB2) (hv2.below hB2))
        have HB2 := Lib.hid (below_tr HB.out hB2)
        obtain ⟨Ay, cy, rfl, -⟩ := hv1.open_
        obtain ⟨Az, cz, rfl, -⟩ := hv2.open_
        clear hv1 hv2 hB2
        by_cases hyz : y = z
        · have HN := Lib.hid (HYES.out hyz)
          have hd : decide (y = z) = true := decide_eq_true hyz
          rw [hd] at HC
          clear hd hyz HNO HYES
          go_wp2_with fail
          refine HC.out.mono ?_
          rintro e w' ⟨rfl, hb3⟩
          go_wp2
          exact ⟨⟨k + 1, by omega, by go_num, HN, below_tr HB2.out hb3⟩, by simp only [intOf]; omega⟩
        · have HN := Lib.hid (HNO.out hyz)
          have hd : decide (y = z) = false := decide_eq_false hyz
          rw [hd] at HC
          clear hd hyz HNO HYES
          go_wp2_with fail
          refine HC.out.mono ?_
          rintro e w' ⟨rfl, hb3⟩
          go_wp2
          go_ret
          exact ⟨by rw [HN.out]; rfl, below_tr HB2.out hb3⟩
      · obtain rfl : k = es.length := by omega
        have HE := Lib.hid (show R = true by rw [← HR.out, decide_eq_true (fls_eq_of HL.out fun j h1 h2 => HO.out j h1 h2 h1)])
        go_wp2
        go_ret
        exact ⟨by rw [HE.out]; rfl, HB.out⟩
  · have HE := Lib.hid (show R = false by rw [← HR.out, decide_eq_false (fun e => hl (by have := congrArg List.length e; simpa [fls] using this))])
    have hlb : ((es.length : Int) != (gs.length : Int)) = true := by simp; omega
    go_enter Try.func42, Try.ntmps42
    go_wp2
    go_ret
    exact ⟨by rw [HE.out]; rfl, Below.refl _ _⟩

set_option maxHeartbeats 1000000 in
theorem fsame_any (v1 v2 : Value) (es gs : List FE) (w : World) (F G : Nat → Prop) (h : Fs w F v1 es) (g : Fs w G v2 gs) :
    Calls Try.prog 20 #[.agg #[v1], .agg #[v2]] w fun e w' => e = .returned (.bool (decide (fls es = fls gs))) ∧ Below w.heap.size w w' := by
  have hB := below_al (below_al (Below.refl w.heap.size w) (.cells #[v1] 24)) (.cells #[v2] 24)
  have HC := Lib.hid (eqf_any v1 v2 es gs _ F G (h.below hB) (g.below hB))
  have HB := Lib.hid hB
  clear h g hB
  go_enter Try.func20, Try.ntmps20
  go_wp2_with fail
  refine HC.out.mono ?_
  rintro e w' ⟨rfl, hb⟩
  go_wp2
  go_ret
  exact ⟨rfl, below_tr HB.out hb⟩

set_option maxHeartbeats 2000000 in
theorem find_any (nm : List UInt8) (v : Value) (es : List FE) (w : World) (F : Nat → Prop) (h : Fs w F v es) (hc : cost (fls es) ≤ 1000000000000) :
    Calls Try.prog 23 #[.agg #[v], .string ⟨nm.toArray⟩] w fun e w' => e = .returned (.tuple #[.int .i64 (findP (fls es) nm : Nat), .bool (findT (fls es) nm)]) ∧ Below w.heap.size w w' := by
  obtain ⟨P, hP⟩ : ∃ p, findP (fls es) nm = p := ⟨_, rfl⟩
  obtain ⟨T, hT⟩ : ∃ t, findT (fls es) nm = t := ⟨_, rfl⟩
  rw [hP, hT]
  have HP := Lib.hid hP
  have HT := Lib.hid hT
  clear hP hT
  have hB := below_al (Below.refl w.heap.size w) (.cells #[v] 24)
  have hm := heap_alloc_new w (.cells #[v] 24)
  have HC := Lib.hid (check_any v es _ F (h.below hB) hc)
  have HS := Lib.hid (h.below hB)
  have HB := Lib.hid hB
  have HM := Lib.hid hm
  have hw := (Array.getElem?_eq_some_iff.1 hm).1
  clear h hB hm
  cases hok : okFs (fls es)
  · have hck : ckErr (fls es) = 150 := by simp [ckErr, hok]
    rw [hck] at HC
    have HOK := Lib.hid hok
    clear hck hok
    go_enter Try.func23, Try.ntmps23
    go_wp2_with fail
    refine HC.out.mono ?_
    rintro e w' ⟨rfl, hb⟩
    go_wp2
    go_ret2
    exact ⟨by rw [← HP.out, ← HT.out]; unfold findP findT; rw [HOK.out]; rfl, below_tr HB.out hb⟩
  · have hck : ckErr (fls es) = 0 := by simp [ckErr, hok]
    rw [hck] at HC
    have HOK := Lib.hid hok
    clear hck hok
    go_enter Try.func23, Try.ntmps23
    go_wp2_with fail
    refine HC.out.mono ?_
    rintro e w' ⟨rfl, hb⟩
    have c0 := cell_of (heap_bl hb HM.out) 0
    simp at c0
    obtain ⟨A, c, rfl, l1, l2⟩ := fs_form HS.out
    go_wp2_with fail
    refine (ffind_any nm _ es _ F (HS.out.below hb) (ok_rise HOK.out) (by have := ok_len HOK.out; rw [fls_len] at this; omega)).mono ?_
    rintro e w2 ⟨rfl, hb2⟩
    go_wp2
    go_ret2
    exact ⟨by rw [← HP.out, ← HT.out]; unfold findP findT; rw [HOK.out]; rfl, below_tr (below_tr HB.out hb) hb2⟩

set_option maxHeartbeats 2000000 in
theorem get_any (nm : List UInt8) (v : Value) (es : List FE) (w : World) (F : Nat → Prop) (h : Fs w F v es) (hc : cost (fls es) ≤ 1000000000000) :
    Calls Try.prog 18 #[.agg #[v], .string ⟨nm.toArray⟩] w fun e w' => ∃ vb, e = .returned (.tuple #[vb, .int .i64 (getE (fls es) nm)]) ∧ Ob w' w.heap.size 5 vb (getB (fls es) nm) ∧ Below w.heap.size w w' := by
  have hB := below_al (Below.refl w.heap.size w) (.cells #[v] 24)
  have hm := heap_alloc_new w (.cells #[v] 24)
  have HC := Lib.hid (check_any v es _ F (h.below hB) hc)
  have HS := Lib.hid (h.below hB)
  have HB := Lib.hid hB
  have HM := Lib.hid hm
  have hw := (Array.getElem?_eq_some_iff.1 hm).1
  have hgb : getE (fls es) nm ≠ 0 → getB (fls es) nm = [] := fun h => by unfold getB; rw [if_neg h]
  obtain ⟨GE, hge⟩ : ∃ g, getE (fls es) nm = g := ⟨_, rfl⟩
  obtain ⟨GB, hgB⟩ : ∃ g, getB (fls es) nm = g := ⟨_, rfl⟩
  rw [hge, hgB] at hgb
  rw [hge, hgB]
  have HGE := Lib.hid hge
  have HGB := Lib.hid hgB
  have HZ := Lib.hid hgb
  clear h hB hm hge hgB hgb
  cases hok : okFs (fls es)
  · have hck : ckErr (fls es) = 150 := by simp [ckErr, hok]
    rw [hck] at HC
    have hE := Lib.hid (show GE = 150 by rw [← HGE.out]; simp [getE, hok])
    have HOK := Lib.hid hok
    clear hck hok
    go_enter Try.func18, Try.ntmps18
    go_wp2_with fail
    refine HC.out.mono ?_
    rintro e w' ⟨rfl, hb⟩
    go_wp2
    go_ret2
    refine ⟨.slice none 0 0, by rw [hE.out]; rfl, ?_, below_tr HB.out hb⟩
    rw [HZ.out (by rw [hE.out]; decide)]
    exact Ob.nil _ _ _
  · have hck : ckErr (fls es) = 0 := by simp [ckErr, hok]
    rw [hck] at HC
    have HOK := Lib.hid hok
    clear hck hok
    go_enter Try.func18, Try.ntmps18
    go_wp2_with fail
    refine HC.out.mono ?_
    rintro e w' ⟨rfl, hb⟩
    have hm1 := heap_bl hb HM.out
    have c0 := cell_of hm1 0
    simp at c0
    have HM1 := Lib.hid hm1
    clear hm1
    obtain ⟨A, c, rfl, l1, l2⟩ := fs_form HS.out
    go_wp2_with fail
    refine (ffind_any nm _ es _ F (HS.out.below hb) (ok_rise HOK.out) (by have := ok_len HOK.out; rw [fls_len] at this; omega)).mono ?_
    rintro e w2 ⟨rfl, hb2⟩
    have HS2 := Lib.hid ((HS.out.below hb).below hb2)
    have HB2 := Lib.hid (below_tr (below_tr HB.out hb) hb2)
    have hm2 := heap_bl hb2 HM1.out
    cases hth : there (fls es) nm
    · have hE := Lib.hid (show GE = 4 by rw [← HGE.out]; simp [getE, HOK.out, hth])
      clear hm2
      go_wp2
      go_ret2
      refine ⟨.slice none 0 0, by rw [hE.out]; rfl, ?_, HB2.out⟩
      rw [HZ.out (by rw [hE.out]; decide)]
      exact Ob.nil _ _ _
    · have hE := Lib.hid (show GE = 0 by rw [← HGE.out]; simp [getE, HOK.out, hth])
      have hpl := there_lt hth
      rw [fls_len] at hpl
      have hG : GB = es[place (fls es) nm].1.bytes := by
        rw [← HGB.out]; unfold getB
        rw [HGE.out, hE.out, if_pos rfl, List.getElem?_eq_getElem (by rw [fls_len]; exact hpl), fls_get es _ hpl]; rfl
      obtain ⟨b, o, hA, hbb, e0, e1⟩ := fs_at HS2.out _ hpl
      subst hA
      have hvb := HS2.out.2 es[place (fls es) nm] (List.getElem_mem hpl)
      have hlb := (ok_at HOK.out (x := es[place (fls es) nm].1) (List.mem_map_of_mem (List.getElem_mem hpl))).2
      generalize es[place (fls es) nm] = y at *
      obtain ⟨y, vy⟩ := y
      dsimp only at e0 e1 hvb hG hlb
      have HG := Lib.hid hG
      have HV := Lib.hid hvb
      obtain ⟨Ay, cy, rfl, -⟩ := hvb.open_
      have d0 := cell_of hm2 0
      simp at d0
      generalize place (fls es) nm = p at *
      clear hG hvb hth c0
      go_wp2_with fail
      refine (clone_any _ y.bytes _ _ HV.out (by omega)).mono ?_
      rintro e w3 ⟨v3, rfl, ho3, hb3⟩
      obtain ⟨A3, c3, hv3, -⟩ := ho3.bs.open_
      subst hv3
      go_wp2
      go_ret2
      exact ⟨_, by rw [hE.out]; rfl, by rw [HG.out]; exact ho3.low HB2.out.size, below_tr HB2.out hb3⟩

end Go.Proofs.Ytjgobljclodpfaa
