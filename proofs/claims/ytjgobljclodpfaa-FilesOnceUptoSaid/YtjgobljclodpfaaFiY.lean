/- FilesOnce's walk: at once, or one by one. No condition beyond sizes. -/
import Derived.Test.YtjgobljclodpfaaFiW
import Derived.Test.YtjgobljclodpfaaFiP
import Derived.Test.YtjgobljclodpfaaFr2
namespace Go.Proofs.Ytjgobljclodpfaa
open Go.RowKit Go.Shelf K L
set_option linter.unusedVariables false
set_option linter.unusedSimpArgs false

/-- What a round finds and leaves: the box of the files, which alone is written. -/
def OneBy (W : World) (q : Nat) (r : Int × List Fl) (os : List FO) (wr : World) : Prop :=
  ∃ v es, wr.heap[q]? = some (.cells #[v] 24 (0, 0)) ∧ FsF wr (· ≠ q) v es ∧ okFs (fls es) = true ∧ doAll (fls es) os = r ∧ Upd (· = q) W wr

theorem apply_one {l : List Fl} {o : FO} (h : okFs l = true) : applyF l [o] = if (doF l o).1 = 0 then (0, (doF l o).2) else ((doF l o).1, []) := by
  unfold applyF
  rw [if_neg (by rw [h]; decide), if_neg (by simp)]
  rfl

/-- An operation laid alone. -/
theorem ops_lit (w : World) (y : FO) (u : Value) (F : Nat → Prop) (hu : Bs w F u y.bytes) :
    Ops (w.alloc (.cells #[.int .i64 y.kind, .string ⟨y.name.toArray⟩, .string ⟨y.new.toArray⟩, .int .i64 y.at_, u] 37)) (fun _ => True) (.slice (some ⟨w.heap.size, 0, none⟩) 1 1) [(y, u)] := by
  refine ⟨(Sl.lit w [.int .i64 y.kind, .string ⟨y.name.toArray⟩, .string ⟨y.new.toArray⟩, .int .i64 y.at_, u] 37 5 1 rfl (by simp [maxLen])).imp (fun _ _ _ => trivial) (by decide), fun e he => ?_⟩
  obtain rfl := List.mem_singleton.1 he
  exact bs_lift hu.lt (below_al (Below.refl _ _) _)

set_option maxRecDepth 100000 in
set_option maxHeartbeats 8000000 in
theorem filesOnce_walk (u vl : Value) (es : List FE) (os : List OE) (w : World) (h : FsF w (· < w.heap.size) u es) (ho : OpsF w (· < w.heap.size) vl os) (hc : cost (fls es) + es.length ≤ 1048576) (hok : ∀ o ∈ os, o.1.ok) :
    Calls Try.prog 5 #[.agg #[u], vl] w fun e w' => e = .returned (.bool true) ∧ Below w.heap.size w w' := by
  obtain ⟨A, c, rfl, l1, l2⟩ := fs_form h.fs
  obtain ⟨Ao, co, rfl, m1, m2⟩ := ops_form ho.ops
  obtain ⟨W, hW⟩ : ∃ W, w.alloc (.cells #[.slice A es.length c] 24) = W := ⟨_, rfl⟩
  have hB0 : Below w.heap.size w W := by rw [← hW]; exact below_al (Below.refl _ _) _
  have hx0 : W.heap[w.heap.size]? = some (.cells #[.slice A es.length c] 24 (0, 0)) := by rw [← hW]; exact heap_alloc_new _ _
  have HSW := Lib.hid (h.below hB0)
  have HOW := Lib.hid (ho.below hB0)
  have HX0 := Lib.hid hx0
  have HB0 := Lib.hid hB0
  have HOK := Lib.hid hok
  clear h ho hx0 hB0 hok
  go_enter Try.func5, Try.ntmps5
  go_wp2_with fail
  refine (wakes_any W).mono ?_
  rintro e w1 ⟨rfl, hb1⟩
  have q1 := cell_of (heap_bl hb1 HX0.out) 0
  simp at q1
  have HB1 := Lib.hid hb1
  have HL := Lib.hid (large_any _ es w1 _ (HSW.out.below hb1).fs)
  clear hb1 hW
  go_wp2_with fail
  refine HL.out.mono ?_
  rintro e w2 ⟨rfl, hb2⟩
  have hb12 := HB1.out.trans (hb2.mono HB1.out.size)
  have HB2 := Lib.hid hb12
  clear hb2 q1
  cases big (fls es)
  case true =>
    go_wp2
    go_ret
    exact ⟨rfl, below_tr HB0.out HB2.out⟩
  by_cases h64 : 64 < os.length
  · clear hb12
    go_wp2
    go_ret
    exact ⟨rfl, below_tr HB0.out HB2.out⟩
  have q2 := cell_of (heap_bl hb12 HX0.out) 0
  simp at q2
  have HAP := Lib.hid (apply_any _ _ es os w2 _ _ (HSW.out.below hb12).fs (HOW.out.below hb12).ops (by omega) HOK.out)
  have hs2 := hb12.size
  clear hb12
  go_wp2_with fail
  refine HAP.out.mono ?_
  rintro e w3 ⟨vg, eg, rfl, hfg, hsg, hb3⟩
  obtain ⟨Ag, cg, rfl, g1, g2⟩ := fs_form hsg.fs
  obtain ⟨W3, hW3⟩ : ∃ W3, w3.alloc (.cells #[.slice Ag eg.length cg] 24) = W3 := ⟨_, rfl⟩
  have hBW3 : Below w3.heap.size w3 W3 := by rw [← hW3]; exact below_al (Below.refl _ _) _
  have hx5 : W3.heap[w3.heap.size]? = some (.cells #[.slice Ag eg.length cg] 24 (0, 0)) := by rw [← hW3]; exact heap_alloc_new _ _
  have hb13 : Below W.heap.size W W3 := (HB2.out.trans (hb3.mono HB2.out.size)).trans (hBW3.mono (Nat.le_trans HB2.out.size hb3.size))
  have hw0 : w.heap.size < W.heap.size := (Array.getElem?_eq_some_iff.1 HX0.out).1
  have HB3 := Lib.hid hb13
  have HX5 := Lib.hid hx5
  have HFG := Lib.hid hfg
  have HSG := Lib.hid ((hsg.below hBW3).imp (fun b hl hf => (Nat.le_trans hs2 hf : W.heap.size ≤ b)))
  have HS3 := Lib.hid (HSW.out.below hb13)
  have HO3 := Lib.hid (HOW.out.below hb13)
  have hx3 := heap_bl hb13 HX0.out
  have HX3 := Lib.hid hx3
  have q3 := cell_of hx3 0
  have q5 := cell_of hx5 0
  simp at q3 q5
  have hs3 := hb13.size
  have hlt3 : w3.heap.size < W3.heap.size := (Array.getElem?_eq_some_iff.1 hx5).1
  have hne5 : W.heap.size ≤ w3.heap.size := Nat.le_trans hs2 hb3.size
  have HCK := Lib.hid (check_any _ es W3 _ HS3.out.fs (by omega))
  have HBW := Lib.hid (below_tr HB0.out hb13)
  clear hb13 hb3 hBW3 hx5 hx3 hsg hfg q2
  cases hok : okFs (fls es)
  · have hap : applyF (fls es) (ops os) = (150, []) := by unfold applyF; rw [if_pos hok]
    rw [ck_no hok] at HCK
    rw [hap]
    clear hap hok
    go_wp2_with fail
    refine HCK.out.mono ?_
    rintro e w4 ⟨rfl, hb4⟩
    have HB4 := Lib.hid (below_tr HBW.out hb4)
    clear hb4 q3 q5 hW3
    go_wp2
    go_ret
    exact ⟨rfl, HB4.out⟩
  rw [ck_yes hok] at HCK
  obtain ⟨R, hR⟩ : ∃ r, applyF (fls es) (ops os) = r := ⟨_, rfl⟩
  have hda : doAll (fls es) (ops os) = R := by rw [← hR]; unfold applyF; rw [if_neg (by rw [hok]; decide), if_neg (by rw [ops_len]; exact h64)]
  have HDA := Lib.hid hda
  have HKO := Lib.hid hok
  rw [hR] at HFG ⊢
  clear hok hR hda
  go_wp2_with fail
  refine HCK.out.mono ?_
  rintro e w4 ⟨rfl, hb4⟩
  have hu4 : Upd (· = w.heap.size) W3 w4 := Upd.of_below hb4
  have HIN := Lib.hid (show OneBy W3 w.heap.size R (ops os) w4 from ⟨_, es, heap_bl hb4 HX3.out, ((HS3.out.below hb4).imp fun b hl hf => Nat.ne_of_lt hf), HKO.out, HDA.out, hu4⟩)
  clear hb4 q3 q5 hW3 hu4 HCK HAP HL
  go_wp2
  go_loopw [33] (fun i wr => ∃ k : Nat, k ≤ os.length ∧ i = .int .i64 k ∧ OneBy W3 w.heap.size R ((ops os).drop k) wr) (fun i _ => os.length - (intOf i).toNat)
  case atStart => exact ⟨0, Nat.zero_le _, rfl, HIN.out⟩
  case round =>
    obtain ⟨k, hk, rfl, vr, er, hxr, hsr, hkr, hda, hur⟩ := hrel
    have HU := Lib.hid hur
    have hszr := hur.size
    have HSR := Lib.hid hsr
    have hxg := hur.heap HX5.out (show w3.heap.size ≠ w.heap.size by omega)
    have qg := cell_of hxg 0
    have q1 := cell_of hxr 0
    simp at q1 qg
    obtain ⟨Ar, cr, rfl, r1, r2⟩ := fs_form hsr.fs
    have HXR := Lib.hid hxr
    have HKR := Lib.hid hkr
    have hklen := ok_len hkr
    have hkcost := ok_cost hkr
    rw [fls_len] at hklen
    by_cases hlt : k < os.length
    · have hops := HO3.out.upd hur (fun b (hf : b < w.heap.size) => Nat.ne_of_lt hf)
      obtain ⟨b, o, hA, hbb, c0, c1, c2, c3, c4⟩ := ops_at hops.ops k hlt
      subst hA
      have hvb := hops.2 os[k] (List.getElem_mem hlt)
      have hoky := HOK.out os[k] (List.getElem_mem hlt)
      rw [ops_drop os k hlt] at hda
      generalize os[k] = y at *
      obtain ⟨y, vb⟩ := y
      dsimp only at c0 c1 c2 c3 c4 hvb hoky hda
      obtain ⟨Ay, cy, rfl, -, -, -, -⟩ := hvb.open_
      obtain ⟨W4, hW4⟩ : ∃ W4, wr.alloc (.cells #[.int .i64 y.kind, .string ⟨y.name.toArray⟩, .string ⟨y.new.toArray⟩, .int .i64 y.at_, .slice Ay y.bytes.length cy] 37) = W4 := ⟨_, rfl⟩
      have hB4 : Below wr.heap.size wr W4 := by rw [← hW4]; exact below_al (Below.refl _ _) _
      have hx4 : W4.heap[wr.heap.size]? = some (.cells #[.int .i64 y.kind, .string ⟨y.name.toArray⟩, .string ⟨y.new.toArray⟩, .int .i64 y.at_, .slice Ay y.bytes.length cy] 37 (0, 0)) := by rw [← hW4]; exact heap_alloc_new _ _
      have hsz4 : W4.heap.size = wr.heap.size + 1 := by rw [← hW4]; exact World.size_alloc _ _
      have y0 := cell_of hx4 0
      have y1 := cell_of hx4 1
      have y2 := cell_of hx4 2
      have y3 := cell_of hx4 3
      have y4 := cell_of hx4 4
      simp at y0 y1 y2 y3 y4
      obtain ⟨W5, hW5⟩ : ∃ W5, W4.alloc (.cells #[.int .i64 y.kind, .string ⟨y.name.toArray⟩, .string ⟨y.new.toArray⟩, .int .i64 y.at_, .slice Ay y.bytes.length cy] 37) = W5 := ⟨_, rfl⟩
      have hB5 : Below wr.heap.size wr W5 := below_tr hB4 (by rw [← hW5]; exact below_al (Below.refl _ _) _)
      have hop5 := ops_lit W4 y (.slice Ay y.bytes.length cy) _ (hvb.below hB4)
      rw [hW5, hsz4] at hop5
      have q4 := cell_of (heap_bl hB4 HXR.out) 0
      simp at q4
      have HA5 := Lib.hid (apply_any (.slice Ar er.length cr) _ er _ W5 _ _ (hsr.below hB5).fs hop5 (by omega) (by
        intro o ho
        obtain rfl := List.mem_singleton.1 ho
        exact hoky))
      have HDR := Lib.hid hda
      have HB5 := Lib.hid hB5
      have hs5 := hB5.size
      clear hx4 hB4 hB5 hop5 hsr hda hur hxr hxg hops hvb
      go_wp2_with fail
      refine HA5.out.mono ?_
      rintro e w6 ⟨v6, e6, rfl, hfl6, hs6, hb6⟩
      rw [show ops [((y, Value.slice Ay y.bytes.length cy) : OE)] = [y] from rfl, apply_one HKR.out] at hfl6 ⊢
      obtain ⟨A6, c6, rfl, k1, k2⟩ := fs_form hs6.fs
      obtain ⟨W7, hW7⟩ : ∃ W7, w6.alloc (.cells #[.slice A6 e6.length c6] 24) = W7 := ⟨_, rfl⟩
      have hB7 : Below w6.heap.size w6 W7 := by rw [← hW7]; exact below_al (Below.refl _ _) _
      have hx9 : W7.heap[w6.heap.size]? = some (.cells #[.slice A6 e6.length c6] 24 (0, 0)) := by rw [← hW7]; exact heap_alloc_new _ _
      have hbr7 : Below wr.heap.size wr W7 := HB5.out.trans ((hb6.mono hs5).trans (hB7.mono (Nat.le_trans hs5 hb6.size)))
      have hs67 := hb6.size
      have hu7 : Upd (· = w.heap.size) W3 W7 := HU.out.trans (T := fun _ => False) (Upd.of_below hbr7) (fun _ _ h => h.elim)
      have HU7 := Lib.hid hu7
      have hx70 := heap_bl hbr7 HXR.out
      have HX70 := Lib.hid hx70
      have hx7g := hu7.heap HX5.out (show w3.heap.size ≠ w.heap.size by omega)
      have p9 := cell_of hx9 0
      have pg := cell_of hx7g 0
      have p0 := cell_of hx70 0
      have pf := frozen_of hx70 0
      simp at p9 pg p0
      have HS7 := Lib.hid ((hs6.below hB7).imp (fun b hl hf => (show b ≠ w.heap.size by have : W5.heap.size ≤ b := hf; omega)))
      have HB7 := Lib.hid (HBW.out.trans (hu7.below (B := w.heap.size) (by omega) (fun b hb => Nat.le_of_eq hb.symm)) : Below w.heap.size w W7)
      obtain ⟨rc, hrc⟩ : ∃ r, (doF (fls er) y).1 = r := ⟨_, rfl⟩
      rw [hrc] at hfl6 ⊢
      clear hb6 hB7 hx9 hbr7 hu7 hx70 hx7g hs6 y0 y1 y2 y3 y4 q4 q1 qg HA5
      by_cases hz : rc = 0
      · subst hz
        rw [if_pos rfl] at hfl6 ⊢
        dsimp only at hfl6 ⊢
        have hset : Upd (· = w.heap.size) W7 (W7.setCell ⟨w.heap.size, 0, none⟩ (.slice A6 e6.length c6)) := (Upd.refl _ _).setCell _ _ (fun _ => rfl)
        have hu8 := HU7.out.trans hset (fun b _ hb => hb)
        have HN := Lib.hid (show OneBy W3 w.heap.size R ((ops os).drop (k + 1)) (W7.setCell ⟨w.heap.size, 0, none⟩ (.slice A6 e6.length c6)) from
          ⟨_, e6, heap_setCell_same W7 w.heap.size 0 _ _ _ HX70.out, ⟨HS7.out.1.keep (by decide) (fun b hb hf => hset.block b hb hf), fun x hx => Sl.keep (HS7.out.2 x hx) (by decide) (fun b hb hf => hset.block b hb hf)⟩, by rw [hfl6]; exact ok_doF HKR.out hrc, by rw [hfl6, ← doAll_cons_ok hrc]; exact HDR.out, hu8⟩)
        clear hset hu8
        go_wp2
        refine ⟨⟨k + 1, by omega, by go_num, HN.out⟩, by simp only [intOf]; omega⟩
      · have HRE := Lib.hid (show R = (rc, []) by rw [← HDR.out, doAll_cons_no (by rw [hrc]; exact hz), hrc])
        rw [if_neg hz]
        have hRE := HRE.out
        subst hRE
        dsimp only at HFG ⊢
        have hl0 : eg.length = 0 := by rw [← fls_len, HFG.out]; rfl
        rw [hl0] at pg
        have hzd : (rc == 0) = false := by simpa using hz
        go_wp2
        go_ret
        exact ⟨rfl, HB7.out⟩
    · obtain rfl : k = os.length := by omega
      rw [List.drop_of_length_le (by rw [ops_len]; omega)] at hda
      have hRE : R = (0, fls er) := hda.symm
      subst hRE
      dsimp only at HFG ⊢
      have hsame := fsame_any _ _ er eg wr _ _ hsr.fs (HSG.out.upd hur (fun b (hf : W.heap.size ≤ b) => (show b ≠ w.heap.size by omega))).fs
      rw [HFG.out, decide_eq_true rfl] at hsame
      have HSA := Lib.hid hsame
      have HBR := Lib.hid (HBW.out.trans (hur.below (B := w.heap.size) (by omega) (fun b hb => Nat.le_of_eq hb.symm)))
      clear hsame hsr hda hur hxr hxg
      go_wp2_with fail
      refine HSA.out.mono ?_
      rintro e w9 ⟨rfl, hb9⟩
      have HB9 := Lib.hid (below_tr HBR.out hb9)
      clear hb9
      go_wp2
      go_ret
      exact ⟨rfl, HB9.out⟩

end Go.Proofs.Ytjgobljclodpfaa
