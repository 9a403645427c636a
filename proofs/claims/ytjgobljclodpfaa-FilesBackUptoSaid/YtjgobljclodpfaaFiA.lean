/- Layer 5's walks: operations on whatever files. No condition beyond sizes. -/
import Derived.Test.YtjgobljclodpfaaFi9
namespace Go.Proofs.Ytjgobljclodpfaa
open Go.RowKit Go.Shelf K L
set_option linter.unusedVariables false
set_option linter.unusedSimpArgs false

/-- An operation's sizes, as they come out of memory. -/
def FO.ok (o : FO) : Prop := o.bytes.length ≤ 1048576 ∧ o.name.length ≤ 1048576 ∧ o.new.length ≤ 1048576 ∧ -9223372036854775808 ≤ o.at_ ∧ o.at_ ≤ 9223372036854775807

theorem do_any (o : FO) (vb : Value) (sb base : Nat) (v : Value) (es : List FE) (w : World) (F : Nat → Prop) (h : StP w sb base v es) (hr : rise (fls es) = true) (hl : es.length ≤ 64) (hc : cost (fls es) ≤ 32768) (hbw : base ≤ w.heap.size)
    (hvb : Bs w F vb o.bytes) (ho : o.ok) :
    Calls Try.prog 35 #[.pointer (some ⟨sb, 0, none⟩), .agg #[.int .i64 o.kind, .string ⟨o.name.toArray⟩, .string ⟨o.new.toArray⟩, .int .i64 o.at_, vb]] w (Done w sb base (fls es) o) := by
  obtain ⟨kind, name, new, at_, bytes⟩ := o
  obtain ⟨hs1, hs2, hs3, ha1, ha2⟩ := ho
  dsimp only at *
  by_cases h1 : kind < 1
  · exact do_bad1 kind name new at_ bytes vb sb base v es w F h hr hl hc hbw hvb hs1 hs2 hs3 ha1 ha2 h1
  by_cases h2 : 4 < kind
  · exact do_bad2 kind name new at_ bytes vb sb base v es w F h hr hl hc hbw hvb hs1 hs2 hs3 ha1 ha2 h2
  cases hn : nmOk name
  · exact do_bad3 kind name new at_ bytes vb sb base v es w F h hr hl hc hbw hvb hs1 hs2 hs3 ha1 ha2 (by omega) (by omega) hn
  obtain rfl | rfl | rfl | rfl : kind = 1 ∨ kind = 2 ∨ kind = 3 ∨ kind = 4 := by omega
  · exact do_1 name new at_ bytes vb sb base v es w F h hr hl hc hbw hvb hs1 hs2 hs3 ha1 ha2 hn _ rfl
  · cases ht : there (fls es) name
    · exact do_none2 name new at_ bytes vb sb base v es w F h hr hl hc hbw hvb hs1 hs2 hs3 ha1 ha2 hn ht
    · exact do_2 name new at_ bytes vb sb base v es w F h hr hl hc hbw hvb hs1 hs2 hs3 ha1 ha2 hn ht
  · cases hn2 : nmOk new
    · exact do_bad4 3 name new at_ bytes vb sb base v es w F h hr hl hc hbw hvb hs1 hs2 hs3 ha1 ha2 rfl hn hn2
    · cases ht : there (fls es) name
      · exact do_none3 name new at_ bytes vb sb base v es w F h hr hl hc hbw hvb hs1 hs2 hs3 ha1 ha2 hn hn2 ht
      · exact do_3 name new at_ bytes vb sb base v es w F h hr hl hc hbw hvb hs1 hs2 hs3 ha1 ha2 hn hn2 ht
  · cases ht : there (fls es) name
    · exact do_none4 name new at_ bytes vb sb base v es w F h hr hl hc hbw hvb hs1 hs2 hs3 ha1 ha2 hn ht
    · exact do_4 name new at_ bytes vb sb base v es w F h hr hl hc hbw hvb hs1 hs2 hs3 ha1 ha2 hn ht

/-- An operation with the slice value of its bytes. -/
abbrev OE := FO × Value
def OE.cells (e : OE) : List Value := [.int .i64 e.1.kind, .string ⟨e.1.name.toArray⟩, .string ⟨e.1.new.toArray⟩, .int .i64 e.1.at_, e.2]
theorem OE.len (e : OE) : e.cells.length = 5 := rfl
def ops (os : List OE) : List FO := os.map (·.1)
theorem ops_len (os : List OE) : (ops os).length = os.length := by simp [ops]
theorem ops_drop (os : List OE) (k : Nat) (hk : k < os.length) : (ops os).drop k = os[k].1 :: (ops os).drop (k + 1) := by
  unfold ops
  rw [List.drop_eq_getElem_cons (by simpa using hk)]
  simp

/-- Slice value v: the operations os, whose bytes lie in w. -/
def Ops (w : World) (F : Nat → Prop) (v : Value) (os : List OE) : Prop :=
  Sl w F 5 v os.length (os.flatMap OE.cells) ∧ ∀ e ∈ os, Bs w (· < w.heap.size) e.2 e.1.bytes
theorem Ops.below {w w' : World} {F : Nat → Prop} {v : Value} {os : List OE} (h : Ops w F v os) (hb : Below w.heap.size w w') : Ops w' F v os :=
  ⟨Sl.below h.1 (by decide) hb, fun e he => bs_lift (h.2 e he) hb⟩
theorem ops_form {w : World} {F : Nat → Prop} {v : Value} {os : List OE} (h : Ops w F v os) : ∃ A c, v = .slice A os.length c ∧ os.length ≤ c ∧ c ≤ 9223372036854775807 := by
  obtain ⟨-, A, c, hv, h1, h2, -⟩ := h.1
  exact ⟨A, c, hv, h1, by simpa [maxLen] using h2⟩
theorem ops_at {w : World} {F : Nat → Prop} {A : Option Addr} {n c : Nat} {os : List OE} (h : Ops w F (.slice A n c) os) (i : Nat) (hi : i < os.length) :
    ∃ b o, A = some ⟨b, o, none⟩ ∧ b < w.heap.size ∧ w.cell? ⟨b, o + i * 5, none⟩ = some (.int .i64 os[i].1.kind) ∧ w.cell? ⟨b, o + i * 5 + 1, none⟩ = some (.string ⟨os[i].1.name.toArray⟩) ∧
      w.cell? ⟨b, o + i * 5 + 2, none⟩ = some (.string ⟨os[i].1.new.toArray⟩) ∧ w.cell? ⟨b, o + i * 5 + 3, none⟩ = some (.int .i64 os[i].1.at_) ∧ w.cell? ⟨b, o + i * 5 + 4, none⟩ = some os[i].2 := by
  obtain ⟨b, o, hA, -, hb, hc⟩ := row_cells OE.len (by decide) h.1 i hi
  exact ⟨b, o, hA, hb, hc 0 _ rfl, hc 1 _ rfl, hc 2 _ rfl, hc 3 _ rfl, hc 4 _ rfl⟩

/-- What operations make of files. -/
def applyF (l : List Fl) (os : List FO) : Int × List Fl := if okFs l = false then (150, []) else if 64 < os.length then (3, []) else doAll l os
theorem ck_yes {l : List Fl} (h : okFs l = true) : ckErr l = 0 := by simp [ckErr, h]
theorem ck_no {l : List Fl} (h : okFs l = false) : ckErr l = 150 := by simp [ckErr, h]

/-- Files all of which lie in F. -/
def FsF (w : World) (F : Nat → Prop) (v : Value) (es : List FE) : Prop := Sl w F 2 v es.length (es.flatMap FE.cells) ∧ ∀ e ∈ es, Bs w F e.2 e.1.bytes
theorem FsF.fs {w : World} {F : Nat → Prop} {v : Value} {es : List FE} (h : FsF w F v es) : Fs w F v es := ⟨h.1, fun e he => (h.2 e he).lt⟩
theorem FsF.imp {w : World} {F G : Nat → Prop} {v : Value} {es : List FE} (h : FsF w F v es) (hF : ∀ b, b < w.heap.size → F b → G b) : FsF w G v es := ⟨h.1.imp hF (by decide), fun e he => (h.2 e he).imp hF⟩
theorem FsF.upd {S F : Nat → Prop} {w w' : World} {v : Value} {es : List FE} (h : FsF w F v es) (hu : Upd S w w') (hF : ∀ b, F b → ¬ S b) : FsF w' F v es := ⟨hu.sl h.1 (by decide) hF, fun e he => hu.bs (h.2 e he) hF⟩
theorem FsF.below {w w' : World} {F : Nat → Prop} {v : Value} {es : List FE} (h : FsF w F v es) (hb : Below w.heap.size w w') : FsF w' F v es := ⟨Sl.below h.1 (by decide) hb, fun e he => (h.2 e he).below hb⟩
theorem FsF.nil (w : World) (F : Nat → Prop) : FsF w F (.slice none 0 0) [] := ⟨Sl.nil _ _ _, fun e he => by cases he⟩
def OpsF (w : World) (F : Nat → Prop) (v : Value) (os : List OE) : Prop := Sl w F 5 v os.length (os.flatMap OE.cells) ∧ ∀ e ∈ os, Bs w F e.2 e.1.bytes
theorem OpsF.ops {w : World} {F : Nat → Prop} {v : Value} {os : List OE} (h : OpsF w F v os) : Ops w F v os := ⟨h.1, fun e he => (h.2 e he).lt⟩
theorem OpsF.upd {S F : Nat → Prop} {w w' : World} {v : Value} {os : List OE} (h : OpsF w F v os) (hu : Upd S w w') (hF : ∀ b, F b → ¬ S b) : OpsF w' F v os := ⟨hu.sl h.1 (by decide) hF, fun e he => hu.bs (h.2 e he) hF⟩
theorem OpsF.below {w w' : World} {F : Nat → Prop} {v : Value} {os : List OE} (h : OpsF w F v os) (hb : Below w.heap.size w w') : OpsF w' F v os := ⟨Sl.below h.1 (by decide) hb, fun e he => (h.2 e he).below hb⟩

/-- What Apply leaves. -/
def Applied (w : World) (r : Int × List Fl) (e : Ending) (w' : World) : Prop := ∃ v' es', e = .returned (.tuple #[.agg #[v'], .int .i64 r.1]) ∧ fls es' = r.2 ∧ FsF w' (w.heap.size ≤ ·) v' es' ∧ Below w.heap.size w w'
theorem Fs.nil (w : World) (F : Nat → Prop) : Fs w F (.slice none 0 0) [] := ⟨Sl.nil _ _ _, fun e he => by cases he⟩

theorem set_one {w : World} {q : Nat} {v : Value} {e : Nat} (h : w.heap[q]? = some (.cells #[v] e (0, 0))) (u : Value) : (w.setCell ⟨q, 0, none⟩ u).cell? ⟨q, 0, none⟩ = some u := by
  have := cell_of (heap_setCell_same w q 0 _ e u h) 0
  simpa using this

/-- What a round of the operations' loop finds and leaves. -/
def Doing (W : World) (sb base : Nat) (r : Int × List Fl) (os : List FO) (wr : World) : Prop :=
  ∃ v es, StP wr sb base v es ∧ rise (fls es) = true ∧ es.length ≤ 64 ∧ cost (fls es) ≤ 32768 ∧ doAll (fls es) os = r ∧ Below base W wr

set_option maxRecDepth 100000 in
set_option maxHeartbeats 8000000 in
theorem apply_any (v vl : Value) (es : List FE) (os : List OE) (w : World) (F G : Nat → Prop) (h : Fs w F v es) (ho : Ops w G vl os) (hc : cost (fls es) ≤ 1000000000000) (hok : ∀ o ∈ os, o.1.ok) :
    Calls Try.prog 12 #[.agg #[v], vl] w (Applied w (applyF (fls es) (ops os))) := by
  obtain ⟨A, c, rfl, l1, l2⟩ := fs_form h
  obtain ⟨Ao, co, rfl, m1, m2⟩ := ops_form ho
  obtain ⟨W, hW⟩ : ∃ W, (w.alloc (.cells #[.slice A es.length c] 24)).alloc (.cells #[.slice none 0 0] 24) = W := ⟨_, rfl⟩
  have hB0 : Below w.heap.size w W := by rw [← hW]; exact below_al (below_al (Below.refl _ _) _) _
  have hx0 : W.heap[w.heap.size]? = some (.cells #[.slice A es.length c] 24 (0, 0)) := by rw [← hW]; exact heap_bl (below_al (Below.refl _ _) _) (heap_alloc_new _ _)
  have hx1 : W.heap[w.heap.size + 1]? = some (.cells #[.slice none 0 0] 24 (0, 0)) := by
    rw [← hW]; have := heap_alloc_new (w.alloc (.cells #[.slice A es.length c] 24)) (.cells #[.slice none 0 0] 24); simpa [World.size_alloc] using this
  have hszW : w.heap.size + 2 ≤ W.heap.size := by rw [← hW]; simp only [World.size_alloc]; omega
  have b0 := cell_of hx0 0
  have b1 := cell_of hx1 0
  simp at b0 b1
  have HSW := Lib.hid (h.below hB0)
  have HOW := Lib.hid (ho.below hB0)
  have HB0 := Lib.hid hB0
  have HX0 := Lib.hid hx0
  have HX1 := Lib.hid hx1
  have HW := Lib.hid hW
  have HCK := Lib.hid (check_any _ es W F (h.below hB0) hc)
  have HOK := Lib.hid hok
  clear h ho hB0 hx0 hx1
  cases hf : okFs (fls es)
  · have HR := Lib.hid (show applyF (fls es) (ops os) = (150, []) by unfold applyF; rw [if_pos hf])
    rw [ck_no hf] at HCK
    clear hf
    rw [HR.out]
    go_enter Try.func12, Try.ntmps12
    go_wp2_with fail
    refine HCK.out.mono ?_
    rintro e w1 ⟨rfl, hb1⟩
    have q1 := cell_of (heap_bl hb1 HX1.out) 0
    have f1 := frozen_of (heap_bl hb1 HX1.out) 0
    have d1 := set_one (heap_bl hb1 HX1.out) (.slice none 0 0)
    simp at q1
    have HB1 := Lib.hid (below_tr HB0.out hb1)
    have hlt1 := hb1.size
    clear hW hb1
    go_wp2
    exact bodyPost_ret (v := .tuple #[.agg #[.slice none 0 0], .int .i64 150]) (by simp [results, Try.results12, go_sem, d1]) rfl ⟨_, [], rfl, rfl, FsF.nil _ _, below_sc HB1.out (by simp) _⟩
  · rw [ck_yes hf] at HCK
    have HF := Lib.hid hf
    clear hf
    by_cases h64 : 64 < os.length
    · have HR := Lib.hid (show applyF (fls es) (ops os) = (3, []) by unfold applyF; rw [if_neg (by rw [HF.out]; decide), if_pos (by rw [ops_len]; exact h64)])
      rw [HR.out]
      go_enter Try.func12, Try.ntmps12
      go_wp2_with fail
      refine HCK.out.mono ?_
      rintro e w1 ⟨rfl, hb1⟩
      have q1 := cell_of (heap_bl hb1 HX1.out) 0
      have f1 := frozen_of (heap_bl hb1 HX1.out) 0
      have d1 := set_one (heap_bl hb1 HX1.out) (.slice none 0 0)
      simp at q1
      have HB1 := Lib.hid (below_tr HB0.out hb1)
      have hlt1 := hb1.size
      clear hW hb1
      go_wp2
      exact bodyPost_ret (v := .tuple #[.agg #[.slice none 0 0], .int .i64 3]) (by simp [results, Try.results12, go_sem, d1]) rfl ⟨_, [], rfl, rfl, FsF.nil _ _, below_sc HB1.out (by simp) _⟩
    · have hAP : applyF (fls es) (ops os) = doAll (fls es) (ops os) := by unfold applyF; rw [if_neg (by rw [HF.out]; decide), if_neg (by rw [ops_len]; exact h64)]
      rw [hAP]
      clear hAP
      have hrise := ok_rise HF.out
      have hlen := ok_len HF.out
      have hcost := ok_cost HF.out
      rw [fls_len] at hlen
      have hby : ∀ e ∈ es, e.1.bytes.length ≤ 10000000 := fun e he => by have := (ok_at HF.out (List.mem_map_of_mem he (f := (·.1)))).2; omega
      obtain ⟨R, hR⟩ : ∃ r, doAll (fls es) (ops os) = r := ⟨_, rfl⟩
      rw [hR]
      have HRR := Lib.hid hR
      have HRI := Lib.hid hrise
      have HBY := Lib.hid hby
      clear hR hrise hby
      go_enter Try.func12, Try.ntmps12
      go_wp2_with fail
      refine HCK.out.mono ?_
      rintro e w1 ⟨rfl, hb1⟩
      have q1 := cell_of (heap_bl hb1 HX0.out) 0
      simp at q1
      have HB1 := Lib.hid (below_tr HB0.out hb1)
      have HX11 := Lib.hid (heap_bl hb1 HX1.out)
      have HS1 := Lib.hid (HSW.out.below hb1)
      have HO1 := Lib.hid (HOW.out.below hb1)
      have hsz1 := hb1.size
      have HOWN := Lib.hid (own_any _ es w1 F HS1.out (by omega) HBY.out)
      clear hb1 hW
      go_wp2_with fail
      refine HOWN.out.mono ?_
      rintro e w2 ⟨v2, es2, rfl, hfl2, hO2, hb2⟩
      obtain ⟨w3, hw3⟩ : ∃ w3, w2.alloc (.cells #[v2] 64) = w3 := ⟨_, rfl⟩
      have hB3 : Below w2.heap.size w2 w3 := by rw [← hw3]; exact below_al (Below.refl _ _) _
      have HS3 := Lib.hid (show StP w3 w2.heap.size w1.heap.size v2 es2 from ⟨by rw [← hw3]; exact heap_alloc_new _ _, (hO2.below hB3).1, fun e he => (((hO2.2 e he).imp (G := fun b => w1.heap.size ≤ b ∧ v2.ownBlock ≠ some b ∧ b ≠ w2.heap.size) (fun b hl hf => ⟨hf.1, hf.2, by omega⟩)).below hB3), fun e => by have := (hO2.1.lt _ e).2; omega, hb2.size⟩)
      have HB3 := Lib.hid (below_tr hb2 hB3)
      have HFL := Lib.hid hfl2
      have hsz3 := hB3.size
      have hsz2 := hb2.size
      obtain ⟨A2, c2, hv2, -⟩ := own_slice hO2.1
      subst hv2
      clear hO2 hb2 hB3 hfl2 q1
      go_wp2
      go_loopw [9, 10, 27] (fun _ _ i wr => ∃ k : Nat, k ≤ os.length ∧ i = .int .i64 k ∧ Doing w3 w2.heap.size w1.heap.size R ((ops os).drop k) wr) (fun _ _ i _ => os.length - (intOf i).toNat)
      case atStart => exact ⟨0, Nat.zero_le _, rfl, _, es2, HS3.out, by rw [HFL.out]; exact HRI.out, by rw [← fls_len, HFL.out, fls_len]; exact hlen, by rw [HFL.out]; exact hcost, by rw [HFL.out]; exact HRR.out, Below.refl _ _⟩
      case round =>
        obtain ⟨k, hk, rfl, vr, er, hS, hr1, hr2, hr3, hr4, hbr⟩ := hrel
        have hbr1 := HB3.out.trans hbr
        have HBR := Lib.hid hbr
        have HBR1 := Lib.hid hbr1
        have hszr := hbr.size
        have HSR := Lib.hid hS
        have HRR1 := Lib.hid hr1
        have hx1r := heap_bl hbr1 HX11.out
        have q1 := cell_of hx1r 0
        have f1 := frozen_of hx1r 0
        simp at q1
        have HX1R := Lib.hid hx1r
        by_cases hlt : k < os.length
        · obtain ⟨b, o, hA, hbb, c0, c1, c2, c3, c4⟩ := ops_at (HO1.out.below hbr1) k hlt
          subst hA
          have hvb := (HO1.out.below hbr1).2 os[k] (List.getElem_mem hlt)
          have hoky := HOK.out os[k] (List.getElem_mem hlt)
          rw [ops_drop os k hlt] at hr4
          generalize os[k] = y at *
          obtain ⟨y, vb⟩ := y
          dsimp only at c0 c1 c2 c3 c4 hvb hoky hr4
          obtain ⟨Ay, cy, rfl, -, -, -, -⟩ := hvb.open_
          obtain ⟨W4, hW4⟩ : ∃ W4, wr.alloc (.cells #[.int .i64 y.kind, .string ⟨y.name.toArray⟩, .string ⟨y.new.toArray⟩, .int .i64 y.at_, .slice Ay y.bytes.length cy] 37) = W4 := ⟨_, rfl⟩
          have hB4 : Below wr.heap.size wr W4 := by rw [← hW4]; exact below_al (Below.refl _ _) _
          have hsz4 := hB4.size
          have hx4 : W4.heap[wr.heap.size]? = some (.cells #[.int .i64 y.kind, .string ⟨y.name.toArray⟩, .string ⟨y.new.toArray⟩, .int .i64 y.at_, .slice Ay y.bytes.length cy] 37 (0, 0)) := by rw [← hW4]; exact heap_alloc_new _ _
          have y0 := cell_of hx4 0
          have y1 := cell_of hx4 1
          have y2 := cell_of hx4 2
          have y3 := cell_of hx4 3
          have y4 := cell_of hx4 4
          simp at y0 y1 y2 y3 y4
          clear hx4
          have HDO := Lib.hid (do_any y (.slice Ay y.bytes.length cy) w2.heap.size w1.heap.size vr er W4 _ (hS.next hB4) hr1 hr2 hr3 (by omega) (hvb.below hB4) hoky)
          have HR4 := Lib.hid hr4
          have HB4 := Lib.hid ((hbr.trans (hB4.mono (by omega))) : Below w1.heap.size w3 W4)
          clear hvb hS hr4 hbr hbr1 hB4 hx1r
          go_wp2_with fail
          refine HDO.out.mono ?_
          rintro e w5 ⟨rfl, v5, e5, hS5, hfl5, hb5⟩
          have HS5 := Lib.hid hS5
          have HFL5 := Lib.hid hfl5
          have hb35 := HB4.out.trans hb5
          have HB35 := Lib.hid hb35
          have HB15 := Lib.hid (HB3.out.trans hb35)
          have hx5 := heap_bl HB15.out HX11.out
          have q5 := cell_of hx5 0
          have f5 := frozen_of hx5 0
          have d5 := set_one hx5 (.slice none 0 0)
          simp at q5
          have hs5 := hb5.size
          have hok5 := @doF_ok_len (fls er) y
          obtain ⟨rc, hrc⟩ : ∃ r, (doF (fls er) y).1 = r := ⟨_, rfl⟩
          by_cases hz : rc = 0
          · subst hz
            obtain ⟨n1, n2⟩ := hok5 hrc
            rw [← hfl5] at n1 n2
            rw [fls_len] at n1
            have HN := Lib.hid (show Doing w3 w2.heap.size w1.heap.size R ((ops os).drop (k + 1)) w5 from ⟨v5, e5, hS5, by rw [hfl5]; exact rise_doF HRR1.out y, n1, n2, by rw [hfl5, ← doAll_cons_ok hrc]; exact HR4.out, hb35⟩)
            rw [hrc]
            clear hS5 hfl5 hb35 hb5 hx5 hok5 hrc n1 n2 d5 hW4 y0 y1 y2 y3 y4 HSR HRR1
            go_wp2
            refine ⟨⟨k + 1, by omega, by go_num, HN.out⟩, by simp only [intOf]; omega⟩
          · have HRE := Lib.hid (show R = (rc, []) by rw [← HR4.out, doAll_cons_no (by rw [hrc]; exact hz), hrc])
            rw [hrc]
            clear hS5 hfl5 hb35 hb5 hx5 hok5 hrc hW4 y0 y1 y2 y3 y4 HSR HRR1
            have hzd : (rc == 0) = false := by simpa using hz
            go_wp2
            exact bodyPost_ret (v := .tuple #[.agg #[.slice none 0 0], .int .i64 rc]) (by simp [results, Try.results12, go_sem, d5]) rfl ⟨_, [], by rw [HRE.out], by rw [HRE.out]; rfl, FsF.nil _ _, below_sc ((HB1.out).trans (HB15.out.mono (by omega))) (by simp) _⟩
        · obtain rfl : k = os.length := by omega
          rw [List.drop_of_length_le (by rw [ops_len]; omega)] at hr4
          have HRE := Lib.hid (show R = (0, fls er) from hr4.symm)
          obtain ⟨Ar, cr, rfl, -⟩ := own_slice hS.own
          have k0 := cell_of hS.cell 0
          simp at k0
          have d5 := set_one hx1r (.slice Ar er.length cr)
          have HFS := Lib.hid (hS.fs)
          have hne : w.heap.size + 1 < w1.heap.size := by omega
          clear hS hr4 hx1r
          go_wp2
          refine bodyPost_ret (v := .tuple #[.agg #[.slice Ar er.length cr], .int .i64 0]) (by simp [results, Try.results12, go_sem, d5]) rfl ⟨_, er, by rw [HRE.out], by rw [HRE.out], ?_, below_sc ((HB1.out).trans (HBR1.out.mono (by omega))) (by simp) _⟩
          have hkeep : ∀ b, w1.heap.size ≤ b → (wr.setCell ⟨w.heap.size + 1, 0, none⟩ (.slice Ar er.length cr)).heap[b]? = wr.heap[b]? := fun b hb => heap_setCell_other wr ⟨w.heap.size + 1, 0, none⟩ b _ (by simp; omega)
          exact ⟨(Sl.keep HFS.out.1 (by decide) fun b hl hf => hkeep b hf).imp (fun b hl hf => Nat.le_trans HB1.out.size hf) (by decide), fun e he => (Sl.keep (HSR.out.inn e he) (by decide) fun b hl hf => hkeep b hf.1).imp (fun b hl hf => Nat.le_trans HB1.out.size hf.1) (by decide)⟩

end Go.Proofs.Ytjgobljclodpfaa
