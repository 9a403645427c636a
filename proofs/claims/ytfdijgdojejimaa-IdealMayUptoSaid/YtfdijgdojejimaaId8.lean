/- Layer 27: heliographref27.May: the loop, whole. No condition beyond sizes. (Printed by genrmay.py.) -/
import Derived.Test.YtfdijgdojejimaaId8a
import Derived.Test.YtfdijgdojejimaaId8b
import Derived.Test.YtfdijgdojejimaaId8c
import Derived.Test.YtfdijgdojejimaaId8d
import Derived.Test.YtfdijgdojejimaaId8e
namespace Go.Proofs.Ytfdijgdojejimaa
open Go.RowKit Go.Shelf K L
set_option linter.unusedVariables false
set_option linter.unusedSimpArgs false

set_option maxRecDepth 100000 in
set_option maxHeartbeats 40000000 in
theorem rmay_loop (A : Option Addr) (c : Nat) (w : World) (es : List (FA w)) (hle : es.length ≤ 1048576) (f : Fact) (vf : Value) (hk : f.kind = 1 ∨ f.kind = 2 ∨ f.kind = 4 ∨ f.kind = 6 ∨ f.kind = 7 ∨ f.kind = 8 ∨ f.kind = 9 ∨ f.kind = 10) (hS : Sl w (· < w.heap.size) 7 (.slice A es.length c) es.length (fcells es)) (hv0 : Bs w (· < w.heap.size) vf f.bytes) (hn : f.number < 4294967296) (hg : ∀ x ∈ facts es, x.number < 4294967296) :
    Calls Try.prog 12 #[.slice A es.length c, .agg (f.cells vf).toArray] w fun e w' => e = .returned (.bool (may (facts es) f)) ∧ Below w.heap.size w w' := by
  obtain ⟨Af, cf, hvf, -, -, -, -⟩ := hv0.open_
  subst hvf
  show Calls Try.prog 12 #[.slice A es.length c, .agg #[.int .i64 f.kind, .int .i64 f.node, .int .i64 f.frm, .int .u32 (f.number : Nat), .string ⟨f.name.toArray⟩, .int .i64 f.code, .slice Af f.bytes.length cf]] w _
  have hb0 : Below w.heap.size w (w.alloc (.cells #[.int .i64 f.kind, .int .i64 f.node, .int .i64 f.frm, .int .u32 (f.number : Nat), .string ⟨f.name.toArray⟩, .int .i64 f.code, .slice Af f.bytes.length cf] 26)) := (Below.refl _ _).alloc (Nat.le_refl _) _
  have hfb : FB (w.alloc (.cells #[.int .i64 f.kind, .int .i64 f.node, .int .i64 f.frm, .int .u32 (f.number : Nat), .string ⟨f.name.toArray⟩, .int .i64 f.code, .slice Af f.bytes.length cf] 26)) w.heap.size f (.slice Af f.bytes.length cf) := heap_new w _
  have HFB := Lib.hid hfb
  have HB0 := Lib.hid hb0
  have HS := Lib.hid hS
  have HV := Lib.hid hv0
  have HG := Lib.hid hg
  have HKK := Lib.hid hk
  have d3 : (f.kind == 3) = false := by rw [beq_eq_false_iff_ne]; omega
  have d5 : (f.kind == 5) = false := by rw [beq_eq_false_iff_ne]; omega
  have d1 : decide (f.kind < 1) = false := by rw [decide_eq_false_iff_not]; omega
  have d10 : decide ((10 : Int) < f.kind) = false := by rw [decide_eq_false_iff_not]; omega
  clear hfb hb0 hS hv0 hg hk
  go_enter Try.func12, Try.ntmps12
  go_wp2
  clear d3 d5 d1 d10
  refine wp_loop (fun a wr => a.defers = [] ∧ a.tmps.size = 460 ∧ a.tmps[0]? = some (.slice A es.length c) ∧ a.tmps[3]? = some (.pointer (some ⟨w.heap.size, 0, none⟩)) ∧ ∃ m : Nat, m ≤ es.length ∧ a.tmps[9]? = some (.int .i64 m) ∧ a.tmps[5]? = some (.bool (gR f (facts (es.take m)))) ∧ a.tmps[6]? = some (.bool (tR f (facts (es.take m)))) ∧ a.tmps[7]? = some (.bool (sR f (facts (es.take m)))) ∧ a.tmps[8]? = some (.int .u32 (lR f (facts (es.take m)) : Nat)) ∧ Below w.heap.size w wr ∧ Hid (FB wr w.heap.size f (.slice Af f.bytes.length cf))) (fun a _ => es.length - (intOf (a.tmps.getD 9 undef)).toNat) ?_ ?_
  · exact ⟨rfl, rfl, rfl, rfl, 0, Nat.zero_le _, rfl, rfl, rfl, rfl, rfl, HB0.out, HFB⟩
  · rintro a wr ⟨hd, hs, h0, h3, m, hm, h9, h5, h6, h7, h8, hb, HF⟩
    have ha := frame_all a hd hs
    have hmu : es.length - (intOf (a.tmps.getD 9 undef)).toNat = es.length - m := by rw [Array.getD_eq_getD_getElem?, h9]; simp [intOf]
    rw [hmu]
    obtain ⟨g, hg⟩ : ∃ g : Nat → Value, (fun n => a.tmps[n]?.getD undef) = g := ⟨_, rfl⟩
    have g0 : g 0 = .slice A es.length c := by rw [← hg]; simp only [h0, Option.getD_some]
    have g3 : g 3 = .pointer (some ⟨w.heap.size, 0, none⟩) := by rw [← hg]; simp only [h3, Option.getD_some]
    have g5 : g 5 = .bool (gR f (facts (es.take m))) := by rw [← hg]; simp only [h5, Option.getD_some]
    have g6 : g 6 = .bool (tR f (facts (es.take m))) := by rw [← hg]; simp only [h6, Option.getD_some]
    have g7 : g 7 = .bool (sR f (facts (es.take m))) := by rw [← hg]; simp only [h7, Option.getD_some]
    have g8 : g 8 = .int .u32 (lR f (facts (es.take m)) : Nat) := by rw [← hg]; simp only [h8, Option.getD_some]
    have g9 : g 9 = .int .i64 m := by rw [← hg]; simp only [h9, Option.getD_some]
    rw [hg, frame_lit, g0, g3, g5, g6, g7, g8, g9] at ha
    subst ha
    clear hd hs hmu hg h0 h3 h5 h6 h7 h8 h9 g0 g3 g5 g6 g7 g8 g9
    by_cases hlt : m < es.length
    · have hfc := fcells_at (Sl.below HS.out (by decide) hb) m hlt
      obtain ⟨b, hfc⟩ := hfc
      obtain ⟨o, hA, -, -, c0, c1, c2, c3, c4, c5, c6⟩ := hfc
      subst hA
      have hsn := facts_take es m hlt
      have hxb := (es[m].2.1).belowB hb
      have hxn := HG.out es[m].1.1 (by unfold facts; exact List.mem_map.2 ⟨_, List.getElem_mem hlt, rfl⟩)
      obtain ⟨Ab, cb, hvb, -, -, -, -⟩ := (es[m].2.1).open_
      rw [hvb] at hxb c6
      generalize es[m].1.1 = x at *
      clear hvb
      have hg1 : gR f (facts (es.take (m + 1))) = stepG f (gR f (facts (es.take m))) x := by unfold gR; rw [hsn, List.foldl_append]; rfl
      have ht1 : tR f (facts (es.take (m + 1))) = stepT f (tR f (facts (es.take m))) x := by unfold tR; rw [hsn, List.foldl_append]; rfl
      have hs1 : sR f (facts (es.take (m + 1))) = stepS f (sR f (facts (es.take m))) x := by unfold sR; rw [hsn, List.foldl_append]; rfl
      have hl1 : lR f (facts (es.take (m + 1))) = stepL f (lR f (facts (es.take m))) x := by unfold lR; rw [hsn, List.foldl_append]; rfl
      generalize hG0 : gR f (facts (es.take m)) = G at hg1 ⊢
      generalize hT0 : tR f (facts (es.take m)) = T at ht1 ⊢
      generalize hS0 : sR f (facts (es.take m)) = S at hs1 ⊢
      generalize hL0 : lR f (facts (es.take m)) = L at hl1 ⊢
      have HSG := Lib.hid hg1
      have HST := Lib.hid ht1
      have HSS := Lib.hid hs1
      have HSL := Lib.hid hl1
      have HXB := Lib.hid hxb
      clear hsn hxb hg1 ht1 hs1 hl1 hG0 hT0 hS0 hL0
      go_upto_region 11 with fail
      obtain ⟨hw1, hX, hF1⟩ := cut_world HF.out x (.slice Ab x.bytes.length cb)
      unfold Fact.cells at hw1 hX hF1
      generalize wr.alloc _ = wb at *
      have hbb : Below w.heap.size w wb := below_tr hb hw1
      have hxb2 : Bs wb (· < wb.heap.size) (.slice Ab x.bytes.length cb) x.bytes := (HXB.out.below hw1).lt
      have hfb2 : Bs wb (· < wb.heap.size) (.slice Af f.bytes.length cf) f.bytes := (HV.out.belowB hbb).lt
      generalize wr.heap.size = q at *
      refine st_11 wb es.length b o c w.heap.size m q f x Ab Af cb cf G T S L _ hF1 hX hxb2 hfb2 rfl rfl rfl rfl rfl rfl rfl rfl rfl rfl (by assumption) ?_
      intro a k hr
      have hXn : FB (wb.drewN k) q x (.slice Ab x.bytes.length cb) := hX
      have hFn : FB (wb.drewN k) w.heap.size f (.slice Af f.bytes.length cf) := hF1
      have hBn : Below w.heap.size w (wb.drewN k) := below_dn hbb k
      clear c0 c1 c2 c3 c4 c5 c6 hw1 hX hF1 hbb hxb2 hfb2
      generalize wb.drewN k = wv at *
      refine wp_seq ?_
      refine st_14 wv es.length b o c w.heap.size m q f x _ _ _ _ _ _ a hFn hXn hr ?_
      clear hr a
      intro a hr
      refine wp_seq ?_
      refine st_23 wv es.length b o c w.heap.size m q f x _ _ _ _ _ _ a hFn hXn hr ?_
      clear hr a
      intro a hr
      refine wp_seq ?_
      refine st_25 wv es.length b o c w.heap.size m q f x _ _ _ _ _ _ a hFn hXn hr ?_
      clear hr a
      intro a hr
      refine wp_seq ?_
      refine st_27 wv es.length b o c w.heap.size m q f x _ _ _ _ _ _ a hFn hXn hr ?_
      clear hr a
      intro a hr
      refine wp_seq ?_
      refine st_29 wv es.length b o c w.heap.size m q f x _ _ _ _ _ _ a hFn hXn hr ?_
      clear hr a
      intro a hr
      refine wp_seq ?_
      refine st_31 wv es.length b o c w.heap.size m q f x _ _ _ _ _ _ a hFn hXn hr ?_
      clear hr a
      intro a hr
      refine wp_seq ?_
      refine st_33 wv es.length b o c w.heap.size m q f x _ _ _ _ _ _ a hFn hXn hr ?_
      clear hr a
      intro a hr
      refine wp_seq ?_
      refine st_35 wv es.length b o c w.heap.size m q f x _ _ _ _ _ _ a hFn hXn hr ?_
      clear hr a
      intro a hr
      refine st_37 (KK := fun _ _ => True) wv es.length b o c w.heap.size m q f x _ _ _ _ _ _ a hFn hXn hr ?_
      clear hr a
      intro a hr
      have hr' : RelM es.length b o c w.heap.size m q f x (stepG f G x) (stepT f T x) (stepS f S x) (stepL f L x) a := hr
      clear hr
      obtain ⟨hd, hs, h0, h3, h9, h5, h6, h7, h8, h10, h11, h12, h13⟩ := hr'
      have ha := frame_all a hd hs
      obtain ⟨g, hg⟩ : ∃ g : Nat → Value, (fun n => a.tmps[n]?.getD undef) = g := ⟨_, rfl⟩
      have g0 : g 0 = .slice (some ⟨b, o, none⟩) es.length c := by rw [← hg]; simp only [h0, Option.getD_some]
      have g3 : g 3 = .pointer (some ⟨w.heap.size, 0, none⟩) := by rw [← hg]; simp only [h3, Option.getD_some]
      have g9 : g 9 = .int .i64 m := by rw [← hg]; simp only [h9, Option.getD_some]
      have g5 : g 5 = .bool (stepG f G x) := by rw [← hg]; simp only [h5, Option.getD_some]
      have g6 : g 6 = .bool (stepT f T x) := by rw [← hg]; simp only [h6, Option.getD_some]
      have g7 : g 7 = .bool (stepS f S x) := by rw [← hg]; simp only [h7, Option.getD_some]
      have g8 : g 8 = .int .u32 ((stepL f L x) : Nat) := by rw [← hg]; simp only [h8, Option.getD_some]
      have g10 : g 10 = .pointer (some ⟨q, 0, none⟩) := by rw [← hg]; simp only [h10, Option.getD_some]
      have g11 : g 11 = .bool (f.forth x) := by rw [← hg]; simp only [h11, Option.getD_some]
      have g12 : g 12 = .bool (f.back x) := by rw [← hg]; simp only [h12, Option.getD_some]
      have g13 : g 13 = .bool (f.like x) := by rw [← hg]; simp only [h13, Option.getD_some]
      rw [hg, frame_lit, g0, g3, g9, g5, g6, g7, g8, g10, g11, g12, g13] at ha
      subst ha
      clear hd hs hg h0 h3 h9 h5 h6 h7 h8 h10 h11 h12 h13 g0 g3 g9 g5 g6 g7 g8 g10 g11 g12 g13
      have HFN := Lib.hid hFn
      have HBN := Lib.hid hBn
      clear hFn hXn hBn
      generalize stepG f G x = G1 at HSG ⊢
      generalize stepT f T x = T1 at HST ⊢
      generalize stepS f S x = S1 at HSS ⊢
      generalize stepL f L x = L1 at HSL ⊢
      go_wp2
      refine ⟨⟨trivial, rfl, rfl, rfl, m + 1, by omega, congrArg (fun z : Int => some (Value.int .i64 z)) (show (m : Int) + 1 = ((m + 1 : Nat) : Int) by omega), congrArg (fun b => some (Value.bool b)) HSG.out.symm, congrArg (fun b => some (Value.bool b)) HST.out.symm, congrArg (fun b => some (Value.bool b)) HSS.out.symm, congrArg (fun n : Nat => some (Value.int .u32 (n : Int))) HSL.out.symm, HBN.out, HFN⟩, ?_⟩
      show es.length - ((m : Int) + 1).toNat < _
      omega
    · have hml : m = es.length := by omega
      subst hml
      rw [List.take_length]
      rename_i Qx Kx hKx
      have HKx := Lib.hid hKx
      clear hKx
      go_wp2
      apply HKx.out
      exact st_after A c w es hle f _ HKK.out HS.out hn HG.out wr hb HF _ ⟨rfl, rfl, rfl, rfl, rfl, rfl, rfl, rfl⟩


end Go.Proofs.Ytfdijgdojejimaa
