/- Layer 2's laws: a disk that was worn. No condition beyond sizes. -/
import Derived.Test.YthjlmkmijehnjaaDpL
namespace Go.Proofs.Ythjlmkmijehnjaa
open Go.RowKit Go.Shelf K L
set_option linter.unusedVariables false
set_option linter.unusedSimpArgs false

theorem size_op : (Try.prog.info? 32).map (·.size) = some 4 := by kernel_rfl
/-- No op. -/
def zop : List Value := [.int .i64 0, .int .i64 0, .int .u8 0, .slice none 0 0]
theorem zero_op : ∀ w, (zeroValue 32).run Try.prog w = .ok (.agg zop.toArray) w := zero_of (by kernel_rfl)
theorem one_de {o : DOp} {A : Option Addr} {n c : Nat} : (DE.cells (o, .slice A n c)).toArray.all (·.oneCell') = true := by simp [DE.cells, Value.oneCell']
theorem size_de (e : DE) : (Try.prog.info? 32).map (·.size) = some e.cells.length := size_op
theorem Goes.low {w W w2 : World} {S : Nat → Prop} {b : Nat} {d : PD} (hb : Below w.heap.size w W) (h : Goes W S b d w2) (hS : ∀ x, S x → w.heap.size ≤ x) : ∃ S', (∀ x, S' x → w.heap.size ≤ x) ∧ IsD w2 S' b d ∧ Below w.heap.size w w2 := by
  obtain ⟨S', h1, h2, h3⟩ := h
  exact ⟨S', fun x hx => (h1 x hx).elim (hS x) (Nat.le_trans hb.size), h2, hb.trans (h3.below hb.size hS)⟩

/-- What an op's cells hold. -/
theorem de_cells {w : World} {p : Nat} {e : DE} (h : w.heap[p]? = some (.cells e.cells.toArray 32 (0, 0))) : w.cell? ⟨p, 0, none⟩ = some (.int .i64 e.1.kind) ∧ w.cell? ⟨p, 1, none⟩ = some (.int .i64 e.1.at_) ∧ w.cell? ⟨p, 2, none⟩ = some (.int .u8 (e.1.fill.toNat : Int)) ∧ w.cell? ⟨p, 3, none⟩ = some e.2 := by
  refine ⟨?_, ?_, ?_, ?_⟩ <;> (rw [cell_in h]; rfl)
theorem Ds.at_ {w : World} {F : Nat → Prop} {A : Option Addr} {n c : Nat} {es : List DE} (h : Ds w F (.slice A n c) es) (j : Nat) (hj : j < es.length) :
    ∃ b o, A = some ⟨b, o, none⟩ ∧ w.rangeAt b (o + j * 4) es[j].cells ∧ Sl w F 1 es[j].2 es[j].1.keep.length (es[j].1.keep.map Value.bool) ∧ es[j].1.okk := by
  obtain ⟨b, o, hA, _, hr⟩ := sl_range (f := DE.cells) (k := 4) (fun _ _ => rfl) (by decide) h.row j hj
  exact ⟨b, o, hA, hr, h.inn _ (List.getElem_mem hj)⟩
theorem Ds.low {w : World} {F : Nat → Prop} {v : Value} {es : List DE} (h : Ds w F v es) : Ds w (· < w.heap.size) v es := ⟨Sl.imp_lt h.row (by decide), fun e he => ⟨Sl.imp_lt (h.inn e he).1 (by decide), (h.inn e he).2⟩⟩
theorem Ds.len {w : World} {F : Nat → Prop} {A : Option Addr} {n c : Nat} {es : List DE} (h : Ds w F (.slice A n c) es) : n = es.length := by obtain ⟨⟨_, A', c', e, _⟩, _⟩ := h; cases e; rfl
theorem Ds.form {w : World} {F : Nat → Prop} {v : Value} {es : List DE} (h : Ds w F v es) : ∃ A c, v = .slice A es.length c := by obtain ⟨⟨_, A', c', e, _⟩, _⟩ := h; exact ⟨A', c', e⟩
theorem worn_take (es : List DE) (j : Nat) (hj : j < es.length) : worn ((es.take (j + 1)).map (·.1)) = wstep (worn ((es.take j).map (·.1))) es[j].1 := by
  rw [List.take_add_one, List.getElem?_eq_getElem hj, List.map_append]; exact worn_snoc _ _
theorem worn_ops (es : List DE) (j : Nat) : (worn ((es.take j).map (·.1))).ops ≤ j := Nat.le_trans (worn_fine _).2 (by simp; omega)

set_option maxRecDepth 100000 in
set_option maxHeartbeats 8000000 in
theorem worn_any (v : Value) (es : List DE) (w : World) (F : Nat → Prop) (h : Ds w F v es) :
    Calls Try.prog 11 #[v] w fun e w' => ∃ b S, e = .returned (.pointer (some ⟨b, 0, none⟩)) ∧ IsD w' S b (worn ((es.take 120).map (·.1))) ∧ (∀ x, S x → w.heap.size ≤ x) ∧ Below w.heap.size w w' := by
  have H := Lib.hid h.low
  obtain ⟨A0, c0, rfl⟩ := h.form
  clear h
  go_enter Try.func11, Try.ntmps11
  go_wp2_with fail
  refine (new_yes 6 w (by decide) (by decide)).mono ?_
  rintro r w1 ⟨b, rfl, hd1, hb1⟩
  have HF := Lib.hid (few_any _ es w1 _ (Ds.below H.out hb1))
  have HD1 := Lib.hid hd1
  have HB1 := Lib.hid hb1
  clear hd1 hb1
  dsimp only
  go_wp2_with fail
  refine HF.out.mono ?_
  rintro r w2 ⟨v2, rfl, hds, rfl⟩
  have hl120 : (es.take 120).length ≤ 120 := by simp; omega
  obtain ⟨ks, hks⟩ : ∃ ks, es.take 120 = ks := ⟨_, rfl⟩
  rw [hks] at hds hl120
  have HDS := Lib.hid hds
  have HKS := Lib.hid hks
  clear hks
  obtain ⟨A, c, rfl⟩ := hds.form
  clear hds HF
  dsimp only
  go_wp2
  go_loopw [20] (fun i wr => ∃ j : Nat, j ≤ ks.length ∧ i = .int .i64 j ∧ Upd (w.heap.size ≤ ·) w1 wr ∧ ∃ S, (∀ x, S x → w.heap.size ≤ x) ∧ IsD wr S b (worn ((ks.take j).map (·.1)))) (fun i _ => ks.length - (intOf i).toNat)
  case atStart => exact ⟨0, Nat.zero_le _, rfl, Upd.refl _ _, _, fun _ h => h.1, HD1.out⟩
  case round =>
    obtain ⟨j, hj, rfl, hu, S, hS, hI⟩ := hrel
    by_cases hlt : j < ks.length
    · have hds := Ds.upd HDS.out hu (fun x hx => by omega)
      obtain ⟨q, oq, rfl, hr, hvk, hok⟩ := hds.at_ j hlt
      have hst := worn_take ks j hlt
      have hop := worn_ops ks j
      generalize ks[j] = e at *
      generalize worn ((ks.take j).map (·.1)) = d at *
      obtain ⟨o, vk⟩ := e
      dsimp only at hvk hok hst
      obtain ⟨Ak, ck, rfl⟩ : ∃ A c, vk = .slice A o.keep.length c := by obtain ⟨-, A, c, h, -⟩ := hvk; exact ⟨A, c, h⟩
      obtain ⟨W, hW⟩ : ∃ W, wr.alloc (.cells (DE.cells (o, .slice Ak o.keep.length ck)).toArray 32) = W := ⟨_, rfl⟩
      have hb0 : Below wr.heap.size wr W := by rw [← hW]; exact below_al (Below.refl _ _) _
      have hx0 : W.heap[wr.heap.size]? = some (.cells (DE.cells (o, .slice Ak o.keep.length ck)).toArray 32 (0, 0)) := by rw [← hW]; exact heap_alloc_last _ _
      have HK := Lib.hid (kind_any2 (o, .slice Ak o.keep.length ck) W hok.k1 hok.k2 ⟨_, _, _, rfl⟩)
      unfold DE.agg at HK
      dsimp only at HK
      have HR := Lib.hid hr
      have HW := Lib.hid hW
      have HX := Lib.hid hx0
      have HI := Lib.hid (hI.below hb0)
      have HU := Lib.hid (hu.trans (T := fun _ => False) (Upd.of_below hb0) (fun _ _ h => h.elim))
      have HV := Lib.hid (Sl.below hvk (by decide) hb0)
      have HOK := Lib.hid hok
      have HS := Lib.hid hS
      have HST := Lib.hid hst
      have hjl : j ≤ 120 := by omega
      have HB1 := Lib.hid HB1.out.size
      clear hds hr hvk hok hW hb0 hx0 hI hu hS hst
      go_wp2_with (first | (refine wpList_load_mid rfl 32 _ rfl _ _ rfl _ _ HR.out Try.underlying32 rfl (size_de _) ?_) | (refine wl_alloc rfl 32 rfl zero_op ?_) | (refine wl_store_new rfl 32 _ _ rfl _ (DE.cells (o, .slice Ak o.keep.length ck)).toArray _ rfl rfl size_op rfl one_de ?_; rw [HW.out]) | (refine wpList_load_row rfl 32 _ rfl _ rfl _ _ _ _ HX.out Try.underlying32 rfl size_op ?_) | fail)
      refine HK.out.mono ?_
      rintro r w3 ⟨rfl, hb3⟩
      have HX3 := Lib.hid (heap_bl hb3 HX.out)
      have HI3 := Lib.hid (HI.out.below hb3)
      have HU3 := Lib.hid (HU.out.trans (T := fun _ => False) (Upd.of_below hb3) (fun _ _ h => h.elim))
      have HV3 := Lib.hid (Sl.below HV.out (by decide) hb3)
      clear hb3
      dsimp only
      by_cases hk : opk o.kind < 3
      · have HD := Lib.hid (does_any HI3.out (by omega) (o, .slice Ak o.keep.length ck) _ HOK.out HV3.out)
        unfold DE.agg at HD
        rw [wstep, if_pos hk] at HST
        go_wp2_with (first | (refine wpList_load_row rfl 32 _ rfl _ rfl _ _ _ _ HX3.out Try.underlying32 rfl size_op ?_) | fail)
        refine HD.out.mono ?_
        rintro r w4 ⟨rfl, S', h1, h2, h3⟩
        have HS' := Lib.hid (show ∀ x, S' x → w.heap.size ≤ x from fun x hx => (h1 x hx).elim (HS.out x) (fun h => Nat.le_trans (Nat.le_trans HB1.out HU3.out.size) h))
        have HI4 := Lib.hid h2
        have HU4 := Lib.hid (HU3.out.trans h3 (fun x _ hx => HS.out x hx))
        clear h1 h2 h3
        dsimp only
        go_wp2
        exact ⟨⟨j + 1, by omega, by go_num, HU4.out, S', HS'.out, by rw [HST.out]; exact HI4.out⟩, by simp only [intOf]; omega⟩
      · rw [wstep, if_neg hk] at HST
        go_wp2
        exact ⟨⟨j + 1, by omega, by go_num, HU3.out, S, HS.out, by rw [HST.out]; exact HI3.out⟩, by simp only [intOf]; omega⟩
    · obtain rfl : j = ks.length := by omega
      rw [List.take_of_length_le (Nat.le_refl _)] at hI
      have HI := Lib.hid hI
      have HS := Lib.hid hS
      have HBF := Lib.hid (HB1.out.trans (hu.below (B := w.heap.size) HB1.out.size (fun _ h => h)))
      clear hI hS hu
      go_wp2
      go_ret
      exact ⟨b, S, rfl, by rw [HKS.out]; exact HI.out, HS.out, HBF.out⟩

end Go.Proofs.Ythjlmkmijehnjaa
