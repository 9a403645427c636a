/- Law 27's walk: IdealTells; its plain law. No condition beyond sizes. -/
import Derived.Test.YtfdijgdojejimaaId11
namespace Go.Proofs.Ytfdijgdojejimaa
open Go.RowKit Go.Shelf K L
set_option linter.unusedVariables false
set_option linter.unusedSimpArgs false

theorem hv_none (l : List Fact) (k : Int) (p : Fact → Bool) (h : ∀ x ∈ l, x.kind ≠ k) : hv l k p = false := by
  unfold hv
  rw [List.any_eq_false]
  intro x hx
  simp [h x hx]

theorem may_tell (l : List Fact) (f : Fact) (hl : ∀ x ∈ l, x.kind = 5) (hf : 5 < f.kind) : may l f = false := by
  have h1 := fun p => hv_none l 1 p (fun x hx => by rw [hl x hx]; decide)
  have h2 := fun p => hv_none l 2 p (fun x hx => by rw [hl x hx]; decide)
  have h4 := fun p => hv_none l 4 p (fun x hx => by rw [hl x hx]; decide)
  unfold may
  rw [if_neg (by omega), if_neg (by omega), if_neg (by omega), if_neg (by omega), if_neg (by omega), h1, h1, h2, h4, h4]
  simp

theorem bad_crash (l : List Fact) (j : Nat) (hj : j < l.length) (h : l[j].kind = 5) : badAt l j = false := by
  unfold badAt
  rw [List.getElem?_eq_getElem hj, Option.getD_some, may_eq5 _ _ h]; rfl

theorem tells_none (l : List Fact) (h : ∀ x ∈ l, x.kind = 5) : judg l = l.length :=
  judg_miss l fun j hj => bad_crash l j hj (h _ (List.getElem_mem hj))

theorem tells_some (l : List Fact) (h : ∀ x ∈ l, 5 ≤ x.kind) (hs : ∃ x ∈ l, 5 < x.kind) : ∃ h : judg l < l.length, 5 < l[judg l].kind := by
  obtain ⟨x, hx, hk⟩ := hs
  have hi : l.findIdx (fun x => decide (5 < x.kind)) < l.length := List.findIdx_lt_length_of_exists ⟨x, hx, by simpa using hk⟩
  have hgt : 5 < l[l.findIdx (fun x => decide (5 < x.kind))].kind := by
    have := List.findIdx_getElem (w := hi)
    simpa using this
  have hpre : ∀ j, (hj : j < l.findIdx (fun x => decide (5 < x.kind))) → (l[j]'(by omega)).kind = 5 := by
    intro j hj
    have h1 := List.not_of_lt_findIdx hj
    have h2 := h _ (List.getElem_mem (show j < l.length by omega))
    simp at h1
    omega
  have hbad : badAt l (l.findIdx (fun x => decide (5 < x.kind))) = true := by
    unfold badAt
    rw [List.getElem?_eq_getElem hi, Option.getD_some, may_tell _ _ _ hgt]; rfl
    intro y hy
    obtain ⟨j, hj, rfl⟩ := List.getElem_of_mem hy
    rw [List.getElem_take]
    exact hpre j (by rw [List.length_take] at hj; omega)
  have hJ := judg_hit l _ hi hbad (fun j hj => bad_crash l j (by omega) (hpre j hj))
  have hJ' : judg l < l.length := by rw [hJ]; exact hi
  refine ⟨hJ', ?_⟩
  simp only [hJ]
  exact hgt

def told5 (e : FE) : Bool := decide (5 ≤ e.1.kind)
def told6 (e : FE) : Bool := decide (5 < e.1.kind)

set_option maxRecDepth 100000 in
set_option maxHeartbeats 8000000 in
theorem idealTells_walk (v : Value) (w : World) (es : List FE) (hle : es.length ≤ 1048576) (hL : Ls w v es) (hg : ∀ e ∈ es, e.1.number < 4294967296) :
    Calls Try.prog 7 #[v] w fun e w' => e = .returned (.bool true) ∧ Below w.heap.size w w' := by
  have hL' := hL
  obtain ⟨⟨-, A, c, rfl, l1, l2, -, -⟩, -⟩ := hL
  unfold maxLen at l2
  go_enter Try.func7, Try.ntmps7
  go_wp2_with fail
  refine (wakes_any w).mono ?_
  rintro e w1 ⟨rfl, hb1⟩
  have hL1 := hL'.below hb1
  go_wp2_with fail
  refine (large_any _ w1 es hle hL1).mono ?_
  rintro e w2 ⟨rfl, hb2⟩
  have hb := below_tr hb1 hb2
  clear hb1 hb2 hL1
  cases hq : largeL (es.map (·.1))
  · go_wp2
    go_loopw [3, 4, 6, 15] (fun s t _ i wr => ∃ k : Nat, k ≤ es.length ∧ i = .int .i64 k ∧ t = .int .i64 (((es.take k).countP told6 : Nat)) ∧ wr.ownsRow w.heap.size 26 7 s ((es.take k).filter told5).length (((es.take k).filter told5).flatMap FE.cells) ∧ Below w.heap.size w wr) (fun _ _ _ i _ => es.length - (intOf i).toNat)
    case atStart => exact ⟨0, Nat.zero_le _, rfl, rfl, World.ownsRow_nil _ _ _ _, hb⟩
    case round =>
      clear hb
      obtain ⟨k, hk, rfl, rfl, ho, hb⟩ := hrel
      by_cases hlt : k < es.length
      · obtain ⟨b, o, Ab, cb, rfl, hbl, hvb, c0, c1, c2, c3, c4, c5, c6⟩ := (hL'.below hb).at k hlt
        have hone := one_fact (hL'.2 _ (List.getElem_mem hlt)).1
        have hcnt : (es.take k).countP told6 ≤ k := Nat.le_trans List.countP_le_length (by simp; omega)
        have hfl : ((es.take k).filter told5).length ≤ k := Nat.le_trans (List.length_filter_le _ _) (by simp; omega)
        have hsz := hb.size
        have hsn := take_snoc es k hlt
        have hf5 : (es.take (k + 1)).filter told5 = (es.take k).filter told5 ++ (if told5 es[k] = true then [es[k]] else []) := by
          rw [hsn, List.filter_append]
          congr 1
          cases h : told5 es[k] <;> simp [h]
        have hf6 : (es.take (k + 1)).countP told6 = (es.take k).countP told6 + (if told6 es[k] = true then 1 else 0) := by
          rw [hsn, List.countP_append, List.countP_singleton]
        have hcells : es[k].cells = [.int .i64 es[k].1.kind, .int .i64 es[k].1.node, .int .i64 es[k].1.frm, .int .u32 (es[k].1.number : Nat), .string ⟨es[k].1.name.toArray⟩, .int .i64 es[k].1.code, .slice Ab es[k].1.bytes.length cb] := by
          unfold FE.cells Fact.cells; rw [hvb]
        rw [hcells] at hone
        have ht5 : told5 es[k] = decide (5 ≤ es[k].1.kind) := rfl
        have ht6 : told6 es[k] = decide (5 < es[k].1.kind) := rfl
        generalize es[k] = y at *
        obtain ⟨x, vb⟩ := y
        dsimp only at c0 c1 c2 c3 c4 c5 c6 hvb hcells hone ht5 ht6
        have HF5 := Lib.hid hf5
        have HF6 := Lib.hid hf6
        have HONE := Lib.hid hone
        have HC := Lib.hid hcells
        have HT5 := Lib.hid ht5
        have HT6 := Lib.hid ht6
        clear hf5 hf6 hone hcells ht5 ht6 hvb hsn
        generalize hr : (es.take k).filter told5 = r at *
        generalize hn : (es.take k).countP told6 = n at *
        clear hr hn
        have hlit := Sl.lit (wr.alloc (.cells #[.int .i64 x.kind, .int .i64 x.node, .int .i64 x.frm, .int .u32 (x.number : Nat), .string ⟨x.name.toArray⟩, .int .i64 x.code, .slice Ab x.bytes.length cb] 26)) [.int .i64 x.kind, .int .i64 x.node, .int .i64 x.frm, .int .u32 (x.number : Nat), .string ⟨x.name.toArray⟩, .int .i64 x.code, .slice Ab x.bytes.length cb] 26 7 1 rfl (by simp [maxLen])
        simp only [World.size_alloc] at hlit
        have HLIT := Lib.hid hlit
        clear hlit
        have hbox : ((wr.alloc (.cells #[.int .i64 x.kind, .int .i64 x.node, .int .i64 x.frm, .int .u32 (x.number : Nat), .string ⟨x.name.toArray⟩, .int .i64 x.code, .slice Ab x.bytes.length cb] 26)).alloc (.cells #[.int .i64 x.kind, .int .i64 x.node, .int .i64 x.frm, .int .u32 (x.number : Nat), .string ⟨x.name.toArray⟩, .int .i64 x.code, .slice Ab x.bytes.length cb] 26)).cell? ⟨wr.heap.size, 0, none⟩ = some (.int .i64 x.kind) := cell_al (cell_of (heap_new wr _) 0) _
        have HBOX := Lib.hid hbox
        clear hbox
        have HLT := Lib.hid (fun r e => (World.ownsRow.lt ho r e).2)
        by_cases h5 : 5 ≤ x.kind
        · have hd5 : decide ((5 : Int) ≤ x.kind) = true := by simp [h5]
          have HH5 := Lib.hid h5
          by_cases h6 : 5 < x.kind
          · have hd6 : decide ((5 : Int) < x.kind) = true := by simp [h6]
            have HH6 := Lib.hid h6
            clear h5 h6
            go_wp2_with (at_builtin; go_must (refine app elF rfl _ _ rfl w.heap.size (World.ownsRow.alloc (World.ownsRow.alloc ho _) _) HLIT.out rfl rfl HONE.out (by omega) (by omega) (by simp; omega) ?_); intro v2 w3 ho2 hg2; have q0 := hg2.cell HBOX.out (fun e => by have := HLT.out _ e.symm; dsimp only at this; omega))
            refine ⟨⟨k + 1, by omega, by go_num, ?_, ?_, ?_⟩, by simp only [intOf]; omega⟩
            · rw [HF6.out, HT6.out, hd6]; go_num
            · rw [HF5.out, HT5.out, hd5]
              exact row_cast ho2 (by simp) (by rw [if_pos rfl, List.flatMap_append]; simp [HC.out])
            · exact own_below (hb.alloc (by omega) _ |>.alloc (by simp; omega) _) (World.ownsRow.alloc (World.ownsRow.alloc ho _) _) hg2 (Nat.le_refl _)
          · have hd6 : decide ((5 : Int) < x.kind) = false := by simp [h6]
            have HH6 := Lib.hid h6
            clear h5 h6
            go_wp2_with (at_builtin; go_must (refine app elF rfl _ _ rfl w.heap.size (World.ownsRow.alloc (World.ownsRow.alloc ho _) _) HLIT.out rfl rfl HONE.out (by omega) (by omega) (by simp; omega) ?_); intro v2 w3 ho2 hg2; have q0 := hg2.cell HBOX.out (fun e => by have := HLT.out _ e.symm; dsimp only at this; omega))
            refine ⟨⟨k + 1, by omega, by go_num, ?_, ?_, ?_⟩, by simp only [intOf]; omega⟩
            · rw [HF6.out, HT6.out, hd6]; rfl
            · rw [HF5.out, HT5.out, hd5]
              exact row_cast ho2 (by simp) (by rw [if_pos rfl, List.flatMap_append]; simp [HC.out])
            · exact own_below (hb.alloc (by omega) _ |>.alloc (by simp; omega) _) (World.ownsRow.alloc (World.ownsRow.alloc ho _) _) hg2 (Nat.le_refl _)
        · have hd5 : decide ((5 : Int) ≤ x.kind) = false := by simp; omega
          have hd6 : decide ((5 : Int) < x.kind) = false := by simp; omega
          have HH5 := Lib.hid h5
          clear h5
          go_wp2
          refine ⟨⟨k + 1, by omega, by go_num, ?_, ?_, hb.alloc (by omega) _⟩, by simp only [intOf]; omega⟩
          · rw [HF6.out, HT6.out, hd6]; rfl
          · rw [HF5.out, HT5.out, hd5]
            exact row_cast (World.ownsRow.alloc ho _) (by simp) (by simp)
      · obtain rfl : k = es.length := by omega
        rw [List.take_length] at ho ⊢
        have hLr : Ls wr u3 (es.filter told5) := ⟨(Sl.of_own ho).imp_lt (by decide), fun e he => by
          have := (hL'.below hb).2 e (List.mem_filter.1 he).1
          exact this⟩
        have hlr : (es.filter told5).length ≤ es.length := List.length_filter_le _ _
        have hgr : ∀ e ∈ es.filter told5, e.1.number < 4294967296 := fun e he => hg e (List.mem_filter.1 he).1
        have hge : ∀ x ∈ (es.filter told5).map (·.1), 5 ≤ x.kind := by
          intro x hx
          obtain ⟨e, he, rfl⟩ := List.mem_map.1 hx
          have := (List.mem_filter.1 he).2
          simpa [told5] using this
        have hc0 : es.countP told6 = 0 → ∀ x ∈ (es.filter told5).map (·.1), x.kind = 5 := by
          intro h0 x hx
          obtain ⟨e, he, rfl⟩ := List.mem_map.1 hx
          have h1 := List.countP_eq_zero.1 h0 e (List.mem_filter.1 he).1
          have h2 := hge _ (List.mem_map.2 ⟨e, he, rfl⟩)
          simp [told6] at h1
          omega
        have hc1 : es.countP told6 ≠ 0 → ∃ x ∈ (es.filter told5).map (·.1), 5 < x.kind := by
          intro h0
          obtain ⟨e, he, h6⟩ := List.countP_pos_iff.1 (Nat.pos_of_ne_zero h0)
          have h6' : 5 < e.1.kind := by simpa [told6] using h6
          exact ⟨e.1, List.mem_map.2 ⟨e, List.mem_filter.2 ⟨he, by simp [told5]; omega⟩, rfl⟩, h6'⟩
        have hcl : es.countP told6 ≤ es.length := List.countP_le_length
        generalize es.filter told5 = r at *
        generalize es.countP told6 = n at *
        have hLr' := hLr
        obtain ⟨⟨-, Ar, cr, rfl, r1, r2, -, -⟩, -⟩ := hLr
        unfold maxLen at r2
        clear ho
        have HGE := Lib.hid hge
        have HC0 := Lib.hid hc0
        have HC1 := Lib.hid hc1
        clear hge hc0 hc1
        go_wp2_with fail
        refine (judge_any _ wr r (by omega) hLr' hgr).mono ?_
        rintro e wj ⟨rfl, hbj⟩
        have hLj := hLr'.below hbj
        have hbf := below_tr hb hbj
        clear hLr' hb hbj hgr
        by_cases h0 : n = 0
        · have hJ : judg (r.map (·.1)) = r.length := by rw [tells_none _ (HC0.out h0)]; simp
          rw [if_pos hJ, hJ]
          have hd0 : ((n : Int) == 0) = true := by simp [h0]
          have HZ := Lib.hid h0
          have hdd : (((r.length : Nat) : Int) == ((r.length : Nat) : Int)) = true := by simp
          clear h0 hJ
          go_wp2
          go_ret
          exact ⟨rfl, hbf⟩
        · obtain ⟨hlt2, hgt⟩ := tells_some _ HGE.out (HC1.out h0)
          have hlt3 : judg (r.map (·.1)) < r.length := by simpa using hlt2
          have hne : ¬ judg (r.map (·.1)) = r.length := by omega
          rw [if_neg hne]
          obtain ⟨br, orr, e0, -, -, d0, -, -, -, -, -, -⟩ := row_at hLj.1 _ hlt3
          have hgt' : 5 < (r[judg (r.map (·.1))]'hlt3).1.kind := by simpa using hgt
          generalize (r[judg (r.map (·.1))]'hlt3).1.kind = K0 at *
          clear hgt hne hlt2
          generalize judg (r.map (·.1)) = J at *
          have hd0 : ((n : Int) == 0) = false := by simp [h0]
          have hd6 : decide ((5 : Int) < K0) = true := by simp [hgt']
          have HZ := Lib.hid h0
          have HZ2 := Lib.hid hgt'
          clear h0 hgt'
          subst e0
          go_wp2
          go_ret
          exact ⟨rfl, hbf⟩
  · go_wp2
    go_ret
    exact ⟨rfl, hb⟩

end Go.Proofs.Ytfdijgdojejimaa
