/- Layer 2's laws: what all sectors hold; two rows of blocks held against each other. No condition beyond sizes. -/
import Derived.Test.YthjlmkmijehnjaaDl4
import Derived.Test.YthjlmkmijehnjaaSr
namespace Go.Proofs.Ythjlmkmijehnjaa
open Go.RowKit Go.Shelf K L
set_option linter.unusedVariables false
set_option linter.unusedSimpArgs false

theorem row_blk (b : Blk) (hb : b.length = 64) (w : World) : (Instr.buildSlice 35 1 #[(0, .agg (bvs b).toArray)]).run Try.prog w = .ok (.slice (some ⟨w.heap.size, 0, none⟩) 1 1) (w.alloc (.cells (bvs b).toArray 27)) :=
  run_row_one (n := 64) Try.underlying35 zero_block (by rw [List.size_toArray, bvs_len]; rfl) (size_of (by kernel_rfl)) (by decide) (by decide) _ (by rw [List.size_toArray, bvs_len, hb]) w

def PD.helds (d : PD) (k : Nat) : List Blk := (List.range k).map d.holds
theorem PD.helds_succ (d : PD) (k : Nat) : (d.helds (k + 1)).flatMap bvs = (d.helds k).flatMap bvs ++ bvs (d.holds k) := by unfold PD.helds; rw [List.range_succ]; simp
theorem PD.read_fine {d : PD} (hd : d.dead = false) (hf : d.fails = 0) (j : Nat) (hj : j < d.safe.length) : d.read j = (0, d.holds j, { d with ops := d.ops + 1 }) := by
  have h := PD.ready_4 (d := d) (i := (j : Int)) hd (by omega) (by omega) (by omega)
  rw [PD.read_yes (by rw [h]), h]; rfl
/-- .. many times. -/
def PD.done (d : PD) (k : Nat) : PD := { d with ops := d.ops + k }
theorem IsD.lt {w : World} {S : Nat → Prop} {b : Nat} {d : PD} (h : IsD w S b d) : ∀ x, S x → x < w.heap.size := by obtain ⟨_, _, h⟩ := h; exact h.lt
theorem IsD.ok {w : World} {S : Nat → Prop} {b : Nat} {d : PD} (h : IsD w S b d) : d.ok := by obtain ⟨_, _, h⟩ := h; exact h.ok

set_option maxRecDepth 100000 in
set_option maxHeartbeats 4000000 in
theorem held_any {w : World} {S : Nat → Prop} {b : Nat} {d : PD} (h : IsD w S b d) (hn : d.ops + d.safe.length < 1073741823) (hd : d.dead = false) (hf : d.fails = 0) :
    Calls Try.prog 15 #[.pointer (some ⟨b, 0, none⟩)] w fun e w' => ∃ v, e = .returned v ∧ w'.ownsRow w.heap.size 27 64 v d.safe.length ((d.helds d.safe.length).flatMap bvs) ∧ IsD w' S b (d.done d.safe.length) ∧ Upd S w w' := by
  obtain ⟨vs, vp, hD⟩ := h
  have HL := Lib.hid (len_any hD)
  have hfew := hD.ok.few
  have hlt := hD.lt
  have HH := Lib.hid (show IsD w S b d from ⟨vs, vp, hD⟩)
  have HLT := Lib.hid hlt
  have HD := Lib.hid hd
  have HF := Lib.hid hf
  have HOK := Lib.hid hD.ok
  clear hD hlt hd hf
  go_enter Try.func15, Try.ntmps15
  go_wp2_with fail
  refine HL.out.mono ?_
  rintro r w1 ⟨rfl, rfl⟩
  dsimp only
  go_wp2
  go_loopw [3, 9] (fun v i wr => ∃ j : Nat, j ≤ d.safe.length ∧ i = .int .i64 j ∧ wr.ownsRow w.heap.size 27 64 v j ((d.helds j).flatMap bvs) ∧ IsD wr S b (d.done j) ∧ Upd S w wr) (fun _ i _ => d.safe.length - (intOf i).toNat)
  case atStart => exact ⟨0, Nat.zero_le _, rfl, World.ownsRow_nil _ _ _ _, HH.out, Upd.refl _ _⟩
  case round =>
    obtain ⟨j, hj, rfl, ho, hI, hu⟩ := hrel
    by_cases hlt : j < d.safe.length
    · have HR := Lib.hid (read_any hI (by unfold PD.done; dsimp only; omega) j (by omega) (by omega))
      rw [PD.read_fine (d := d.done j) HD.out HF.out j hlt, show (d.done j).holds j = d.holds j from rfl, show ({ d.done j with ops := (d.done j).ops + 1 } : PD) = d.done (j + 1) from rfl] at HR
      have HB := Lib.hid (PD.blk_holds HOK.out j)
      have HS := Lib.hid (PD.helds_succ d j)
      generalize d.holds j = bl at *
      have HO := Lib.hid ho
      have HU := Lib.hid hu
      obtain ⟨A, c, rfl⟩ := own_at_slice ho
      clear ho hI hu
      go_wp2_with fail
      refine HR.out.mono ?_
      rintro r w2 ⟨rfl, hI2, hu2⟩
      have ho2 := hu2.own HO.out (fun g hg hS => by have := (HO.out.lt g hg).1; have := HLT.out g hS; omega)
      obtain ⟨W3, hW3⟩ : ∃ W3, w2.alloc (.cells (bvs bl).toArray 27) = W3 := ⟨_, rfl⟩
      have hb3 : Below w2.heap.size w2 W3 := by rw [← hW3]; exact below_al (Below.refl _ _) _
      have hx3 : W3.heap[w2.heap.size]? = some (.cells (bvs bl).toArray 27 (0, 0)) := by rw [← hW3]; exact heap_alloc_last _ _
      obtain ⟨W4, hW4⟩ : ∃ W4, W3.alloc (.cells (bvs bl).toArray 27) = W4 := ⟨_, rfl⟩
      have hb4 : Below W3.heap.size W3 W4 := by rw [← hW4]; exact below_al (Below.refl _ _) _
      have hx4 : W4.heap[W3.heap.size]? = some (.cells (bvs bl).toArray 27 (0, 0)) := by rw [← hW4]; exact heap_alloc_last _ _
      have hb34 := below_tr hb3 hb4
      have HO4 := Lib.hid (own_keep ho2 (fun g hg => hb34.block g (ho2.lt g hg).2))
      have HI4 := Lib.hid (hI2.below hb34)
      have HU4 := Lib.hid ((HU.out.trans hu2 (fun _ _ h => h)).trans (T := fun _ => False) (Upd.of_below hb34) (fun _ _ h => h.elim))
      have HSR := Lib.hid (row_of_heap (k := 64) hx4 (by rw [bvs_len, HB.out]) (by decide))
      have HX3 := Lib.hid hx3
      have HW3 := Lib.hid hW3
      have HW4 := Lib.hid hW4
      have hsz := HU4.out.size
      clear hI2 hu2 ho2 hW3 hb3 hx3 hW4 hb4 hx4 hb34
      dsimp only
      go_wp2_with (first | (refine wl_alloc rfl 27 rfl zero_block ?_) | (refine wl_store_new rfl 27 _ _ rfl _ (bvs bl).toArray _ rfl rfl (size_blk HB.out) (size_zb HB.out) (one_blk _) ?_; rw [HW3.out]) | (refine wpList_load_row rfl 27 _ rfl _ rfl _ _ _ _ HX3.out Try.underlying27 rfl (size_blk HB.out) ?_) | (refine wl_buildSlice rfl 35 1 _ rfl (vs := #[(0, .agg (bvs bl).toArray)]) (by simp [Act.eval, Act.put]) (row_blk bl HB.out _) ?_; rw [HW4.out]) | (refine app2 elB rfl _ _ rfl w.heap.size HO4.out HSR.out rfl rfl (one_bvs _) (by omega) (by decide) hsz ?_; intro v5 w5 ho5 hg5 hv5; have HO5 := Lib.hid ho5; have HG5 := Lib.hid hg5; clear ho5 hg5 hv5) | fail)
      have hbk : ∀ g, (Value.slice A j c).ownBlock = some g → w.heap.size ≤ g := fun g hg => (HO.out.lt g hg).1
      have hu5 : Upd (fun x => some x = (Value.slice A j c).ownBlock) W4 w5 := Upd.of_grown HG5.out
      exact ⟨⟨j + 1, by omega, by go_num, by rw [HS.out]; exact HO5.out, HI4.out.keep hu5 (fun x hS hx => by have := hbk x hx.symm; have := HLT.out x hS; omega), HU4.out.trans hu5 (fun x hx hT => by have := hbk x hT.symm; omega)⟩, by simp only [intOf]; omega⟩
    · obtain rfl : j = d.safe.length := by omega
      have HO := Lib.hid ho
      have HU := Lib.hid hu
      have HI := Lib.hid hI
      clear ho hI hu
      go_wp2
      go_ret
      exact ⟨_, rfl, HO.out, HI.out, HU.out⟩


theorem beq_take {xs ys : List Blk} (hl : xs.length = ys.length) : ∀ {j : Nat}, j < xs.length → xs[j]? ≠ ys[j]? → (xs == ys) = false := fun {j} hj h => by
  rw [beq_eq_false_iff_ne]; intro e; rw [e] at h; exact h rfl

set_option maxRecDepth 100000 in
set_option maxHeartbeats 4000000 in
theorem same_any (va vb : Value) (xs ys : List Blk) (w : World) (F F2 : Nat → Prop) (ha : Sl w F 64 va xs.length (xs.flatMap bvs)) (hb : Sl w F2 64 vb ys.length (ys.flatMap bvs)) (hx : ∀ x ∈ xs, x.length = 64) (hy : ∀ y ∈ ys, y.length = 64) (hn : xs.length ≤ 1073741823) :
    Calls Try.prog 30 #[va, vb] w fun e w' => e = .returned (.bool (xs == ys)) ∧ Below w.heap.size w w' := by
  have HA := Lib.hid ha
  have HB := Lib.hid hb
  have HX := Lib.hid hx
  have HY := Lib.hid hy
  obtain ⟨-, A, c, rfl, a1, a2, -, -⟩ := ha
  obtain ⟨-, A', c', rfl, b1, b2, -, -⟩ := hb
  clear hx hy
  unfold maxLen at a2 b2
  by_cases hl : xs.length = ys.length
  case neg =>
    have hne : (xs == ys) = false := by rw [beq_eq_false_iff_ne]; intro e; exact hl (by rw [e])
    have HN := Lib.hid hne
    have hq : ((xs.length : Int) == (ys.length : Int)) = false := by rw [beq_eq_false_iff_ne]; omega
    have hq2 : (xs.length == ys.length) = false := by simpa using hl
    clear hne
    go_enter Try.func30, Try.ntmps30
    go_wp2
    go_ret
    exact ⟨by rw [HN.out]; rfl, Below.refl _ _⟩
  case pos =>
  have HL := Lib.hid hl
  rw [← hl] at HB b1 ⊢
  clear hl b1
  go_enter Try.func30, Try.ntmps30
  go_wp2
  go_loopw [13] (fun i wr => ∃ j : Nat, j ≤ xs.length ∧ i = .int .i64 j ∧ xs.take j = ys.take j ∧ Below w.heap.size w wr) (fun i _ => xs.length - (intOf i).toNat)
  case atStart => exact ⟨0, Nat.zero_le _, rfl, rfl, Below.refl _ _⟩
  case round =>
    obtain ⟨j, hj, rfl, ht, hbw⟩ := hrel
    by_cases hlt : j < xs.length
    · have hlt2 : j < ys.length := HL.out ▸ hlt
      obtain ⟨ba, oa, rfl, hba, hra⟩ := sl_range (fun x hx => by rw [bvs_len]; exact HX.out x hx) (by decide) (Sl.below HA.out (by decide) hbw) j hlt
      obtain ⟨bb, ob, rfl, hbb, hrb⟩ := sl_range (fun x hx => by rw [bvs_len]; exact HY.out x hx) (by decide) (Sl.below (HL.out ▸ HB.out) (by decide) hbw) j hlt2
      have hxl := HX.out _ (List.getElem_mem hlt)
      have hyl := HY.out _ (List.getElem_mem hlt2)
      have hno : xs[j] ≠ ys[j] → (xs == ys) = false := fun h => beq_take HL.out hlt (by rw [List.getElem?_eq_getElem hlt, List.getElem?_eq_getElem hlt2]; simpa using h)
      have hyes : xs[j] = ys[j] → xs.take (j + 1) = ys.take (j + 1) := fun h => by rw [List.take_add_one, List.take_add_one, ht, List.getElem?_eq_getElem hlt, List.getElem?_eq_getElem hlt2, h]
      generalize xs[j] = x at *
      generalize ys[j] = y at *
      have HRA := Lib.hid hra
      have HRB := Lib.hid hrb
      have HXL := Lib.hid hxl
      have HYL := Lib.hid hyl
      have HBW := Lib.hid hbw
      have HNO := Lib.hid hno
      have HYES := Lib.hid hyes
      have HBA := Lib.hid hba
      have HBB := Lib.hid hbb
      obtain ⟨W, hW⟩ : ∃ W, W = wr := ⟨_, rfl⟩
      subst hW
      clear hra hrb hxl hyl hbw hno hyes hba hbb ht
      go_wp2_with fail
      refine G.region_inv (by kernel_rfl) (by kernel_rfl) (fun w w' => Below w.heap.size w w') (fun _ _ _ h k => below_tr h k) (fun w _ => Below.refl _ _) (Below.refl _ _)
        (G.of [(fun (_ : World) (v : Value) => v = .slice (some ⟨ba, oa, none⟩) xs.length c), (fun (_ : World) (v : Value) => v = .int .i64 (j : Nat)), (fun (_ : World) (v : Value) => v = .pointer (some ⟨ba, oa + j * 64, none⟩)), (fun (_ : World) (v : Value) => v = .agg (bvs x).toArray), (fun (_ : World) (v : Value) => v = .slice (some ⟨bb, ob, none⟩) xs.length c'), (fun (_ : World) (v : Value) => v = .int .i64 (j : Nat)), (fun (_ : World) (v : Value) => v = .pointer (some ⟨bb, ob + j * 64, none⟩)), (fun (_ : World) (v : Value) => v = .agg (bvs y).toArray), (fun (_ : World) (v : Value) => v = .bool (x != y))])
        (G.of_stays _ ?_) ?_ (G.each_ops ?_) ?_
      · exact ⟨(fun w w' v h k => h), (fun w w' v h k => h), (fun w w' v h k => h), (fun w w' v h k => h), (fun w w' v h k => h), (fun w w' v h k => h), (fun w w' v h k => h), (fun w w' v h k => h), (fun w w' v h k => h), trivial⟩
      · intro i o hi hd; exact absurd hd (G.no_none (by kernel_rfl) hi)
      · refine ⟨?_, ?_, ?_, ?_, ?_, ?_, ?_, ?_, ?_, trivial⟩
        all_goals intro a wq hT hS hp
        all_goals (have hTT : Below W.heap.size W wq := below_tr (Below.refl _ _).drew hT)
        · refine G.wanted_yes (G.wanted_plain rfl) ?_
          have e0 : a.tmps[0]?.getD undef = .slice (some ⟨ba, oa, none⟩) xs.length c := hS.at_ 0 rfl
          exact G.st_val (v := .slice (some ⟨ba, oa, none⟩) xs.length c) (w' := wq) (by simp [execOp, go_sem, e0, hlt] <;> omega) ⟨_, rfl, Below.refl _ _, rfl⟩
        · refine G.wanted_yes (G.wanted_plain rfl) ?_
          have e5 : a.tmps[5]?.getD undef = .int .i64 (j : Nat) := hS.at_ 5 rfl
          exact G.st_val (v := .int .i64 (j : Nat)) (w' := wq) (by simp [execOp, go_sem, e5, hlt] <;> omega) ⟨_, rfl, Below.refl _ _, rfl⟩
        · refine G.wanted_yes (G.wanted_plain rfl) ?_
          have e16 : a.tmps[16]?.getD undef = .slice (some ⟨ba, oa, none⟩) xs.length c := hp ⟨0, .data⟩ (by simp) rfl _ rfl
          have e17 : a.tmps[17]?.getD undef = .int .i64 (j : Nat) := hp ⟨1, .data⟩ (by simp) rfl _ rfl
          exact G.st_val (v := .pointer (some ⟨ba, oa + j * 64, none⟩)) (w' := wq) (by simp [execOp, go_sem, e16, e17, hlt] <;> omega) ⟨_, rfl, Below.refl _ _, rfl⟩
        · refine G.wanted_yes (G.wanted_plain rfl) ?_
          have e18 : a.tmps[18]?.getD undef = .pointer (some ⟨ba, oa + j * 64, none⟩) := hp ⟨2, .data⟩ (by simp) rfl _ rfl
          exact G.st_val (v := .agg (bvs x).toArray) (w' := wq) (ex_load 27 (.tmp 18) rfl ba (oa + j * 64) (by rw [G.eval_tmp]; exact e18) (bvs x) _ (range_bl hTT HBA.out HRA.out) Try.underlying27 rfl (size_blk' HXL.out)) ⟨_, rfl, Below.refl _ _, rfl⟩
        · refine G.wanted_yes (G.wanted_plain rfl) ?_
          have e1 : a.tmps[1]?.getD undef = .slice (some ⟨bb, ob, none⟩) xs.length c' := hS.at_ 1 rfl
          exact G.st_val (v := .slice (some ⟨bb, ob, none⟩) xs.length c') (w' := wq) (by simp [execOp, go_sem, e1, hlt] <;> omega) ⟨_, rfl, Below.refl _ _, rfl⟩
        · refine G.wanted_yes (G.wanted_plain rfl) ?_
          have e5 : a.tmps[5]?.getD undef = .int .i64 (j : Nat) := hS.at_ 5 rfl
          exact G.st_val (v := .int .i64 (j : Nat)) (w' := wq) (by simp [execOp, go_sem, e5, hlt] <;> omega) ⟨_, rfl, Below.refl _ _, rfl⟩
        · refine G.wanted_yes (G.wanted_plain rfl) ?_
          have e20 : a.tmps[20]?.getD undef = .slice (some ⟨bb, ob, none⟩) xs.length c' := hp ⟨4, .data⟩ (by simp) rfl _ rfl
          have e21 : a.tmps[21]?.getD undef = .int .i64 (j : Nat) := hp ⟨5, .data⟩ (by simp) rfl _ rfl
          exact G.st_val (v := .pointer (some ⟨bb, ob + j * 64, none⟩)) (w' := wq) (by simp [execOp, go_sem, e20, e21, hlt] <;> omega) ⟨_, rfl, Below.refl _ _, rfl⟩
        · refine G.wanted_yes (G.wanted_plain rfl) ?_
          have e22 : a.tmps[22]?.getD undef = .pointer (some ⟨bb, ob + j * 64, none⟩) := hp ⟨6, .data⟩ (by simp) rfl _ rfl
          exact G.st_val (v := .agg (bvs y).toArray) (w' := wq) (ex_load 27 (.tmp 22) rfl bb (ob + j * 64) (by rw [G.eval_tmp]; exact e22) (bvs y) _ (range_bl hTT HBB.out HRB.out) Try.underlying27 rfl (size_blk' HYL.out)) ⟨_, rfl, Below.refl _ _, rfl⟩
        · refine G.wanted_yes (G.wanted_plain rfl) ?_
          have e19 : a.tmps[19]?.getD undef = .agg (bvs x).toArray := hp ⟨3, .data⟩ (by simp) rfl _ rfl
          have e23 : a.tmps[23]?.getD undef = .agg (bvs y).toArray := hp ⟨7, .data⟩ (by simp) rfl _ rfl
          exact G.st_val (v := .bool (x != y)) (w' := wq) (ex_neq rfl x y (by rw [G.eval_tmp]; exact e19) (by rw [G.eval_tmp]; exact e23) HXL.out HYL.out) ⟨_, rfl, Below.refl _ _, rfl⟩
      · intro a wq hT hS hp
        have e16 : G.slot a (some 16) = .slice (some ⟨ba, oa, none⟩) xs.length c := hp 0 _ rfl
        have e17 : G.slot a (some 17) = .int .i64 (j : Nat) := hp 1 _ rfl
        have e18 : G.slot a (some 18) = .pointer (some ⟨ba, oa + j * 64, none⟩) := hp 2 _ rfl
        have e19 : G.slot a (some 19) = .agg (bvs x).toArray := hp 3 _ rfl
        have e20 : G.slot a (some 20) = .slice (some ⟨bb, ob, none⟩) xs.length c' := hp 4 _ rfl
        have e21 : G.slot a (some 21) = .int .i64 (j : Nat) := hp 5 _ rfl
        have e22 : G.slot a (some 22) = .pointer (some ⟨bb, ob + j * 64, none⟩) := hp 6 _ rfl
        have e23 : G.slot a (some 23) = .agg (bvs y).toArray := hp 7 _ rfl
        have e24 : G.slot a (some 24) = .bool (x != y) := hp 8 _ rfl
        have ha := G.act_of hS
        simp only [List.foldl_cons, List.foldl_nil, Act.put, List.setIfInBounds_toArray, List.set_cons_succ, List.set_cons_zero, e16, e17, e18, e19, e20, e21, e22, e23, e24] at ha
        clear hp hS e16 e17 e18 e19 e20 e21 e22 e23 e24
        subst ha
        have HBF := Lib.hid (HBW.out.trans ((below_tr (Below.refl _ _).drew hT : Below W.heap.size W wq).mono HBW.out.size))
        clear hT
        by_cases hxy : x = y
        · have hq : (x != y) = false := by simp [hxy]
          rw [hq]
          have HT := Lib.hid (HYES.out hxy)
          clear hxy hq
          go_wp2
          exact ⟨⟨j + 1, by omega, by go_num, HT.out, HBF.out⟩, by simp only [intOf]; omega⟩
        · have hq : (x != y) = true := by simp [hxy]
          rw [hq]
          have HT := Lib.hid (HNO.out hxy)
          clear hxy hq
          go_wp2
          go_ret
          exact ⟨by rw [HT.out]; rfl, HBF.out⟩
    · obtain rfl : j = xs.length := by omega
      have hxy : (xs == ys) = true := by
        rw [List.take_of_length_le (Nat.le_refl _), HL.out, List.take_of_length_le (Nat.le_refl _)] at ht
        simp [ht]
      have HT := Lib.hid hxy
      have HBF := Lib.hid hbw
      clear hxy hbw ht
      go_wp2
      go_ret
      exact ⟨by rw [HT.out]; rfl, HBF.out⟩

end Go.Proofs.Ythjlmkmijehnjaa
