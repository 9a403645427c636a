/- Layer 2's reference: all, what lives. No condition beyond sizes. -/
import Derived.Test.YthjlmkmijehnjaaDr2
import Derived.Test.YthjlmkmijehnjaaDk4
namespace Go.Proofs.Ythjlmkmijehnjaa
open Go.RowKit Go.Shelf K L
set_option linter.unusedVariables false
set_option linter.unusedSimpArgs false

theorem settle_congr {f g : Nat → Bool} : ∀ (l : List (Nat × Blk)) (k : Nat) (s : List Blk), (∀ i, k ≤ i → i < k + l.length → f i = g i) → settle f k l s = settle g k l s
  | [], k, s, h => rfl
  | (a, b) :: l, k, s, h => by
    rw [settle, settle, h k (Nat.le_refl _) (by simp), settle_congr l (k + 1) _ fun i h1 h2 => h i (by omega) (by simp only [List.length_cons]; omega)]
theorem kept_all (n i : Nat) (h : i < n) : kept (List.replicate n true) i = true := by unfold kept; rw [List.getD_eq_getElem?_getD, List.getElem?_replicate, if_pos h]; rfl

theorem infoBool : ∃ i0, Try.prog.info? 4 = some i0 ∧ i0.zero = some (.bool false) ∧ i0.size = 1 ∧ i0.bytes = 1 := info_parts (by kernel_rfl)
/-- j of n choices are yes. -/
def yess (n j : Nat) : List Value := List.replicate j (.bool true) ++ List.replicate (n - j) (.bool false)
theorem yess_set {n j : Nat} (h : j < n) : (yess n j).set j (.bool true) = yess n (j + 1) := by
  unfold yess
  rw [List.set_append_right _ _ (by simp)]
  simp only [List.length_replicate, Nat.sub_self]
  rw [show n - j = n - (j + 1) + 1 from by omega, List.replicate_succ (n := n - (j + 1)), List.set_cons_zero, List.replicate_succ' (n := j), List.append_assoc]
  rfl

set_option maxHeartbeats 4000000 in
theorem all_any (As Ap : Option Addr) (ns cs cp : Nat) (r : RD) (w : World) (hn : r.pend.length < 1073741824) :
    Calls Try.prog 55 #[rv (.slice As ns cs) (.slice Ap r.pend.length cp) r] w fun e w' =>
      ∃ v, e = .returned v ∧ Sl w' (w.heap.size ≤ ·) 1 v (List.replicate r.pend.length true).length ((List.replicate r.pend.length true).map Value.bool) ∧ Below w.heap.size w w' := by
  obtain ⟨i0, hi, hz0, hz1, hz2⟩ := infoBool
  unfold rv
  have hb1 : Below w.heap.size w (w.alloc (.cells #[.slice As ns cs, .slice Ap r.pend.length cp, .bool r.dead, .int .i64 r.left, .int .i64 r.fails, .int .i64 (r.ops : Nat)] 43)) := below_al (Below.refl _ _) _
  have hs1 : (w.alloc (.cells #[.slice As ns cs, .slice Ap r.pend.length cp, .bool r.dead, .int .i64 r.left, .int .i64 r.fails, .int .i64 (r.ops : Nat)] 43)).heap.size = w.heap.size + 1 := World.size_alloc _ _
  have HB1 := Lib.hid hb1
  have HS1 := Lib.hid hs1
  clear hb1 hs1
  go_enter Try.func55, Try.ntmps55
  go_wp2_with (at_make; refine wpList_make_full _ rfl _ _ 30 rfl w.heap.size 4 i0 (.bool false) 1 Try.underlying30 hi hz0 hz1 .i64 .i64 _ _ r.pend.length rfl rfl rfl rfl (by rw [hz2]; omega) (by simp only [maxLen]; omega) (by rw [HS1.out]; omega) ?_; intro w1 ho1 hg1; have HO := Lib.hid ho1; have HG := Lib.hid hg1; clear ho1 hg1)
  rw [HS1.out] at *
  have hO : w1.ownsRow w.heap.size 4 1 (.slice (some ⟨w.heap.size + 1, 0, none⟩) r.pend.length r.pend.length) r.pend.length (yess r.pend.length 0) := by
    have := HO.out
    rw [HS1.out, Nat.mul_one, show (Value.bool false).cells = #[Value.bool false] from rfl, toList_madeCells_one] at this
    simpa [yess] using this
  have hB : Below w.heap.size w w1 := HB1.out.grown HG.out HB1.out.size (fun k e => by cases e)
  have HOO := Lib.hid hO
  have HBB := Lib.hid hB
  clear hO hB HO HG
  go_loopw [11] (fun i wr => ∃ j : Nat, j ≤ r.pend.length ∧ i = .int .i64 j ∧ wr.ownsRow w.heap.size 4 1 (.slice (some ⟨w.heap.size + 1, 0, none⟩) r.pend.length r.pend.length) r.pend.length (yess r.pend.length j) ∧ Below w.heap.size w wr) (fun i _ => r.pend.length - (intOf i).toNat)
  case atStart => exact ⟨0, Nat.zero_le _, rfl, HOO.out, HBB.out⟩
  case round =>
    obtain ⟨j, hj, rfl, ho, hb⟩ := hrel
    by_cases hlt : j < r.pend.length
    · obtain ⟨hst, -⟩ := World.ownsRow.stored ho j (.bool true)
      rw [yess_set hlt] at hst
      have HST := Lib.hid hst
      have HBN := Lib.hid (below_sc hb (p := ⟨w.heap.size + 1, j, none⟩) (by simp) (.bool true))
      obtain ⟨g, c, e, -, -, -, -⟩ := own_form ho (by omega)
      obtain ⟨hl, ⟨e', -⟩ | ⟨g', cap', cur, e', -, hh, -, -, hcs, -⟩⟩ := ho
      · cases e'
      · cases e'
        have cj : w1.heap.size = w1.heap.size := rfl
        have c0 := cell_in hh j
        have f0 := frozen_in hh j
        rw [Array.getElem?_eq_getElem (by omega)] at c0
        generalize cur[j] = u0 at c0
        clear hb hst hh e hl cj hcs
        go_wp2
        exact ⟨⟨j + 1, by omega, by go_num, HST.out, HBN.out⟩, by simp only [intOf]; omega⟩
    · obtain rfl : j = r.pend.length := by omega
      have HO := Lib.hid ho
      have HB := Lib.hid hb
      clear ho hb
      go_wp2
      go_ret
      refine ⟨_, rfl, ?_, HB.out⟩
      have := Sl.of_own HO.out
      rw [show yess r.pend.length r.pend.length = List.replicate r.pend.length (Value.bool true) from by simp [yess]] at this
      exact this

/-- The cells of a reference's disk in a box. -/
def rc (vs vp : Value) (r : RD) : Array Value := #[vs, vp, .bool r.dead, .int .i64 r.left, .int .i64 r.fails, .int .i64 (r.ops : Nat)]
theorem info_rd : (Try.prog.info? 43).map (·.size) = some 6 := by kernel_rfl
theorem rc_one (As Ap : Option Addr) (ns cs np cp : Nat) (r : RD) : (rc (.slice As ns cs) (.slice Ap np cp) r).all (·.oneCell') = true := by simp [rc, Value.oneCell']

theorem settle_at (live : Nat → Bool) (l : List (Nat × Blk)) (j : Nat) (hj : j < l.length) (s : List Blk) : settle live 0 (l.take (j + 1)) s = if live j then (settle live 0 (l.take j) s).set l[j].1 l[j].2 else settle live 0 (l.take j) s := by
  rw [take_snoc l j hj, settle_snoc, List.length_take, Nat.min_eq_left (by omega), Nat.zero_add]

set_option maxRecDepth 100000 in
set_option maxHeartbeats 8000000 in
theorem live_any (vs vp vk : Value) (r : RD) (ks : List Bool) (w : World) (F G : Nat → Prop) (h : RS w F vs vp r) (hk : Sl w G 1 vk ks.length (ks.map Value.bool)) (hn : r.ops < 1073741824) :
    Calls Try.prog 54 #[rv vs vp r, vk] w fun e w' =>
      ∃ v', e = .returned (rv v' (.slice none 0 0) (r.live (kept ks))) ∧ w'.ownsRow w.heap.size 27 64 v' r.safe.length ((settle (kept ks) 0 r.pend r.safe).flatMap bvs) ∧ Below w.heap.size w w' := by
  have hs := h.safe
  have hp := h.pend
  have hok := h.ok
  have hnum := hok.num
  have hfew := hok.few
  have hkk := hk
  obtain ⟨-, As, cs, rfl, s1, s2, -, -⟩ := h.safe
  obtain ⟨-, Ap, cp, rfl, p1, p2, -, -⟩ := h.pend
  obtain ⟨-, Ak, ck, rfl, k1, k2, -, -⟩ := hk
  unfold maxLen at s2 p2 k2
  unfold rv
  obtain ⟨W1, hW1⟩ : ∃ W, (w.alloc (.cells #[.slice As r.safe.length cs, .slice Ap r.pend.length cp, .bool r.dead, .int .i64 r.left, .int .i64 r.fails, .int .i64 (r.ops : Nat)] 43)).alloc (.cells #[.slice none 0 0, .slice none 0 0, .bool false, .int .i64 0, .int .i64 0, .int .i64 0] 43) = W := ⟨_, rfl⟩
  have hb1 : Below w.heap.size w W1 := by rw [← hW1]; exact below_al (below_al (Below.refl _ _) _) _
  have hx1 : W1.heap[w.heap.size]? = some (.cells (rc (.slice As r.safe.length cs) (.slice Ap r.pend.length cp) r) 43 (0, 0)) := by rw [← hW1]; exact heap_al (heap_alloc_last _ _) _
  have hz1 : W1.heap[w.heap.size + 1]? = some (.cells #[.slice none 0 0, .slice none 0 0, .bool false, .int .i64 0, .int .i64 0, .int .i64 0] 43 (0, 0)) := by rw [← hW1]; have := heap_alloc_last (w.alloc (.cells #[.slice As r.safe.length cs, .slice Ap r.pend.length cp, .bool r.dead, .int .i64 r.left, .int .i64 r.fails, .int .i64 (r.ops : Nat)] 43)) (.cells #[.slice none 0 0, .slice none 0 0, .bool false, .int .i64 0, .int .i64 0, .int .i64 0] 43); rwa [World.size_alloc] at this
  have hsz1 : W1.heap.size = w.heap.size + 1 + 1 := by rw [← hW1, World.size_alloc, World.size_alloc]
  have hle1 : w.heap.size + 1 + 1 ≤ W1.heap.size := Nat.le_of_eq hsz1.symm
  have hlt1 : w.heap.size < W1.heap.size := by omega
  have c0 := cell_in hx1 0
  have c1 := cell_in hx1 1
  simp [rc] at c0 c1
  have HS1 := Lib.hid (Sl.below (Sl.imp_lt hs (by decide)) (by decide) hb1)
  have HP1 := Lib.hid (Sl.below (Sl.imp_lt hp (by decide)) (by decide) hb1)
  have HK1 := Lib.hid (Sl.below (Sl.imp_lt hkk (by decide)) (by decide) hb1)
  have HB1 := Lib.hid hb1
  have HX1 := Lib.hid hx1
  have HZ1 := Lib.hid hz1
  have HSZ := Lib.hid hsz1
  have HOK := Lib.hid hok
  have HW1 := Lib.hid hW1
  clear h hs hp hkk hok hb1 hx1 hz1 hsz1
  go_enter Try.func54, Try.ntmps54
  go_wp2_with (at_builtin; go_must (refine app elB rfl _ _ rfl (w.heap.size + 1 + 1) (World.ownsRow_lit W1 #[] 0 hle1 (by decide) (by simp)) (Sl.below HS1.out (by decide) (below_al (Below.refl _ _) _)) rfl rfl (one_flat one_bvs _) (by omega) (by decide) (by rw [World.size_alloc]; omega) ?_; intro v2 W2 ho2 hg2; rw [Nat.zero_add, List.nil_append] at ho2; have HO2 := Lib.hid ho2; have HG2 := Lib.hid hg2; obtain ⟨A2, c2, rfl, -, -, -, -⟩ := own_slice ho2; clear ho2 hg2; have e1 := (gr_heap (b := W1.heap.size) HG2.out (heap_al HX1.out _) (by omega)); have d1 := cell_in e1 1; simp [rc] at d1; clear e1))
  have hb2 : Below w.heap.size w W2 := own_below (B := w.heap.size) (below_al HB1.out (.cells #[] 27)) (own_low (World.ownsRow_lit (size := 64) W1 #[] 0 hle1 (by decide) (by simp)) (by omega)) HG2.out (Nat.le_refl _)
  have hx2 : W2.heap[w.heap.size]? = _ := gr_heap (b := W1.heap.size) HG2.out (heap_al HX1.out _) (by omega)
  have hz2 : W2.heap[w.heap.size + 1]? = _ := gr_heap (b := W1.heap.size) HG2.out (heap_al HZ1.out _) (by omega)
  have hg3 := HG2.out.size
  rw [World.size_alloc] at hg3
  have ho3 : W2.ownsRow (w.heap.size + 1 + 1) 27 64 (.slice A2 r.safe.length c2) r.safe.length (r.safe.flatMap bvs) := HO2.out
  have hpp : Below W1.heap.size W1 W2 := own_below (B := W1.heap.size) (below_al (Below.refl _ _) (.cells #[] 27)) (World.ownsRow_lit (size := 64) W1 #[] 0 (Nat.le_refl _) (by decide) (by simp)) HG2.out (Nat.le_refl _)
  have HP2 := Lib.hid ((Sl.below HP1.out (by decide) hpp).imp (G := fun b => b < w.heap.size) (fun b _ hb => hb) (by decide))
  have HK2 := Lib.hid ((Sl.below HK1.out (by decide) hpp).imp (G := fun b => b < w.heap.size) (fun b _ hb => hb) (by decide))
  have HO3 := Lib.hid ho3
  have HB2 := Lib.hid hb2
  have HX2 := Lib.hid hx2
  have HZ2 := Lib.hid hz2
  clear ho3 hb2 hx2 hz2 hpp hW1
  go_loopw [15] (fun i wr => ∃ j : Nat, j ≤ r.pend.length ∧ i = .int .i64 j ∧ wr.ownsRow (w.heap.size + 1 + 1) 27 64 (.slice A2 r.safe.length c2) r.safe.length ((settle (kept ks) 0 (r.pend.take j) r.safe).flatMap bvs) ∧ Upd (fun b => (Value.slice A2 r.safe.length c2).ownBlock = some b) W2 wr) (fun i _ => r.pend.length - (intOf i).toNat)
  case atStart => exact ⟨0, Nat.zero_le _, rfl, HO3.out, Upd.refl _ _⟩
  case round =>
    obtain ⟨j, hj, rfl, ho, hu⟩ := hrel
    have hown := fun g hg => ho.lt g hg
    by_cases hlt : j < r.pend.length
    · have hnS : ∀ b, b < w.heap.size → ¬ (Value.slice A2 r.safe.length c2).ownBlock = some b := fun b hb e => by have := (hown b e).1; omega
      obtain ⟨bp, op, rfl, hbp, hrp⟩ := sl_range (fun p hp => wcells_len p (HOK.out.pnd p hp).2) (by decide) (hu.sl HP2.out (by decide) hnS) j hlt
      have hkr := hu.sl HK2.out (by decide) hnS
      have hp64 := (HOK.out.pnd _ (List.getElem_mem hlt)).2
      have hpin := (HOK.out.pnd _ (List.getElem_mem hlt)).1
      have hst := settle_at (kept ks) r.pend j hlt r.safe
      generalize r.pend[j] = p at *
      obtain ⟨W4, hW4⟩ : ∃ W4, wr.alloc (.cells (wcells p).toArray 75) = W4 := ⟨_, rfl⟩
      have hb4 : Below wr.heap.size wr W4 := by rw [← hW4]; exact below_al (Below.refl _ _) _
      have hx4 : W4.heap[wr.heap.size]? = some (.cells (wcells p).toArray 75 (0, 0)) := by rw [← hW4]; exact heap_alloc_last _ _
      have hu4 := hu.trans (T := fun _ => False) (Upd.of_below hb4) (fun _ _ h => h.elim)
      have ho4 := own_keep ho fun g hg => hb4.block g (hown g hg).2
      have hk4 := Sl.below hkr (by decide) hb4
      have x0 := (rbox hx4).1
      have HX4 := Lib.hid (rbox hx4).2
      have HU4 := Lib.hid hu4
      have HO4 := Lib.hid ho4
      have HP := Lib.hid hp64
      have HR := Lib.hid hrp
      have HW4 := Lib.hid hW4
      have HST := Lib.hid hst
      have HOW := Lib.hid hown
      have stay : kept ks j = false → ∃ j' : Nat, j' ≤ r.pend.length ∧ Value.int .i64 ((j : Int) + 1) = .int .i64 j' ∧ W4.ownsRow (w.heap.size + 1 + 1) 27 64 (.slice A2 r.safe.length c2) r.safe.length ((settle (kept ks) 0 (r.pend.take j') r.safe).flatMap bvs) ∧ Upd (fun b => (Value.slice A2 r.safe.length c2).ownBlock = some b) W2 W4 := fun hv =>
        ⟨j + 1, by omega, by go_num, by rw [hst, hv]; exact ho4, hu4⟩
      have STAY := Lib.hid stay
      by_cases hjk : j < ks.length
      · obtain ⟨bk, ok, rfl, hck⟩ := bool_row hk4 j hjk
        cases hv : kept ks j
        case false =>
          rw [hv] at hck
          have HN := Lib.hid (STAY.out hv)
          clear hv stay hst ho hu hp64 hrp hkr hW4 hb4 hx4 hu4 ho4 hk4 hnS hown
          go_wp2_with (first | (refine wpList_load_mid rfl 75 _ rfl _ _ rfl _ _ HR.out Try.underlying75 rfl (size_rw' HP.out) ?_) | (refine wl_alloc rfl 75 rfl zero_rw ?_) | (refine wl_store_new rfl 75 _ _ rfl _ _ _ rfl rfl (size_rw HP.out) (by rw [List.size_toArray, List.size_toArray, wcells_len p HP.out, wcells_len _ zblk_len]) (one_wcells p) ?_; rw [HW4.out]))
          exact ⟨HN.out, by simp only [intOf]; omega⟩
        case true =>
          rw [hv] at hck hst
          have hst' : settle (kept ks) 0 (r.pend.take (j + 1)) r.safe = (settle (kept ks) 0 (r.pend.take j) r.safe).set p.1 p.2 := hst
          have HS5 := Lib.hid hst'
          have hl5 : p.1 < (settle (kept ks) 0 (r.pend.take j) r.safe).length := by rw [settle_len]; exact hpin
          have hb5 : ∀ x ∈ settle (kept ks) 0 (r.pend.take j) r.safe, (bvs x).length = 64 := fun x hx => by rw [bvs_len]; exact settle_blk _ _ _ _ HOK.out.blk (fun p hp => (HOK.out.pnd p (List.mem_of_mem_take hp)).2) x hx
          obtain ⟨g, c', he, -, -, -, hg, -, hth⟩ := own_range hb5 ho4 (settle_len _ _ _ _).symm p.1 hl5
          simp only [Value.slice.injEq] at he
          obtain ⟨rfl, -, rfl⟩ := he
          have hset := own_set hb5 (n := r.safe.length) (c := c2) (g := g) (by simpa using ho4) (settle_len _ _ _ _).symm p.1 hl5 p.2 (by rw [bvs_len]; exact hp64)
          rw [← hst'] at hset
          have HSET := Lib.hid hset
          have HTH := Lib.hid (show W4.there g (p.1 * 64) (bvs p.2).toArray.size by rw [List.size_toArray, bvs_len, HP.out]; exact hth)
          have HUN := Lib.hid (hu4.trans (setCells_upd (S := (· = g)) g rfl (bvs p.2) (p.1 * 64) W4) (fun b _ e => by rw [e]; rfl))
          have hpl : p.1 < r.safe.length := hpin
          clear hv stay hst hst' ho hu hp64 hrp hkr hW4 hb4 hx4 hu4 ho4 hk4 hnS hown hset hb5 hth
          go_wp2_with (first | (refine wpList_load_mid rfl 75 _ rfl _ _ rfl _ _ HR.out Try.underlying75 rfl (size_rw' HP.out) ?_) | (refine wl_alloc rfl 75 rfl zero_rw ?_) | (refine wl_store_new rfl 75 _ _ rfl _ _ _ rfl rfl (size_rw HP.out) (by rw [List.size_toArray, List.size_toArray, wcells_len p HP.out, wcells_len _ zblk_len]) (one_wcells p) ?_; rw [HW4.out]) | (refine wpList_load_mid rfl 27 _ rfl _ _ rfl _ _ HX4.out Try.underlying27 rfl (size_blk' HP.out) ?_) | (refine wl_store_mid rfl 27 _ _ rfl g (p.1 * 64) (bvs p.2).toArray rfl rfl HTH.out (size_blk HP.out) (one_blk p.2) ?_))
          exact ⟨⟨j + 1, by omega, by go_num, by first | exact HSET.out | simpa using HSET.out, HUN.out⟩, by simp only [intOf]; omega⟩
      · have hv : kept ks j = false := by unfold kept; rw [List.getD_eq_getElem?_getD, List.getElem?_eq_none (by omega)]; rfl
        have HN := Lib.hid (STAY.out hv)
        clear hv stay hst ho hu hp64 hrp hkr hW4 hb4 hx4 hu4 ho4 hk4 hnS hown
        go_wp2_with (first | (refine wpList_load_mid rfl 75 _ rfl _ _ rfl _ _ HR.out Try.underlying75 rfl (size_rw' HP.out) ?_) | (refine wl_alloc rfl 75 rfl zero_rw ?_) | (refine wl_store_new rfl 75 _ _ rfl _ _ _ rfl rfl (size_rw HP.out) (by rw [List.size_toArray, List.size_toArray, wcells_len p HP.out, wcells_len _ zblk_len]) (one_wcells p) ?_; rw [HW4.out]))
        exact ⟨HN.out, by simp only [intOf]; omega⟩
    · obtain rfl : j = r.pend.length := by omega
      rw [List.take_length] at ho
      have hnS : ∀ b, b < w.heap.size + 1 + 1 → ¬ (Value.slice A2 r.safe.length c2).ownBlock = some b := fun b hb e => by have := (hown b e).1; omega
      have hx := hu.heap HX2.out (hnS _ (by omega))
      have hz := hu.heap HZ2.out (hnS _ (by omega))
      have x0 := cell_in hx 0
      have x1 := cell_in hx 1
      have f0 := frozen_in hx 0
      have f1 := frozen_in hx 1
      simp [rc] at x0 x1
      have hxa : (wr.setCell ⟨w.heap.size, 0, none⟩ (.slice A2 r.safe.length c2)).heap[w.heap.size]? = _ := heap_setCell_same _ _ 0 _ _ _ hx
      have HXB := Lib.hid (show ((wr.setCell ⟨w.heap.size, 0, none⟩ (.slice A2 r.safe.length c2)).setCell ⟨w.heap.size, 1, none⟩ (.slice none 0 0)).heap[w.heap.size]? = some (.cells (rc (.slice A2 r.safe.length c2) (.slice none 0 0) (r.live (kept ks))) 43 (0, 0)) from heap_setCell_same _ _ 1 _ _ _ hxa)
      have hzb : ((wr.setCell ⟨w.heap.size, 0, none⟩ (.slice A2 r.safe.length c2)).setCell ⟨w.heap.size, 1, none⟩ (.slice none 0 0)).heap[w.heap.size + 1]? = _ := (heap_setCell_other _ _ _ _ (by dsimp only; omega)).trans ((heap_setCell_other _ _ _ _ (by dsimp only; omega)).trans hz)
      have HZB := Lib.hid hzb
      have HF := Lib.hid (setRow_heap _ (w.heap.size + 1) _ (rc (.slice A2 r.safe.length c2) (.slice none 0 0) (r.live (kept ks))) _ _ hzb)
      have hup : Upd (fun b => b = w.heap.size ∨ b = w.heap.size + 1) wr (((wr.setCell ⟨w.heap.size, 0, none⟩ (.slice A2 r.safe.length c2)).setCell ⟨w.heap.size, 1, none⟩ (.slice none 0 0)).setRow (w.heap.size + 1) (rc (.slice A2 r.safe.length c2) (.slice none 0 0) (r.live (kept ks)))) :=
        (((Upd.refl _ wr).setCell _ _ (fun _ => .inl rfl)).setCell _ _ (fun _ => .inl rfl)).trans ((upd_setRow _ _ _).mono fun b _ e => .inr e) (fun _ _ h => h)
      have HOF := Lib.hid (own_low (hup.own ho fun g hg e => by have := (hown g hg).1; omega) (show w.heap.size ≤ w.heap.size + 1 + 1 by omega))
      have HBF := Lib.hid (upd_below (S := fun b => w.heap.size ≤ b) HB2.out ((hu.mono fun b _ e => by have := (hown b e).1; omega).trans (hup.mono fun b _ e => by omega) (fun _ _ h => h)) (fun _ h => h))
      clear hnS hx hz hxa hzb hup ho hu hown
      go_wp2_with (first | (refine wpList_load_row rfl 43 _ rfl _ rfl _ _ _ _ HXB.out Try.underlying43 rfl info_rd ?_) | (refine wl_store_row rfl 43 _ _ rfl _ _ _ _ HZB.out rfl rfl info_rd rfl (rc_one _ _ _ _ _ _ _) ?_))
      exact bodyPost_ret (results_cell_row Try.results54 _ _ _ _ _ _ _ rfl HF.out Try.underlying43 rfl info_rd) rfl ⟨_, rfl, by first | exact HOF.out | simpa using HOF.out, HBF.out⟩

end Go.Proofs.Ythjlmkmijehnjaa
