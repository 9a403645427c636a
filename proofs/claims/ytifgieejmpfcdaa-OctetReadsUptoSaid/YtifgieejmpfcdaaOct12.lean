/- Layer 1's statements: the walk of OctetReads. No condition beyond sizes. -/
import Derived.Test.YtifgieejmpfcdaaOct11
namespace Go.Proofs.Ytifgieejmpfcdaa
open Go.RowKit K L
set_option linter.unusedVariables false
set_option linter.unusedSimpArgs false

/-- The cells of asks. -/
def avs (l : List (Int × Int)) : List Value := l.flatMap fun a => [.int .i64 a.1, .int .i64 a.2]

theorem avs_len : ∀ l : List (Int × Int), (avs l).length = l.length * 2
  | [] => rfl
  | a :: l => by have := avs_len l; simp only [avs, List.flatMap_cons, List.length_append, List.length_cons, List.length_nil] at this ⊢; omega
theorem avs_at : ∀ (l : List (Int × Int)) (k : Nat) (h : k < l.length), (avs l)[k * 2]? = some (.int .i64 l[k].1) ∧ (avs l)[k * 2 + 1]? = some (.int .i64 l[k].2)
  | [], k, h => by simp at h
  | a :: l, 0, h => by simp [avs]
  | a :: l, k + 1, h => by
    have := avs_at l k (by simpa using h)
    have e : avs (a :: l) = [.int .i64 a.1, .int .i64 a.2] ++ avs l := rfl
    rw [e, List.getElem?_append_right (by simp; omega), List.getElem?_append_right (by simp; omega)]
    simp only [List.length_cons, List.length_nil, List.getElem_cons_succ]
    rw [show (k + 1) * 2 - (0 + 1 + 1) = k * 2 from by omega, show (k + 1) * 2 + 1 - (0 + 1 + 1) = k * 2 + 1 from by omega]
    exact this

theorem mod5 (k : Int) : (wrap64 (k.tmod 5 + 5)).tmod 5 = 0 ∨ (wrap64 (k.tmod 5 + 5)).tmod 5 = 1 ∨ (wrap64 (k.tmod 5 + 5)).tmod 5 = 2 ∨ (wrap64 (k.tmod 5 + 5)).tmod 5 = 3 ∨ (wrap64 (k.tmod 5 + 5)).tmod 5 = 4 := by
  have h1 : -4 ≤ k.tmod 5 ∧ k.tmod 5 ≤ 4 := by
    have := Int.tmod_lt_of_pos k (b := 5) (by decide)
    have := Int.lt_tmod_of_pos k (b := 5) (by decide)
    omega
  have h2 : wrap64 (k.tmod 5 + 5) = k.tmod 5 + 5 := by unfold wrap64; omega
  rw [h2, Int.tmod_eq_emod_of_nonneg (by omega)]
  omega

theorem Rs.take_keeps (r : Rs) (n : Int) (h : r.pos ≤ r.xs.length) (he : 0 ≤ r.err ∧ r.err ≤ 1000) :
    r.xs = (r.take n).1.xs ∧ (r.take n).1.pos ≤ r.xs.length ∧ 0 ≤ (r.take n).1.err ∧ (r.take n).1.err ≤ 1000 := by
  unfold Rs.take
  split
  · exact ⟨rfl, h, he.1, he.2⟩
  · split
    · exact ⟨rfl, h, by simp, by simp⟩
    · split
      · exact ⟨rfl, h, by simp, by simp⟩
      · refine ⟨rfl, ?_, he.1, he.2⟩
        show r.pos + n.toNat ≤ r.xs.length
        omega

/-- What holds between two asks: r the reader's state, and the document's. -/
def ReadsInv (w : World) (b b' s2 s3 M : Nat) (vc : Value) (xs : List UInt8) (r : Rs) (wr : World) : Prop :=
  r.xs = xs ∧ IsR wr b r ∧ IsRL wr s2 b' ⟨xs, 0, 0⟩ ∧ wr.heap[M]? = some (.cells #[vc, .int .i64 (r.pos : Nat), .int .i64 r.err] 32 (0, 0)) ∧ Bs wr (fun q => s3 ≤ q ∧ q < M) vc xs ∧ Below w.heap.size w wr

theorem same_any' (v1 v2 : Value) (xs : List UInt8) (w : World) (F G : Nat → Prop) (h : Bs w F v1 xs) (g : Bs w G v2 xs) :
    Calls Try.prog 11 #[v1, v2] w fun e w' => e = .returned (.bool true) ∧ ∃ n, w' = w.drewN n :=
  (same_any v1 v2 xs xs w F G h g).mono fun e w' h => by rw [beq_self_eq_true] at h; exact h

theorem reads_close (w wr w6 : World) (b b' s2 s3 M C j : Nat) (vc : Value) (xs : List UInt8) (at_ at' : Nat) (err err' : Int) (u : Value) (nq : Nat) (hb : w.heap.size ≤ b) (h1 : b < s2) (h2 : s2 ≤ b') (h3 : b' < s3) (h4 : s3 ≤ M) (h5 : M < C)
    (hH : ∀ q, q ≤ M → q ≠ b → w6.heap[q]? = wr.heap[q]?) (hB6 : Below w.heap.size w w6) (q2 : IsRL wr s2 b' ⟨xs, 0, 0⟩) (pM : w6.heap[M]? = some (.cells #[vc, .int .i64 (at_ : Nat), .int .i64 err] 32 (0, 0)))
    (q4 : Bs wr (fun q => s3 ≤ q ∧ q < M) vc xs) (hR6 : IsR w6 b ⟨xs, at', err'⟩) :
    ReadsInv w b b' s2 s3 M vc xs ⟨xs, at', err'⟩ (((((w6.setCell ⟨C, j, none⟩ u).drewN nq).setCell ⟨M, 0, none⟩ vc).setCell ⟨M, 1, none⟩ (.int .i64 (at' : Nat))).setCell ⟨M, 2, none⟩ (.int .i64 err')) := by
  have same : ∀ q, q ≠ C → q ≠ M → (((((w6.setCell ⟨C, j, none⟩ u).drewN nq).setCell ⟨M, 0, none⟩ vc).setCell ⟨M, 1, none⟩ (.int .i64 (at' : Nat))).setCell ⟨M, 2, none⟩ (.int .i64 err')).heap[q]? = w6.heap[q]? := by
    intro q hC hM
    rw [Below.heap_setCell _ _ _ _ hM, Below.heap_setCell _ _ _ _ hM, Below.heap_setCell _ _ _ _ hM]
    exact Below.heap_setCell _ _ _ _ hC
  have pM7 : ((w6.setCell ⟨C, j, none⟩ u).drewN nq).heap[M]? = some (.cells #[vc, .int .i64 (at_ : Nat), .int .i64 err] 32 (0, 0)) := (Below.heap_setCell _ _ _ _ (by simp; omega)).trans pM
  refine ⟨rfl, ?_, ?_, ?_, ?_, ?_⟩
  · exact hR6.keep fun q hq => same q (by omega) (by omega)
  · exact q2.keep h2 fun q ha hb => (same q (by omega) (by omega)).trans (hH q (by omega) (by omega))
  · have e1 := heap_setCell_same _ M 0 _ _ vc pM7
    have e2 := heap_setCell_same _ M 1 _ _ (.int .i64 (at' : Nat)) e1
    have e3 := heap_setCell_same _ M 2 _ _ (.int .i64 err') e2
    simpa using e3
  · exact Sl.keep q4 (by decide) fun q _ hq => (same q (by omega) (by omega)).trans (hH q (by omega) (by omega))
  · exact (((below_dn (hB6.setCell (by simp; omega) _) _).setCell (by simp; omega) _).setCell (by simp; omega) _).setCell (by simp; omega) _

set_option maxRecDepth 100000 in
set_option maxHeartbeats 4000000 in
theorem reads_walk (v0 v1 : Value) (xs : List UInt8) (asks : List (Int × Int)) (w : World) (h : Bs w (· < w.heap.size) v0 xs) (g : Sl w (· < w.heap.size) 2 v1 asks.length (avs asks))
    (hr : ∀ a ∈ asks, (-9223372036854775808 ≤ a.1 ∧ a.1 ≤ 9223372036854775807) ∧ (-9223372036854775808 ≤ a.2 ∧ a.2 ≤ 9223372036854775807)) (hb : xs.length ≤ 1048576) (ha : asks.length ≤ 1048576) :
    Calls Try.prog 4 #[v0, v1] w fun e w' => e = .returned (.bool true) ∧ Below w.heap.size w w' := by
  have hs := g
  have hh := h
  obtain ⟨-, A, c, rfl, l1, l2, -, -⟩ := g
  obtain ⟨A1, c1, rfl, m1, m2, -, -⟩ := h.open_
  unfold maxLen at l2 m2
  go_enter Try.func4, Try.ntmps4
  go_wp2_with fail
  refine (wakes_any w).mono ?_
  rintro e w1 ⟨rfl, hB1⟩
  go_wp2_with fail
  refine (read_lo _ xs _ _ (hh.below hB1) (by omega)).mono ?_
  rintro e w2 ⟨b, rfl, hb2, hR, hB2⟩
  have k2 : Below w.heap.size w w2 := below_tr hB1 hB2
  go_wp2_with fail
  refine (read_lo _ xs _ _ (hh.below k2) (by omega)).mono ?_
  rintro e w3 ⟨b', rfl, hb3, hR', hB3⟩
  have k3 : Below w.heap.size w w3 := below_tr k2 hB3
  go_wp2_with fail
  refine (both_any _ _ xs [] _ _ (fun _ => True) (hh.below k3) (Sl.nil _ _ _) (by omega) (by decide)).mono ?_
  rintro e w4 ⟨vc, rfl, o4, hB4⟩
  have k4 : Below w.heap.size w w4 := below_tr k3 hB4
  rw [List.append_nil] at o4
  have b4 := o4.bs
  obtain ⟨A4, c4, rfl, n1, n2, -, -⟩ := b4.open_
  go_wp2_with fail
  have hbl : b < w2.heap.size := hR.isR.lt
  have hbl' : b' < w3.heap.size := hR'.isR.lt
  have hsz3 : w3.heap.size ≤ w4.heap.size := hB4.size
  go_loopw [24] (fun i wr => ∃ k : Nat, k ≤ asks.length ∧ i = .int .i64 k ∧ ∃ r : Rs, ReadsInv w b b' w2.heap.size w3.heap.size w4.heap.size (.slice A4 xs.length c4) xs r wr) (fun i _ => asks.length - (intOf i).toNat)
  case atStart =>
    refine ⟨0, Nat.zero_le _, rfl, ⟨xs, 0, 0⟩, rfl, ?_, ?_, ?_, ?_, below_al k4 _⟩
    · exact ((hR.isR.below hB3).below hB4).below (below_al (Below.refl _ _) _)
    · exact (hR'.keep hb3 fun q h1 h2 => hB4.block q (by omega)).keep hb3 fun q h1 h2 => Below.heap_alloc _ _ _ (by omega)
    · exact heap_alloc_new _ _
    · exact (b4.imp fun q h1 h2 => And.intro h2 h1).below (below_al (Below.refl _ _) _)
  case round =>
    obtain ⟨k, hk, rfl, ⟨xs', at_, err⟩, hxs, q1, q2, q3, q4, hB⟩ := hrel
    obtain rfl : xs = xs' := hxs.symm
    have hM : w4.heap.size < wr.heap.size := (Array.getElem?_eq_some_iff.1 q3).1
    by_cases hlt : k < asks.length
    · have hs' := hs.below (by decide) hB
      obtain ⟨ab, ao, rfl, -, -, hat⟩ := hs'.cells (by omega) (by decide)
      have x0 := hat _ _ (avs_at asks k hlt).1
      have x1 := hat _ _ (avs_at asks k hlt).2
      rw [← Nat.add_assoc] at x1
      have hra := hr asks[k] (List.getElem_mem hlt)
      generalize asks[k] = ask at x0 x1 hra
      obtain ⟨kd, nn⟩ := ask
      dsimp only at x0 x1 hra
      obtain ⟨⟨r1, r2⟩, r3, r4⟩ := hra
      have y0 := cell_of q3 0
      have y1 := cell_of q3 1
      have y2 := cell_of q3 2
      simp at y0 y1 y2
      clear hat
      have hkk := mod5 kd
      generalize hq : (wrap64 (kd.tmod 5 + 5)).tmod 5 = kk at hkk
      have q1s := q1
      rcases hkk with rfl | rfl | rfl | rfl | rfl
      · have hdo := fun wq F (hq : Bs wq F (.slice A4 xs.length c4) xs) => do_any (.slice A4 xs.length c4) ⟨xs, at_, err⟩ 0 nn wq F hq q1.1 (by decide) ⟨r3, r4⟩
        have hu := fun wq (hq : IsR wq b ⟨xs, at_, err⟩) => u8_any b ⟨xs, at_, err⟩ wq hq
        have ht := Rs.take_keeps ⟨xs, at_, err⟩ 1 q1.1 q1.2.2.1
        have htl := Rs.take_at ⟨xs, at_, err⟩ 1
        have hnl := L.num_lt (Rs.take ⟨xs, at_, err⟩ 1).2
        rw [show askN 0 nn = 1 from rfl] at hdo
        rw [show ((1 : Nat) : Int) = 1 from rfl] at htl
        generalize Rs.take ⟨xs, at_, err⟩ 1 = p at *
        obtain ⟨⟨xs', at', err'⟩, taken⟩ := p
        obtain ⟨rfl, ht2, ht3, ht4⟩ := ht
        dsimp only at hdo hu ht2 ht3 ht4 htl hnl
        have HDO := Lib.hid hdo
        have HU := Lib.hid hu
        clear hdo hu
        go_wp2_with fail
        refine (HDO.out _ _ (q4.below (by repeat' (first | exact Below.refl _ _ | assumption | with_reducible refine below_dn ?_ _ | with_reducible refine below_al ?_ _)))).mono ?_
        rintro e w5 ⟨vb, rfl, hvb, hB5⟩
        obtain ⟨Ab, cb, rfl, -, -, -, -⟩ := hvb.open_
        have z90 : w5.cell? ⟨wr.heap.size, 0, none⟩ = some (.int .i64 0) := (hB5.cell (p := ⟨wr.heap.size, 0, none⟩) (by simp)).trans (by simp)
        have z91 : w5.cell? ⟨wr.heap.size, 1, none⟩ = some (.int .i64 nn) := (hB5.cell (p := ⟨wr.heap.size, 1, none⟩) (by simp)).trans (by simp)
        have z90' := fun o1 o2 o3 => cell_al (cell_al (cell_al z90 o1) o2) o3
        have z91' := fun o1 o2 o3 => cell_al (cell_al (cell_al z91 o1) o2) o3
        have k5 : Below wr.heap.size wr w5 := below_tr (by repeat' (first | exact Below.refl _ _ | assumption | with_reducible refine below_dn ?_ _ | with_reducible refine below_al ?_ _)) hB5
        have hsz5 : wr.heap.size < w5.heap.size := by have := hB5.size; simp at this; omega
        have hM5 : w4.heap.size < w5.heap.size := by omega
        have hbw := q1s.lt
        go_wp2_with fail
        refine (HU.out _ (q1s.below (by repeat' (first | exact Below.refl _ _ | assumption | with_reducible refine below_dn ?_ _ | with_reducible refine below_al ?_ _)))).mono ?_
        rintro e w6 ⟨rfl, hR6, hg6⟩
        have hbM : b < w4.heap.size := by omega
        -- the three new blocks and the document's reader, in w6
        have p10 := gr_heap hg6 (q := w5.heap.size) (heap_al (heap_al (heap_alloc_new w5 _) _) _) (by omega)
        have p11 := gr_heap hg6 (q := w5.heap.size + 1) (heap_al (by simpa using heap_alloc_new (w5.alloc _) _) _) (by omega)
        have p12 := gr_heap hg6 (q := w5.heap.size + 1 + 1) (by simpa using heap_alloc_new ((w5.alloc _).alloc _) _) (by omega)
        have pM := gr_heap hg6 (q := w4.heap.size) (heap_al (heap_al (heap_al (heap_bl k5 q3) _) _) _) (by omega)
        have c100 := cell_of p10 0
        have c101 := cell_of p10 1
        have c102 := cell_of p10 2
        have c110 := cell_of p11 0
        have c111 := cell_of p11 1
        have c120 := cell_of p12 0
        have c121 := cell_of p12 1
        have cM0 := cell_of pM 0
        have cM1 := cell_of pM 1
        have cM2 := cell_of pM 2
        have f120 := frozen_of p12 0
        have f121 := frozen_of p12 1
        have fM0 := frozen_of pM 0
        have fM1 := frozen_of pM 1
        have fM2 := frozen_of pM 2
        simp at c100 c101 c102 c110 c111 c120 c121 cM0 cM1 cM2
        have hn8 : (num taken : Int) ≤ 255 := by
          have : 256 ^ taken.length ≤ 256 ^ 1 := Nat.pow_le_pow_right (by decide) htl
          omega
        go_wp2
        have hR7 : IsR (w6.setCell ⟨w5.heap.size + 1 + 1, 0, none⟩ (.int .u64 (num taken : Nat))) b ⟨xs, at', err'⟩ := hR6.keep fun q hq => Below.heap_setCell _ _ _ _ (by simp; omega)
        have hSn : ∀ W, Bs W (fun _ => True) (.slice none 0 0) [] := fun W => Sl.nil _ _ _
        have hvb7 : Bs (w6.setCell ⟨w5.heap.size + 1 + 1, 0, none⟩ (.int .u64 (num taken : Nat))) (fun _ => True) (.slice Ab 0 cb) [] := ⟨rfl, hvb.2.imp fun A h => h.imp fun c h => ⟨h.1, h.2.1, h.2.2.1, h.2.2.2.1, fun h0 => by simp at h0⟩⟩
        go_quiet ((first
          | (go_at_call 11; exact Calls.quiet_of (same_any _ _ [] [] _ _ _ (hSn _) (hvb7.below (below_dn (Below.refl _ _) _))))
          | (go_at_call 21; exact Calls.quiet_of (left_any b _ _ (hR7.below (below_dn (Below.refl _ _) _))))
          | (go_at_call 22; exact Calls.quiet_of_same ((err_any b _ _ (hR7.below (below_dn (Below.refl _ _) _))).mono fun e w' h => ⟨h.1, h.2.symm⟩))))
        go_wp2
        refine ⟨⟨k + 1, by omega, by go_num, ⟨xs, at', err'⟩, reads_close w wr w6 b b' _ _ _ _ _ _ _ _ _ _ _ _ nq ?_ hbl hb3 hbl' hsz3 (by omega) ?_ ?_ q2 pM q4 hR6⟩, by simp only [intOf]; omega⟩
        · exact Nat.le_trans hB1.size hb2
        · intro q hq hne
          exact (hg6.block q (by simp; omega) (by simpa using hne)).trans ((Below.heap_alloc _ _ _ (by simp; omega)).trans ((Below.heap_alloc _ _ _ (by simp; omega)).trans ((Below.heap_alloc _ _ _ (by omega)).trans (k5.block q (by omega)))))
        · exact below_gr (below_tr hB (below_al (below_al (below_al k5 _) _) _)) hg6 (Nat.le_trans hB1.size hb2)
      · have hdo := fun wq F (hq : Bs wq F (.slice A4 xs.length c4) xs) => do_any (.slice A4 xs.length c4) ⟨xs, at_, err⟩ 1 nn wq F hq q1.1 (by decide) ⟨r3, r4⟩
        have hu := fun wq (hq : IsR wq b ⟨xs, at_, err⟩) => u16_any b ⟨xs, at_, err⟩ wq hq
        have ht := Rs.take_keeps ⟨xs, at_, err⟩ 2 q1.1 q1.2.2.1
        have htl := Rs.take_at ⟨xs, at_, err⟩ 2
        have hnl := L.num_lt (Rs.take ⟨xs, at_, err⟩ 2).2
        rw [show askN 1 nn = 2 from rfl] at hdo
        rw [show ((2 : Nat) : Int) = 2 from rfl] at htl
        generalize Rs.take ⟨xs, at_, err⟩ 2 = p at *
        obtain ⟨⟨xs', at', err'⟩, taken⟩ := p
        obtain ⟨rfl, ht2, ht3, ht4⟩ := ht
        dsimp only at hdo hu ht2 ht3 ht4 htl hnl
        have HDO := Lib.hid hdo
        have HU := Lib.hid hu
        clear hdo hu
        go_wp2_with fail
        refine (HDO.out _ _ (q4.below (by repeat' (first | exact Below.refl _ _ | assumption | with_reducible refine below_dn ?_ _ | with_reducible refine below_al ?_ _)))).mono ?_
        rintro e w5 ⟨vb, rfl, hvb, hB5⟩
        obtain ⟨Ab, cb, rfl, -, -, -, -⟩ := hvb.open_
        have z90 : w5.cell? ⟨wr.heap.size, 0, none⟩ = some (.int .i64 1) := (hB5.cell (p := ⟨wr.heap.size, 0, none⟩) (by simp)).trans (by simp)
        have z91 : w5.cell? ⟨wr.heap.size, 1, none⟩ = some (.int .i64 nn) := (hB5.cell (p := ⟨wr.heap.size, 1, none⟩) (by simp)).trans (by simp)
        have z90' := fun o1 o2 o3 => cell_al (cell_al (cell_al z90 o1) o2) o3
        have z91' := fun o1 o2 o3 => cell_al (cell_al (cell_al z91 o1) o2) o3
        have k5 : Below wr.heap.size wr w5 := below_tr (by repeat' (first | exact Below.refl _ _ | assumption | with_reducible refine below_dn ?_ _ | with_reducible refine below_al ?_ _)) hB5
        have hsz5 : wr.heap.size < w5.heap.size := by have := hB5.size; simp at this; omega
        have hM5 : w4.heap.size < w5.heap.size := by omega
        have hbw := q1s.lt
        go_wp2_with fail
        refine (HU.out _ (q1s.below (by repeat' (first | exact Below.refl _ _ | assumption | with_reducible refine below_dn ?_ _ | with_reducible refine below_al ?_ _)))).mono ?_
        rintro e w6 ⟨rfl, hR6, hg6⟩
        have hbM : b < w4.heap.size := by omega
        -- the three new blocks and the document's reader, in w6
        have p10 := gr_heap hg6 (q := w5.heap.size) (heap_al (heap_al (heap_alloc_new w5 _) _) _) (by omega)
        have p11 := gr_heap hg6 (q := w5.heap.size + 1) (heap_al (by simpa using heap_alloc_new (w5.alloc _) _) _) (by omega)
        have p12 := gr_heap hg6 (q := w5.heap.size + 1 + 1) (by simpa using heap_alloc_new ((w5.alloc _).alloc _) _) (by omega)
        have pM := gr_heap hg6 (q := w4.heap.size) (heap_al (heap_al (heap_al (heap_bl k5 q3) _) _) _) (by omega)
        have c100 := cell_of p10 0
        have c101 := cell_of p10 1
        have c102 := cell_of p10 2
        have c110 := cell_of p11 0
        have c111 := cell_of p11 1
        have c120 := cell_of p12 0
        have c121 := cell_of p12 1
        have cM0 := cell_of pM 0
        have cM1 := cell_of pM 1
        have cM2 := cell_of pM 2
        have f120 := frozen_of p12 0
        have f121 := frozen_of p12 1
        have fM0 := frozen_of pM 0
        have fM1 := frozen_of pM 1
        have fM2 := frozen_of pM 2
        simp at c100 c101 c102 c110 c111 c120 c121 cM0 cM1 cM2
        have hn8 : (num taken : Int) ≤ 65535 := by
          have : 256 ^ taken.length ≤ 256 ^ 2 := Nat.pow_le_pow_right (by decide) htl
          omega
        go_wp2
        have hR7 : IsR (w6.setCell ⟨w5.heap.size + 1 + 1, 0, none⟩ (.int .u64 (num taken : Nat))) b ⟨xs, at', err'⟩ := hR6.keep fun q hq => Below.heap_setCell _ _ _ _ (by simp; omega)
        have hSn : ∀ W, Bs W (fun _ => True) (.slice none 0 0) [] := fun W => Sl.nil _ _ _
        have hvb7 : Bs (w6.setCell ⟨w5.heap.size + 1 + 1, 0, none⟩ (.int .u64 (num taken : Nat))) (fun _ => True) (.slice Ab 0 cb) [] := ⟨rfl, hvb.2.imp fun A h => h.imp fun c h => ⟨h.1, h.2.1, h.2.2.1, h.2.2.2.1, fun h0 => by simp at h0⟩⟩
        go_quiet ((first
          | (go_at_call 11; exact Calls.quiet_of (same_any _ _ [] [] _ _ _ (hSn _) (hvb7.below (below_dn (Below.refl _ _) _))))
          | (go_at_call 21; exact Calls.quiet_of (left_any b _ _ (hR7.below (below_dn (Below.refl _ _) _))))
          | (go_at_call 22; exact Calls.quiet_of_same ((err_any b _ _ (hR7.below (below_dn (Below.refl _ _) _))).mono fun e w' h => ⟨h.1, h.2.symm⟩))))
        go_wp2
        refine ⟨⟨k + 1, by omega, by go_num, ⟨xs, at', err'⟩, reads_close w wr w6 b b' _ _ _ _ _ _ _ _ _ _ _ _ nq ?_ hbl hb3 hbl' hsz3 (by omega) ?_ ?_ q2 pM q4 hR6⟩, by simp only [intOf]; omega⟩
        · exact Nat.le_trans hB1.size hb2
        · intro q hq hne
          exact (hg6.block q (by simp; omega) (by simpa using hne)).trans ((Below.heap_alloc _ _ _ (by simp; omega)).trans ((Below.heap_alloc _ _ _ (by simp; omega)).trans ((Below.heap_alloc _ _ _ (by omega)).trans (k5.block q (by omega)))))
        · exact below_gr (below_tr hB (below_al (below_al (below_al k5 _) _) _)) hg6 (Nat.le_trans hB1.size hb2)
      · have hdo := fun wq F (hq : Bs wq F (.slice A4 xs.length c4) xs) => do_any (.slice A4 xs.length c4) ⟨xs, at_, err⟩ 2 nn wq F hq q1.1 (by decide) ⟨r3, r4⟩
        have hu := fun wq (hq : IsR wq b ⟨xs, at_, err⟩) => u32_any b ⟨xs, at_, err⟩ wq hq
        have ht := Rs.take_keeps ⟨xs, at_, err⟩ 4 q1.1 q1.2.2.1
        have htl := Rs.take_at ⟨xs, at_, err⟩ 4
        have hnl := L.num_lt (Rs.take ⟨xs, at_, err⟩ 4).2
        rw [show askN 2 nn = 4 from rfl] at hdo
        rw [show ((4 : Nat) : Int) = 4 from rfl] at htl
        generalize Rs.take ⟨xs, at_, err⟩ 4 = p at *
        obtain ⟨⟨xs', at', err'⟩, taken⟩ := p
        obtain ⟨rfl, ht2, ht3, ht4⟩ := ht
        dsimp only at hdo hu ht2 ht3 ht4 htl hnl
        have HDO := Lib.hid hdo
        have HU := Lib.hid hu
        clear hdo hu
        go_wp2_with fail
        refine (HDO.out _ _ (q4.below (by repeat' (first | exact Below.refl _ _ | assumption | with_reducible refine below_dn ?_ _ | with_reducible refine below_al ?_ _)))).mono ?_
        rintro e w5 ⟨vb, rfl, hvb, hB5⟩
        obtain ⟨Ab, cb, rfl, -, -, -, -⟩ := hvb.open_
        have z90 : w5.cell? ⟨wr.heap.size, 0, none⟩ = some (.int .i64 2) := (hB5.cell (p := ⟨wr.heap.size, 0, none⟩) (by simp)).trans (by simp)
        have z91 : w5.cell? ⟨wr.heap.size, 1, none⟩ = some (.int .i64 nn) := (hB5.cell (p := ⟨wr.heap.size, 1, none⟩) (by simp)).trans (by simp)
        have z90' := fun o1 o2 o3 => cell_al (cell_al (cell_al z90 o1) o2) o3
        have z91' := fun o1 o2 o3 => cell_al (cell_al (cell_al z91 o1) o2) o3
        have k5 : Below wr.heap.size wr w5 := below_tr (by repeat' (first | exact Below.refl _ _ | assumption | with_reducible refine below_dn ?_ _ | with_reducible refine below_al ?_ _)) hB5
        have hsz5 : wr.heap.size < w5.heap.size := by have := hB5.size; simp at this; omega
        have hM5 : w4.heap.size < w5.heap.size := by omega
        have hbw := q1s.lt
        go_wp2_with fail
        refine (HU.out _ (q1s.below (by repeat' (first | exact Below.refl _ _ | assumption | with_reducible refine below_dn ?_ _ | with_reducible refine below_al ?_ _)))).mono ?_
        rintro e w6 ⟨rfl, hR6, hg6⟩
        have hbM : b < w4.heap.size := by omega
        -- the three new blocks and the document's reader, in w6
        have p10 := gr_heap hg6 (q := w5.heap.size) (heap_al (heap_al (heap_alloc_new w5 _) _) _) (by omega)
        have p11 := gr_heap hg6 (q := w5.heap.size + 1) (heap_al (by simpa using heap_alloc_new (w5.alloc _) _) _) (by omega)
        have p12 := gr_heap hg6 (q := w5.heap.size + 1 + 1) (by simpa using heap_alloc_new ((w5.alloc _).alloc _) _) (by omega)
        have pM := gr_heap hg6 (q := w4.heap.size) (heap_al (heap_al (heap_al (heap_bl k5 q3) _) _) _) (by omega)
        have c100 := cell_of p10 0
        have c101 := cell_of p10 1
        have c102 := cell_of p10 2
        have c110 := cell_of p11 0
        have c111 := cell_of p11 1
        have c120 := cell_of p12 0
        have c121 := cell_of p12 1
        have cM0 := cell_of pM 0
        have cM1 := cell_of pM 1
        have cM2 := cell_of pM 2
        have f120 := frozen_of p12 0
        have f121 := frozen_of p12 1
        have fM0 := frozen_of pM 0
        have fM1 := frozen_of pM 1
        have fM2 := frozen_of pM 2
        simp at c100 c101 c102 c110 c111 c120 c121 cM0 cM1 cM2
        have hn8 : (num taken : Int) ≤ 4294967295 := by
          have : 256 ^ taken.length ≤ 256 ^ 4 := Nat.pow_le_pow_right (by decide) htl
          omega
        go_wp2
        have hR7 : IsR (w6.setCell ⟨w5.heap.size + 1 + 1, 0, none⟩ (.int .u64 (num taken : Nat))) b ⟨xs, at', err'⟩ := hR6.keep fun q hq => Below.heap_setCell _ _ _ _ (by simp; omega)
        have hSn : ∀ W, Bs W (fun _ => True) (.slice none 0 0) [] := fun W => Sl.nil _ _ _
        have hvb7 : Bs (w6.setCell ⟨w5.heap.size + 1 + 1, 0, none⟩ (.int .u64 (num taken : Nat))) (fun _ => True) (.slice Ab 0 cb) [] := ⟨rfl, hvb.2.imp fun A h => h.imp fun c h => ⟨h.1, h.2.1, h.2.2.1, h.2.2.2.1, fun h0 => by simp at h0⟩⟩
        go_quiet ((first
          | (go_at_call 11; exact Calls.quiet_of (same_any _ _ [] [] _ _ _ (hSn _) (hvb7.below (below_dn (Below.refl _ _) _))))
          | (go_at_call 21; exact Calls.quiet_of (left_any b _ _ (hR7.below (below_dn (Below.refl _ _) _))))
          | (go_at_call 22; exact Calls.quiet_of_same ((err_any b _ _ (hR7.below (below_dn (Below.refl _ _) _))).mono fun e w' h => ⟨h.1, h.2.symm⟩))))
        go_wp2
        refine ⟨⟨k + 1, by omega, by go_num, ⟨xs, at', err'⟩, reads_close w wr w6 b b' _ _ _ _ _ _ _ _ _ _ _ _ nq ?_ hbl hb3 hbl' hsz3 (by omega) ?_ ?_ q2 pM q4 hR6⟩, by simp only [intOf]; omega⟩
        · exact Nat.le_trans hB1.size hb2
        · intro q hq hne
          exact (hg6.block q (by simp; omega) (by simpa using hne)).trans ((Below.heap_alloc _ _ _ (by simp; omega)).trans ((Below.heap_alloc _ _ _ (by simp; omega)).trans ((Below.heap_alloc _ _ _ (by omega)).trans (k5.block q (by omega)))))
        · exact below_gr (below_tr hB (below_al (below_al (below_al k5 _) _) _)) hg6 (Nat.le_trans hB1.size hb2)
      · have hdo := fun wq F (hq : Bs wq F (.slice A4 xs.length c4) xs) => do_any (.slice A4 xs.length c4) ⟨xs, at_, err⟩ 3 nn wq F hq q1.1 (by decide) ⟨r3, r4⟩
        have hu := fun wq (hq : IsR wq b ⟨xs, at_, err⟩) => u64_any b ⟨xs, at_, err⟩ wq hq
        have ht := Rs.take_keeps ⟨xs, at_, err⟩ 8 q1.1 q1.2.2.1
        have htl := Rs.take_at ⟨xs, at_, err⟩ 8
        have hnl := L.num_lt (Rs.take ⟨xs, at_, err⟩ 8).2
        rw [show askN 3 nn = 8 from rfl] at hdo
        rw [show ((8 : Nat) : Int) = 8 from rfl] at htl
        generalize Rs.take ⟨xs, at_, err⟩ 8 = p at *
        obtain ⟨⟨xs', at', err'⟩, taken⟩ := p
        obtain ⟨rfl, ht2, ht3, ht4⟩ := ht
        dsimp only at hdo hu ht2 ht3 ht4 htl hnl
        have HDO := Lib.hid hdo
        have HU := Lib.hid hu
        clear hdo hu
        go_wp2_with fail
        refine (HDO.out _ _ (q4.below (by repeat' (first | exact Below.refl _ _ | assumption | with_reducible refine below_dn ?_ _ | with_reducible refine below_al ?_ _)))).mono ?_
        rintro e w5 ⟨vb, rfl, hvb, hB5⟩
        obtain ⟨Ab, cb, rfl, -, -, -, -⟩ := hvb.open_
        have z90 : w5.cell? ⟨wr.heap.size, 0, none⟩ = some (.int .i64 3) := (hB5.cell (p := ⟨wr.heap.size, 0, none⟩) (by simp)).trans (by simp)
        have z91 : w5.cell? ⟨wr.heap.size, 1, none⟩ = some (.int .i64 nn) := (hB5.cell (p := ⟨wr.heap.size, 1, none⟩) (by simp)).trans (by simp)
        have z90' := fun o1 o2 o3 => cell_al (cell_al (cell_al z90 o1) o2) o3
        have z91' := fun o1 o2 o3 => cell_al (cell_al (cell_al z91 o1) o2) o3
        have k5 : Below wr.heap.size wr w5 := below_tr (by repeat' (first | exact Below.refl _ _ | assumption | with_reducible refine below_dn ?_ _ | with_reducible refine below_al ?_ _)) hB5
        have hsz5 : wr.heap.size < w5.heap.size := by have := hB5.size; simp at this; omega
        have hM5 : w4.heap.size < w5.heap.size := by omega
        have hbw := q1s.lt
        go_wp2_with fail
        refine (HU.out _ (q1s.below (by repeat' (first | exact Below.refl _ _ | assumption | with_reducible refine below_dn ?_ _ | with_reducible refine below_al ?_ _)))).mono ?_
        rintro e w6 ⟨rfl, hR6, hg6⟩
        have hbM : b < w4.heap.size := by omega
        -- the three new blocks and the document's reader, in w6
        have p10 := gr_heap hg6 (q := w5.heap.size) (heap_al (heap_al (heap_alloc_new w5 _) _) _) (by omega)
        have p11 := gr_heap hg6 (q := w5.heap.size + 1) (heap_al (by simpa using heap_alloc_new (w5.alloc _) _) _) (by omega)
        have p12 := gr_heap hg6 (q := w5.heap.size + 1 + 1) (by simpa using heap_alloc_new ((w5.alloc _).alloc _) _) (by omega)
        have pM := gr_heap hg6 (q := w4.heap.size) (heap_al (heap_al (heap_al (heap_bl k5 q3) _) _) _) (by omega)
        have c100 := cell_of p10 0
        have c101 := cell_of p10 1
        have c102 := cell_of p10 2
        have c110 := cell_of p11 0
        have c111 := cell_of p11 1
        have c120 := cell_of p12 0
        have c121 := cell_of p12 1
        have cM0 := cell_of pM 0
        have cM1 := cell_of pM 1
        have cM2 := cell_of pM 2
        have f120 := frozen_of p12 0
        have f121 := frozen_of p12 1
        have fM0 := frozen_of pM 0
        have fM1 := frozen_of pM 1
        have fM2 := frozen_of pM 2
        simp at c100 c101 c102 c110 c111 c120 c121 cM0 cM1 cM2
        have hn8 : (num taken : Int) ≤ 18446744073709551615 := by
          have : 256 ^ taken.length ≤ 256 ^ 8 := Nat.pow_le_pow_right (by decide) htl
          omega
        go_wp2
        have hR7 : IsR (w6.setCell ⟨w5.heap.size + 1 + 1, 0, none⟩ (.int .u64 (num taken : Nat))) b ⟨xs, at', err'⟩ := hR6.keep fun q hq => Below.heap_setCell _ _ _ _ (by simp; omega)
        have hSn : ∀ W, Bs W (fun _ => True) (.slice none 0 0) [] := fun W => Sl.nil _ _ _
        have hvb7 : Bs (w6.setCell ⟨w5.heap.size + 1 + 1, 0, none⟩ (.int .u64 (num taken : Nat))) (fun _ => True) (.slice Ab 0 cb) [] := ⟨rfl, hvb.2.imp fun A h => h.imp fun c h => ⟨h.1, h.2.1, h.2.2.1, h.2.2.2.1, fun h0 => by simp at h0⟩⟩
        go_quiet ((first
          | (go_at_call 11; exact Calls.quiet_of (same_any _ _ [] [] _ _ _ (hSn _) (hvb7.below (below_dn (Below.refl _ _) _))))
          | (go_at_call 21; exact Calls.quiet_of (left_any b _ _ (hR7.below (below_dn (Below.refl _ _) _))))
          | (go_at_call 22; exact Calls.quiet_of_same ((err_any b _ _ (hR7.below (below_dn (Below.refl _ _) _))).mono fun e w' h => ⟨h.1, h.2.symm⟩))))
        go_wp2
        refine ⟨⟨k + 1, by omega, by go_num, ⟨xs, at', err'⟩, reads_close w wr w6 b b' _ _ _ _ _ _ _ _ _ _ _ _ nq ?_ hbl hb3 hbl' hsz3 (by omega) ?_ ?_ q2 pM q4 hR6⟩, by simp only [intOf]; omega⟩
        · exact Nat.le_trans hB1.size hb2
        · intro q hq hne
          exact (hg6.block q (by simp; omega) (by simpa using hne)).trans ((Below.heap_alloc _ _ _ (by simp; omega)).trans ((Below.heap_alloc _ _ _ (by simp; omega)).trans ((Below.heap_alloc _ _ _ (by omega)).trans (k5.block q (by omega)))))
        · exact below_gr (below_tr hB (below_al (below_al (below_al k5 _) _) _)) hg6 (Nat.le_trans hB1.size hb2)
      · have hdo := fun wq F (hq : Bs wq F (.slice A4 xs.length c4) xs) => do_any (.slice A4 xs.length c4) ⟨xs, at_, err⟩ 4 nn wq F hq q1.1 (by decide) ⟨r3, r4⟩
        have hu := fun wq (hq : IsR wq b ⟨xs, at_, err⟩) => raw_any b ⟨xs, at_, err⟩ nn wq hq ⟨r3, r4⟩
        have ht := Rs.take_keeps ⟨xs, at_, err⟩ nn q1.1 q1.2.2.1
        rw [show askN 4 nn = nn from rfl] at hdo
        generalize Rs.take ⟨xs, at_, err⟩ nn = p at *
        obtain ⟨⟨xs', at', err'⟩, taken⟩ := p
        obtain ⟨rfl, ht2, ht3, ht4⟩ := ht
        dsimp only at hdo hu ht2 ht3 ht4
        have HDO := Lib.hid hdo
        have HU := Lib.hid hu
        clear hdo hu
        go_wp2_with fail
        refine (HDO.out _ _ (q4.below (by repeat' (first | exact Below.refl _ _ | assumption | with_reducible refine below_dn ?_ _ | with_reducible refine below_al ?_ _)))).mono ?_
        rintro e w5 ⟨vb, rfl, hvb, hB5⟩
        replace hvb : Bs w5 (fun q => w3.heap.size ≤ q ∧ q < w4.heap.size) vb taken := hvb
        obtain ⟨Ab, cb, rfl, -, -, -, -⟩ := hvb.open_
        have z90 : w5.cell? ⟨wr.heap.size, 0, none⟩ = some (.int .i64 4) := (hB5.cell (p := ⟨wr.heap.size, 0, none⟩) (by simp)).trans (by simp)
        have z91 : w5.cell? ⟨wr.heap.size, 1, none⟩ = some (.int .i64 nn) := (hB5.cell (p := ⟨wr.heap.size, 1, none⟩) (by simp)).trans (by simp)
        have z90' := fun o1 o2 o3 => cell_al (cell_al (cell_al z90 o1) o2) o3
        have z91' := fun o1 o2 o3 => cell_al (cell_al (cell_al z91 o1) o2) o3
        have k5 : Below wr.heap.size wr w5 := below_tr (by repeat' (first | exact Below.refl _ _ | assumption | with_reducible refine below_dn ?_ _ | with_reducible refine below_al ?_ _)) hB5
        have hsz5 : wr.heap.size < w5.heap.size := by have := hB5.size; simp at this; omega
        have hM5 : w4.heap.size < w5.heap.size := by omega
        have hbw := q1s.lt
        go_wp2_with fail
        refine (HU.out _ (q1s.below (by repeat' (first | exact Below.refl _ _ | assumption | with_reducible refine below_dn ?_ _ | with_reducible refine below_al ?_ _)))).mono ?_
        rintro e w6 ⟨vg, rfl, og, hR6, hg6⟩
        have hvg : Bs w6 (fun q => w5.heap.size + 1 + 1 + 1 ≤ q) vg taken := og.bs.imp fun q _ h => by simpa using h
        obtain ⟨Ag, cg, rfl, -, -, -, -⟩ := hvg.open_
        have hsz6 := hg6.size
        have hbM : b < w4.heap.size := by omega
        -- the three new blocks and the document's reader, in w6
        have p10 := gr_heap hg6 (q := w5.heap.size) (heap_al (heap_al (heap_alloc_new w5 _) _) _) (by omega)
        have p11 := gr_heap hg6 (q := w5.heap.size + 1) (heap_al (by simpa using heap_alloc_new (w5.alloc _) _) _) (by omega)
        have p12 := gr_heap hg6 (q := w5.heap.size + 1 + 1) (by simpa using heap_alloc_new ((w5.alloc _).alloc _) _) (by omega)
        have pM := gr_heap hg6 (q := w4.heap.size) (heap_al (heap_al (heap_al (heap_bl k5 q3) _) _) _) (by omega)
        have c100 := cell_of p10 0
        have c101 := cell_of p10 1
        have c102 := cell_of p10 2
        have c110 := cell_of p11 0
        have c111 := cell_of p11 1
        have c120 := cell_of p12 0
        have c121 := cell_of p12 1
        have cM0 := cell_of pM 0
        have cM1 := cell_of pM 1
        have cM2 := cell_of pM 2
        have f120 := frozen_of p12 0
        have f121 := frozen_of p12 1
        have fM0 := frozen_of pM 0
        have fM1 := frozen_of pM 1
        have fM2 := frozen_of pM 2
        simp at c100 c101 c102 c110 c111 c120 c121 cM0 cM1 cM2
        go_wp2
        have hR7 : IsR (w6.setCell ⟨w5.heap.size + 1 + 1, 1, none⟩ (.slice Ag taken.length cg)) b ⟨xs, at', err'⟩ := hR6.keep fun q hq => Below.heap_setCell _ _ _ _ (by simp; omega)
        have hvg7 : Bs (w6.setCell ⟨w5.heap.size + 1 + 1, 1, none⟩ (.slice Ag taken.length cg)) (fun q => w5.heap.size + 1 + 1 + 1 ≤ q) (.slice Ag taken.length cg) taken := by
          refine Sl.keep hvg (by decide) fun q _ hq => Below.heap_setCell _ _ _ _ ?_
          simp; omega
        have hvb7 : Bs (w6.setCell ⟨w5.heap.size + 1 + 1, 1, none⟩ (.slice Ag taken.length cg)) (fun q => w3.heap.size ≤ q ∧ q < w4.heap.size) (.slice Ab taken.length cb) taken := by
          refine Sl.keep hvb (by decide) fun q hq1 hq2 => (Below.heap_setCell _ _ _ _ (by simp; omega)).trans ?_
          exact (hg6.block q (by simp; omega) (by simp; omega)).trans ((Below.heap_alloc _ _ _ (by simp; omega)).trans ((Below.heap_alloc _ _ _ (by simp; omega)).trans (Below.heap_alloc _ _ _ (by omega))))
        go_quiet ((first
          | (go_at_call 11; exact Calls.quiet_of (same_any' _ _ taken _ _ _ (hvg7.below (below_dn (Below.refl _ _) _)) (hvb7.below (below_dn (Below.refl _ _) _))))
          | (go_at_call 21; exact Calls.quiet_of (left_any b _ _ (hR7.below (below_dn (Below.refl _ _) _))))
          | (go_at_call 22; exact Calls.quiet_of_same ((err_any b _ _ (hR7.below (below_dn (Below.refl _ _) _))).mono fun e w' h => ⟨h.1, h.2.symm⟩))))
        go_wp2
        refine ⟨⟨k + 1, by omega, by go_num, ⟨xs, at', err'⟩, reads_close w wr w6 b b' _ _ _ _ _ _ _ _ _ _ _ _ nq ?_ hbl hb3 hbl' hsz3 (by omega) ?_ ?_ q2 pM q4 hR6⟩, by simp only [intOf]; omega⟩
        · exact Nat.le_trans hB1.size hb2
        · intro q hq hne
          exact (hg6.block q (by simp; omega) (by simpa using hne)).trans ((Below.heap_alloc _ _ _ (by simp; omega)).trans ((Below.heap_alloc _ _ _ (by simp; omega)).trans ((Below.heap_alloc _ _ _ (by omega)).trans (k5.block q (by omega)))))
        · exact below_gr (below_tr hB (below_al (below_al (below_al k5 _) _) _)) hg6 (Nat.le_trans hB1.size hb2)
    · have hR' := q2.isR
      go_wp2_with fail
      refine (left_any b' _ _ hR').mono ?_
      rintro e w6 ⟨rfl, n6, rfl⟩
      dsimp only
      rw [show ((xs.length : Int) - (0 : Nat)) = xs.length from by simp]
      go_wp2_with fail
      refine (err_any b' _ _ (hR'.below (below_dn (Below.refl _ _) _))).mono ?_
      rintro e w7 ⟨rfl, rfl⟩
      go_wp2
      go_ret
      exact ⟨rfl, below_dn hB _⟩

end Go.Proofs.Ytifgieejmpfcdaa
