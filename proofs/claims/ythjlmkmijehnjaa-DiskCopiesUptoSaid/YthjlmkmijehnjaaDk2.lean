/- Layer 2's walks: what is pending. No condition beyond sizes. -/
import Derived.Test.YthjlmkmijehnjaaDk1
import Derived.Test.YthjlmkmijehnjaaAg
namespace Go.Proofs.Ythjlmkmijehnjaa
open Go.RowKit Go.Shelf K L
set_option linter.unusedVariables false
set_option linter.unusedSimpArgs false

theorem wcells_len (p : Nat × Blk) (h : p.2.length = 64) : (wcells p).length = 65 := by simp [wcells, bvs_len, h]

theorem fm_len' {α : Type} {f : α → List Value} {k : Nat} : ∀ es : List α, (∀ a ∈ es, (f a).length = k) → (es.flatMap f).length = es.length * k
  | [], _ => by simp
  | e :: es, hk => by rw [List.flatMap_cons, List.length_append, hk e (List.mem_cons_self ..), fm_len' es (fun a ha => hk a (List.mem_cons_of_mem _ ha)), List.length_cons, Nat.succ_mul]; omega
theorem fm_get' {α : Type} {f : α → List Value} {k : Nat} : ∀ (es : List α) (hk : ∀ a ∈ es, (f a).length = k) (i j : Nat), j < k → (es.flatMap f)[i * k + j]? = (es[i]?).bind fun e => (f e)[j]?
  | [], _, i, j, _ => by simp
  | e :: es, hk, i, j, hj => by
    rw [List.flatMap_cons]
    have he := hk e (List.mem_cons_self ..)
    cases i with
    | zero => rw [List.getElem?_append_left (by rw [he]; omega)]; simp
    | succ i =>
      rw [List.getElem?_append_right (by rw [he, Nat.succ_mul]; omega), he, show (i + 1) * k + j - k = i * k + j from by rw [Nat.succ_mul]; omega, fm_get' es (fun a ha => hk a (List.mem_cons_of_mem _ ha)) i j hj]
      simp

/-- The cells of the i-th element of an own row. -/
theorem own_range {α : Type} {f : α → List Value} {k base e n : Nat} {w : World} {v : Value} {es : List α} (hk : ∀ a ∈ es, (f a).length = k) (h : w.ownsRow base e k v n (es.flatMap f)) (hn : n = es.length) (i : Nat) (hi : i < es.length) :
    ∃ g c, v = .slice (some ⟨g, 0, none⟩) n c ∧ n ≤ c ∧ c ≤ maxLen ∧ v.ownBlock = some g ∧ g < w.heap.size ∧ w.rangeAt g (i * k) (f es[i]) ∧ w.there g (i * k) k := by
  subst hn
  obtain ⟨hl, ⟨rfl, h0⟩ | ⟨g, cap, cur, rfl, hb, hg, hnc, hcm, hcs, htake⟩⟩ := h
  · omega
  · have hik : i * k + k ≤ cap * k := by rw [← Nat.succ_mul]; exact Nat.mul_le_mul_right _ (by omega)
    have hik2 : i * k + k ≤ es.length * k := by rw [← Nat.succ_mul]; exact Nat.mul_le_mul_right _ (by omega)
    refine ⟨g, cap, rfl, hnc, hcm, rfl, (Array.getElem?_eq_some_iff.1 hg).1, fun j u hu => ?_, fun j hj => ⟨?_, frozen_of_row w g _ _ _ hg⟩⟩
    · have hj : j < k := by have := (List.getElem?_eq_some_iff.1 hu).1; rwa [hk _ (List.getElem_mem hi)] at this
      rw [cell_of_row w g (i * k + j) cur e _ hg]
      have := fm_get' es hk i j hj
      rw [← htake, List.getElem?_take, if_pos (by omega), List.getElem?_eq_getElem hi] at this
      rw [← Array.getElem?_toList, this]; exact hu
    · rw [cell_of_row w g (i * k + j) cur e _ hg]
      rw [Array.getElem?_eq_getElem (by rw [hcs]; omega)]; rfl

theorem info_wrote : (Try.prog.info? 80).map (·.size) = some 65 := by kernel_rfl
theorem info_block : (Try.prog.info? 27).map (·.size) = some 64 := by kernel_rfl

theorem pend_nil (w : World) : Calls Try.prog 28 #[.pointer none] w fun e w' => e = .returned (.slice none 0 0) ∧ w = w' := by
  go_enter Try.func28, Try.ntmps28
  go_wp2
  go_ret
  exact ⟨rfl, rfl⟩

theorem zero_wrote : ∀ w, (zeroValue 80).run Try.prog w = .ok (.agg (wcells (0, zblk)).toArray) w := zero_of (by kernel_rfl)
theorem zero_block : ∀ w, (zeroValue 27).run Try.prog w = .ok (.agg (bvs zblk).toArray) w := zero_of (by kernel_rfl)
theorem one_wcells (p : Nat × Blk) : (wcells p).toArray.all (·.oneCell') = true := all_oneCell_toArray fun v hv => by
  simp only [wcells, List.mem_cons] at hv
  rcases hv with rfl | hv
  · rfl
  · exact one_bvs _ v hv
theorem one_blk (b : Blk) : (bvs b).toArray.all (·.oneCell') = true := all_oneCell_toArray (one_bvs b)
theorem size_wrote {p : Nat × Blk} (h : p.2.length = 64) : (Try.prog.info? 80).map (·.size) = some (wcells p).toArray.size := by rw [info_wrote, List.size_toArray, wcells_len p h]
theorem size_wrote' {p : Nat × Blk} (h : p.2.length = 64) : (Try.prog.info? 80).map (·.size) = some (wcells p).length := by rw [info_wrote, wcells_len p h]
theorem size_blk {b : Blk} (h : b.length = 64) : (Try.prog.info? 27).map (·.size) = some (bvs b).toArray.size := by rw [info_block, List.size_toArray, bvs_len, h]
theorem size_blk' {b : Blk} (h : b.length = 64) : (Try.prog.info? 27).map (·.size) = some (bvs b).length := by rw [info_block, bvs_len, h]
theorem size_zw {p : Nat × Blk} (h : p.2.length = 64) : (wcells (0, zblk)).toArray.size = (wcells p).toArray.size := by rw [List.size_toArray, List.size_toArray, wcells_len p h, wcells_len _ zblk_len]
theorem size_zb {b : Blk} (h : b.length = 64) : (bvs zblk).toArray.size = (bvs b).toArray.size := by rw [List.size_toArray, List.size_toArray, bvs_len, bvs_len, h]; rfl
/-- A write in a box. -/
theorem wbox {w : World} {q : Nat} {p : Nat × Blk} (h : w.heap[q]? = some (.cells (wcells p).toArray 80 (0, 0))) : w.cell? ⟨q, 0, none⟩ = some (.int .i64 (p.1 : Nat)) ∧ w.rangeAt q 1 (bvs p.2) := by
  refine ⟨cell_of_row w q 0 _ _ _ h, fun j u hu => ?_⟩
  rw [cell_of_row w q (1 + j) _ _ _ h, List.getElem?_toArray, wcells, Nat.add_comm, List.getElem?_cons_succ]
  exact hu

theorem elI : Elem Try.prog 56 3 1 8 (.int .i64 0) := ⟨Try.underlying56, by kernel_rfl, rfl, by decide⟩

set_option maxRecDepth 100000 in
set_option maxHeartbeats 4000000 in
theorem pend_any {w : World} {S : Nat → Prop} {b : Nat} {vs vp : Value} {d : PD} (h : Dk w S b vs vp d) (hn : d.ops < 1073741824) : Calls Try.prog 28 #[.pointer (some ⟨b, 0, none⟩)] w fun e w' =>
    ∃ v, e = .returned v ∧ w'.ownsRow w.heap.size 3 1 v d.pend.length (d.pend.map fun p => .int .i64 (p.1 : Nat)) ∧ Below w.heap.size w w' := by
  obtain ⟨-, c1, -, -, -, -, -⟩ := h.hd.cells
  have H := Lib.hid h
  have hnum := h.ok.num
  obtain ⟨A, c, rfl, hle, hmx, -, -⟩ := own_slice h.pend
  clear h
  go_enter Try.func28, Try.ntmps28
  go_wp2
  go_loopw [3, 13] (fun l i wr => ∃ k : Nat, k ≤ d.pend.length ∧ i = .int .i64 k ∧ wr.ownsRow w.heap.size 3 1 l k ((d.pend.take k).map fun p => .int .i64 (p.1 : Nat)) ∧ Below w.heap.size w wr) (fun _ i _ => d.pend.length - (intOf i).toNat)
  case atStart => exact ⟨0, Nat.zero_le _, rfl, World.ownsRow_nil _ _ _ _, Below.refl _ _⟩
  case round =>
    obtain ⟨k, hk, rfl, ho, hb⟩ := hrel
    by_cases hlt : k < d.pend.length
    · obtain ⟨g, c', he, -, -, -, hg, hr, -⟩ := own_range (fun p hp => wcells_len p (H.out.ok.pnd p hp).2) (H.out.below hb).pend rfl k hlt
      cases he
      have hp64 := (H.out.ok.pnd _ (List.getElem_mem hlt)).2
      have hsn := take_snoc d.pend k hlt
      generalize d.pend[k] = p at *
      obtain ⟨W4, hW4⟩ : ∃ W4, wr.alloc (.cells (wcells p).toArray 80) = W4 := ⟨_, rfl⟩
      have hb4 : Below wr.heap.size wr W4 := by rw [← hW4]; exact below_al (Below.refl _ _) _
      have hx4 : W4.heap[wr.heap.size]? = some (.cells (wcells p).toArray 80 (0, 0)) := by rw [← hW4]; exact heap_alloc_last _ _
      have c0 := (wbox hx4).1
      have HO4 := Lib.hid (show W4.ownsRow w.heap.size 3 1 _ k _ from by rw [← hW4]; exact ho.alloc _)
      have HB4 := Lib.hid (below_tr hb hb4)
      have HSN := Lib.hid hsn
      have HP := Lib.hid hp64
      have HR := Lib.hid hr
      have HW4 := Lib.hid hW4
      obtain ⟨Al, cl, rfl, -, -, -, -⟩ := own_slice ho
      clear ho hb hsn hp64 hr hb4 hx4 hW4
      go_wp2_with (first | (refine wpList_load_mid rfl 80 _ rfl _ _ rfl _ _ HR.out Try.underlying80 rfl (size_wrote' HP.out) ?_) | (refine wl_alloc rfl 80 rfl zero_wrote ?_) | (refine wl_store_new rfl 80 _ _ rfl _ _ _ rfl rfl (size_wrote HP.out) (size_zw HP.out) (one_wcells p) ?_; rw [HW4.out]) | (at_builtin; go_must (refine app elI rfl _ _ rfl w.heap.size (HO4.out.alloc _) (Sl.lit W4 [.int .i64 (p.1 : Nat)] 3 1 1 rfl (by decide)) rfl rfl (fun u hu => by obtain rfl := List.mem_singleton.1 hu; rfl) (by omega) (by decide) (by have := HB4.out.size; rw [World.size_alloc]; omega) ?_); intro v5 W5 ho5 hg5; have HG5 := Lib.hid hg5; have HO5 := Lib.hid ho5; clear hg5 ho5))
      have hb5 := push_below HB4.out HO4.out HG5.out (Nat.le_refl _)
      refine ⟨⟨k + 1, by omega, by go_num, ?_, hb5⟩, by simp only [intOf]; omega⟩
      rw [HSN.out, List.map_append]; exact HO5.out
    · obtain rfl : k = d.pend.length := by omega
      rw [List.take_length] at ho
      obtain ⟨Al, cl, rfl, -, -, -, -⟩ := own_slice ho
      have HO := Lib.hid ho
      clear ho
      go_wp2
      go_ret
      exact ⟨_, rfl, HO.out, hb⟩

end Go.Proofs.Ythjlmkmijehnjaa
