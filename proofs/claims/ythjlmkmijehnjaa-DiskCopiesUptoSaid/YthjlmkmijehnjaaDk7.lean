/- Layer 2's walks: write whole, new, copies. No condition beyond sizes. -/
import Derived.Test.YthjlmkmijehnjaaDk6
namespace Go.Proofs.Ythjlmkmijehnjaa
open Go.RowKit Go.Shelf K L
set_option linter.unusedVariables false
set_option linter.unusedSimpArgs false

theorem PD.write_no {d : PD} {i : Int} {bl : Blk} (h : ¬ (d.ready i).1 = 0) : d.write i bl = d.ready i := by unfold PD.write; rw [if_neg h]
theorem PD.write_dead {d : PD} {i : Int} {bl : Blk} (h : (d.ready i).1 = 0) (h2 : ¬ (d.ready i).2.tick.1 = 0) : d.write i bl = (d.ready i).2.tick := by unfold PD.write; rw [if_pos h, if_neg h2]
theorem PD.write_yes {d : PD} {i : Int} {bl : Blk} (h : (d.ready i).1 = 0) (h2 : (d.ready i).2.tick.1 = 0) : d.write i bl = (0, (d.ready i).2.tick.2.put i.toNat bl) := by unfold PD.write; rw [if_pos h, if_pos h2]

set_option maxRecDepth 100000 in
set_option maxHeartbeats 4000000 in
theorem write_any {w : World} {S : Nat → Prop} {b : Nat} {d : PD} (h : IsD w S b d) (hn : d.ops < 1073741823) (i : Int) (i1 : -9223372036854775808 ≤ i) (i2 : i ≤ 9223372036854775807) (bl : Blk) (hb : bl.length = 64) :
    Calls Try.prog 33 #[.pointer (some ⟨b, 0, none⟩), .int .i64 i, .agg (bvs bl).toArray] w (Done w S b (d.write i bl)) := by
  obtain ⟨vs, vp, h⟩ := h
  obtain ⟨W, hW⟩ : ∃ W, ((w.alloc (.cells #[.pointer (some ⟨b, 0, none⟩)] 24)).alloc (.cells #[.int .i64 i] 3)).alloc (.cells (bvs bl).toArray 27) = W := ⟨_, rfl⟩
  have hb0 : Below w.heap.size w W := by rw [← hW]; exact below_al (below_al (below_al (Below.refl _ _) _) _) _
  have hx0 : W.heap[w.heap.size]? = some (.cells #[.pointer (some ⟨b, 0, none⟩)] 24 (0, 0)) := by rw [← hW]; exact heap_al (heap_al (heap_alloc_last _ _) _) _
  have hx1 : W.heap[w.heap.size + 1]? = some (.cells #[.int .i64 i] 3 (0, 0)) := by rw [← hW]; exact heap_al (by have := heap_alloc_last (w.alloc (.cells #[.pointer (some ⟨b, 0, none⟩)] 24)) (.cells #[.int .i64 i] 3); simpa [World.size_alloc] using this) _
  have hx2 : W.heap[w.heap.size + 1 + 1]? = some (.cells (bvs bl).toArray 27 (0, 0)) := by rw [← hW]; have := heap_alloc_last ((w.alloc (.cells #[.pointer (some ⟨b, 0, none⟩)] 24)).alloc (.cells #[.int .i64 i] 3)) (.cells (bvs bl).toArray 27); simpa [World.size_alloc] using this
  have hS0 : ¬ S w.heap.size := fun hs => Nat.lt_irrefl _ (h.lt _ hs)
  have hS1 : ¬ S (w.heap.size + 1) := fun hs => by have := h.lt _ hs; omega
  have hS2 : ¬ S (w.heap.size + 1 + 1) := fun hs => by have := h.lt _ hs; omega
  have HR := Lib.hid (ready_any (h.below hb0) i i1 i2)
  have HU0 := Lib.hid (Upd.of_below hb0 : Upd S w W)
  have q0 := cell_in hx0 0
  have q1 := cell_in hx1 0
  simp at q0 q1
  have HX0 := Lib.hid hx0
  have HX1 := Lib.hid hx1
  have HX2 := Lib.hid hx2
  have HB := Lib.hid hb
  clear h hb0 hx0 hx1 hx2 hb
  go_enter Try.func33, Try.ntmps33
  go_wp2_with fail
  try rw [hW]
  refine HR.out.mono ?_
  rintro e w1 ⟨rfl, hd1, hu1, hs1⟩
  have hy0 := hu1.heap HX0.out hS0
  have hy1 := hu1.heap HX1.out hS1
  have hy2 := hu1.heap HX2.out hS2
  have p0 := cell_in hy0 0
  simp at p0
  have HU1 := Lib.hid (HU0.out.trans hu1 (fun _ _ h => h))
  clear q0 q1
  by_cases hr : (d.ready i).1 = 0
  · have ho := PD.ready_ops d i
    have hin := PD.ready_in hr
    have hsf := PD.ready_safe d i
    rw [hr]
    by_cases ht : (d.ready i).2.tick.1 = 0
    · have HY := Lib.hid (PD.write_yes (bl := bl) hr ht)
      have ho2 := PD.tick_ops0 ht
      have hsf2 := PD.tick_safe (d.ready i).2
      have hpn2 := PD.tick_pend (d.ready i).2
      obtain ⟨n, rfl⟩ : ∃ n : Nat, i = n := ⟨i.toNat, by omega⟩
      have HC := Lib.hid (do_yes hd1 (by omega) 52 #[.pointer (some ⟨w.heap.size, 0, none⟩), .pointer (some ⟨w.heap.size + 1, 0, none⟩), .pointer (some ⟨w.heap.size + 1 + 1, 0, none⟩)] ht
        (fun w' => Goes w S b ((d.ready n).2.tick.2.put n bl) w') (enters_of Try.func52 (by kernel_rfl) rfl) (fun w2 hd2 hu2 hs2 => by
        refine (write1 hd2 (by omega) n bl (by rw [hsf2, hsf]; omega) HB.out (by rw [ho2, hpn2]; have := hd1.ok.num; omega) (hu2.heap hy0 hS0) (hu2.heap hy1 hS1) (hu2.heap hy2 hS2) hS0 hS1 hS2).mono ?_
        rintro e w3 ⟨hu, hg⟩
        exact ⟨hu, hg.after (HU1.out.trans hu2 (fun _ _ h => h))⟩))
      clear hd1 hu1 hr ht ho ho2 hW hy0 hy1 hy2 hin hsf hsf2 hpn2
      go_wp2_with fail
      refine HC.out.mono ?_
      rintro e w4 ⟨rfl, hg⟩
      have HG := Lib.hid hg
      clear hg
      go_wp2
      go_ret
      unfold Done; rw [HY.out]; exact ⟨rfl, HG.out⟩
    · have HN := Lib.hid (PD.write_dead (bl := bl) hr ht)
      have HC := Lib.hid (do_no hd1 (.func (.func 52) #[] #[.pointer (some ⟨w.heap.size, 0, none⟩), .pointer (some ⟨w.heap.size + 1, 0, none⟩), .pointer (some ⟨w.heap.size + 1 + 1, 0, none⟩)]) ht)
      clear hd1 hu1 hr ht ho hW hy0 hy1 hy2 hin hsf
      go_wp2_with fail
      refine HC.out.mono ?_
      rintro e w4 ⟨rfl, hd4, hu4, -⟩
      have HG := Lib.hid (Goes.of hd4 (HU1.out.trans hu4 (fun _ _ h => h)))
      clear hd4 hu4
      go_wp2
      go_ret
      unfold Done; rw [HN.out]; exact ⟨rfl, HG.out⟩
  · have HN := Lib.hid (PD.write_no (bl := bl) hr)
    have HG := Lib.hid (Goes.of hd1 HU1.out)
    have hb : ((d.ready i).1 == 0) = false := by simpa using hr
    have hb2 : ((d.ready i).1 != 0) = true := by simpa using hr
    obtain ⟨z, hz⟩ : ∃ z, (d.ready i).1 = z := ⟨_, rfl⟩
    have HZ := Lib.hid hz
    rw [hz] at hb hb2 ⊢
    clear hd1 hu1 hy0 hy1 hy2 hW hr hz
    go_wp2
    go_ret
    unfold Done; rw [HN.out, HZ.out]; exact ⟨rfl, HG.out⟩

theorem flat_rep {α : Type} (f : α → List Value) (x : α) (n : Nat) : (List.replicate n x).flatMap f = (List.replicate n (f x)).flatten := by rw [List.flatMap_def, List.map_replicate]
theorem made_cells (z : List Value) (k : Nat) (hk : z.length = k) (hp : 0 < k) (n : Nat) : (madeCells z.toArray (n * k)).toList = (List.replicate n z).flatten := by
  apply List.ext_getElem?
  intro i
  have hlen : ∀ c ∈ List.replicate n z, c.length = k := fun c hc => by rw [List.eq_of_mem_replicate hc]; exact hk
  unfold madeCells
  by_cases hi : i < n * k
  · have h1 : i / k < n := (Nat.div_lt_iff_lt_mul hp).2 hi
    have h2 : i % k < k := Nat.mod_lt _ hp
    have e1 : i / k * k + i % k = i := by rw [Nat.mul_comm]; exact Nat.div_add_mod i k
    have h3 := K.flatten_get (List.replicate n z) hlen (i / k) (i % k) (by simpa using h1) h2
    rw [e1] at h3
    rw [h3, List.getElem?_replicate, if_pos h1]
    simp only [Array.toList_map, Array.toList_range, List.getElem?_map, List.getElem?_range hi, Option.map_some, Option.bind_some, List.size_toArray, hk]
    rw [List.getElem?_eq_getElem (by omega)]
    rw [getElem!_pos z.toArray (i % k) (by simpa [hk] using h2)]
    simp
  · rw [List.getElem?_eq_none (by simp; omega), List.getElem?_eq_none (by rw [K.flatten_len _ hlen]; simp; omega)]

theorem infoB : ∃ i0, Try.prog.info? 27 = some i0 ∧ i0.zero = some (.agg (bvs zblk).toArray) ∧ i0.size = 64 ∧ i0.bytes = 64 :=
  info_parts (by kernel_rfl)

theorem new_no (n : Int) (w : World) (h : n < 1 ∨ 2048 < n) : Calls Try.prog 16 #[.int .i64 n] w fun e w' => e = .returned (.tuple #[.pointer none, .int .i64 2]) ∧ w = w' := by
  rcases h with h | h
  · go_enter Try.func16, Try.ntmps16
    go_wp2
    go_ret2
    exact ⟨rfl, rfl⟩
  · have h' : ¬ n < 1 := by omega
    go_enter Try.func16, Try.ntmps16
    go_wp2
    go_ret2
    exact ⟨rfl, rfl⟩

set_option maxHeartbeats 2000000 in
theorem new_yes (n : Nat) (w : World) (h1 : 1 ≤ n) (h2 : n ≤ 2048) : Calls Try.prog 16 #[.int .i64 (n : Nat)] w fun e w' =>
    ∃ b, e = .returned (.tuple #[.pointer (some ⟨b, 0, none⟩), .int .i64 0]) ∧ IsD w' (fun x => w.heap.size ≤ x ∧ x < w'.heap.size) b (PD.new n) ∧ Below w.heap.size w w' := by
  obtain ⟨i0, hi, hz0, hz1, hz2⟩ := infoB
  have h1' : ¬ (n : Int) < 1 := by omega
  have h2' : ¬ (2048 : Int) < (n : Int) := by omega
  go_enter Try.func16, Try.ntmps16
  go_wp2_with (at_make; refine wpList_make_full _ rfl _ _ 35 rfl 0 27 i0 (.agg (bvs zblk).toArray) 64 Try.underlying35 hi hz0 hz1 .i64 .i64 _ _ n rfl rfl rfl rfl (by rw [hz2]; omega) (by simp only [maxLen]; omega) (Nat.zero_le _) ?_; intro w1 ho1 hg1; have HO := Lib.hid ho1; have HG := Lib.hid hg1; clear ho1 hg1)
  go_ret2
  have hb1 : Below w.heap.size w w1 := ⟨HG.out.os, HG.out.tape, HG.out.output, HG.out.size, fun b hb => HG.out.block b hb (by simp)⟩
  have hsz := HO.out.lt w.heap.size rfl
  refine ⟨w1.heap.size, rfl, ⟨_, .slice none 0 0, heap_alloc_last _ _, ?_, World.ownsRow_nil _ _ _ _, fun x hx => hx.2, ⟨hb1.size, by rw [World.size_alloc]; omega⟩, fun g hg => ?_, fun g hg => (by cases hg), PD.ok_new n h1 h2⟩, below_al hb1 _⟩
  · have := HO.out
    rw [show (Value.agg (bvs zblk).toArray).cells = (bvs zblk).toArray from rfl, made_cells (bvs zblk) 64 rfl (by decide), ← flat_rep] at this
    simpa [PD.new] using this.alloc _
  · obtain rfl : g = w.heap.size := by cases hg; rfl
    exact ⟨⟨Nat.le_refl _, by rw [World.size_alloc]; omega⟩, by omega⟩

end Go.Proofs.Ythjlmkmijehnjaa
