/- Layer 5's reference: an operation on files, by cases. Printed by genrdo.py. No condition beyond sizes. -/
import Derived.Test.YtjgobljclodpfaaFiA
import Derived.Test.YtjgobljclodpfaaFr4
namespace Go.Proofs.Ytjgobljclodpfaa
open Go.RowKit Go.Shelf K L
set_option linter.unusedVariables false
set_option linter.unusedSimpArgs false

/-- What the reference's operation leaves. -/
def RDone (w : World) (l : List Fl) (o : FO) (e : Ending) (w' : World) : Prop := ∃ v' es', e = .returned (.tuple #[.agg #[v'], .int .i64 (doF l o).1]) ∧ ((doF l o).1 = 0 → fls es' = (doF l o).2) ∧ Fs w' (fun _ => True) v' es' ∧ Below w.heap.size w w'

/-- A box of a slice holds no bytes and no files. -/
theorem sl_apart {w : World} {F : Nat → Prop} {k n q e : Nat} {v u : Value} {xs : List Value} (h : Sl w F k v n xs) (hk : 0 < k) (hq : w.heap[q]? = some (.cells #[u] e (0, 0))) (hu : ∀ x, xs[0]? = some x → x ≠ u) : Sl w (fun b => F b ∧ b ≠ q) k v n xs := by
  have h0 := h
  obtain ⟨hl, A, c, hv, h1, h2, h3, h4⟩ := h
  refine ⟨hl, A, c, hv, h1, h2, h3, fun hn => ?_⟩
  obtain ⟨ad, ha, hf, hat⟩ := h4 hn
  refine ⟨ad, ha, ⟨hf, fun hb => ?_⟩, hat⟩
  subst hv
  obtain ⟨b, o, hA, -, -, hc⟩ := Sl.cells h0 hn hk
  obtain rfl : ad = ⟨b, o, none⟩ := by rw [ha] at hA; exact Option.some.inj hA
  have hpos : 0 < xs.length := by rw [hl]; exact Nat.mul_pos hn hk
  have hx := hc 0 xs[0] (List.getElem?_eq_getElem hpos)
  subst hb
  have hcell := cell_of hq o
  rw [show o + 0 = o from rfl] at hx
  rw [hx] at hcell
  cases o with
  | zero =>
    simp at hcell
    exact hu _ (List.getElem?_eq_getElem hpos) hcell
  | succ o => simp at hcell
theorem fs_set {w : World} {F : Nat → Prop} {v : Value} {es : List FE} {q e n c : Nat} {A : Option Addr} (h : Fs w F v es) (hq : w.heap[q]? = some (.cells #[.slice A n c] e (0, 0))) (u : Value) : Fs (w.setCell ⟨q, 0, none⟩ u) F v es := by
  have hk : ∀ b, b ≠ q → (w.setCell ⟨q, 0, none⟩ u).heap[b]? = w.heap[b]? := fun b hb => heap_setCell_other w ⟨q, 0, none⟩ b u hb
  refine ⟨((sl_apart h.1 (by decide) hq ?_).keep (by decide) fun b _ hf => hk b hf.2).imp (fun _ _ hf => hf.1) (by decide), fun x hx => ?_⟩
  · intro y hy
    cases es with
    | nil => simp at hy
    | cons x es => simp [FE.cells] at hy; rw [← hy]; simp
  · refine ((sl_apart (h.2 x hx) (by decide) hq ?_).keep (by decide) fun b _ hf => hk b hf.2).imp (fun _ _ hf => by rw [World.size_setCell]; exact hf.1) (by decide)
    intro y hy
    simp only [bvs, List.getElem?_map, Option.map_eq_some_iff] at hy
    obtain ⟨z, -, rfl⟩ := hy
    simp [bv]
theorem bs_set {w : World} {F : Nat → Prop} {v : Value} {xs : List UInt8} {q e n c : Nat} {A : Option Addr} (h : Bs w F v xs) (hq : w.heap[q]? = some (.cells #[.slice A n c] e (0, 0))) (u : Value) : Bs (w.setCell ⟨q, 0, none⟩ u) F v xs := by
  refine ((sl_apart h (by decide) hq ?_).keep (by decide) fun b _ hf => heap_setCell_other w ⟨q, 0, none⟩ b u hf.2).imp (fun _ _ hf => hf.1) (by decide)
  intro y hy
  simp only [bvs, List.getElem?_map, Option.map_eq_some_iff] at hy
  obtain ⟨z, -, rfl⟩ := hy
  simp [bv]

theorem Fs.imp_all {w : World} {F : Nat → Prop} {v : Value} {es : List FE} (h : Fs w F v es) : Fs w (fun _ => True) v es := ⟨h.1.imp (fun _ _ _ => trivial) (by decide), h.2⟩

set_option maxRecDepth 100000 in
set_option maxHeartbeats 8000000 in
theorem rdo_bad1 (kind : Int) (name new : List UInt8) (at_ : Int) (bytes : List UInt8) (vb v : Value) (es : List FE) (w : World) (F F2 : Nat → Prop) (h : Fs w F v es) (hk : okFs (fls es) = true) (hvb : Bs w F2 vb bytes)
    (hs1 : bytes.length ≤ 1048576) (hs2 : name.length ≤ 1048576) (hs3 : new.length ≤ 1048576) (ha1 : -9223372036854775808 ≤ at_) (ha2 : at_ ≤ 9223372036854775807) (hb : kind < 1) :
    Calls Try.prog 37 #[.agg #[v], .agg #[.int .i64 kind, .string ⟨name.toArray⟩, .string ⟨new.toArray⟩, .int .i64 at_, vb]] w (RDone w (fls es) ⟨kind, name, new, at_, bytes⟩) := by
  obtain ⟨A0, c0, rfl, q1, q2, -, -⟩ := hvb.open_
  replace q2 : c0 ≤ 9223372036854775807 := by simpa [maxLen] using q2
  obtain ⟨A, c, rfl, l1, l2⟩ := fs_form h
  have HK := Lib.hid hk
  have hlen := ok_len hk
  have hcost := ok_cost hk
  rw [fls_len] at hlen
  obtain ⟨W, hW⟩ : ∃ W, ((w.alloc (.cells #[.slice A es.length c] 24)).alloc (.cells #[.int .i64 kind, .string ⟨name.toArray⟩, .string ⟨new.toArray⟩, .int .i64 at_, .slice A0 bytes.length c0] 37)).alloc (.cells #[.slice none 0 0] 24) = W := ⟨_, rfl⟩
  have hB0 : Below w.heap.size w W := by rw [← hW]; exact below_al (below_al (below_al (Below.refl _ _) _) _) _
  have hx0 : W.heap[w.heap.size]? = some (.cells #[.slice A es.length c] 24 (0, 0)) := by rw [← hW]; exact heap_bl (below_al (below_al (Below.refl _ _) _) _) (heap_alloc_new _ _)
  have hx1 : W.heap[w.heap.size + 1]? = some (.cells #[.int .i64 kind, .string ⟨name.toArray⟩, .string ⟨new.toArray⟩, .int .i64 at_, .slice A0 bytes.length c0] 37 (0, 0)) := by
    rw [← hW]; have := heap_bl (below_al (Below.refl _ _) (.cells #[.slice none 0 0] 24)) (heap_alloc_new (w.alloc (.cells #[.slice A es.length c] 24)) (.cells #[.int .i64 kind, .string ⟨name.toArray⟩, .string ⟨new.toArray⟩, .int .i64 at_, .slice A0 bytes.length c0] 37)); simpa [World.size_alloc] using this
  have hx2 : W.heap[w.heap.size + 1 + 1]? = some (.cells #[.slice none 0 0] 24 (0, 0)) := by
    rw [← hW]; have := heap_alloc_new ((w.alloc (.cells #[.slice A es.length c] 24)).alloc (.cells #[.int .i64 kind, .string ⟨name.toArray⟩, .string ⟨new.toArray⟩, .int .i64 at_, .slice A0 bytes.length c0] 37)) (.cells #[.slice none 0 0] 24); simpa [World.size_alloc] using this
  have hszW : W.heap.size = w.heap.size + 1 + 1 + 1 := by rw [← hW]; simp only [World.size_alloc]
  have HSW := Lib.hid (h.below hB0)
  have HVW := Lib.hid (hvb.below hB0)
  have HX0 := Lib.hid hx0
  have HX1 := Lib.hid hx1
  have HX2 := Lib.hid hx2
  have HB0 := Lib.hid hB0
  have b0 := cell_of hx0 0
  have y0 := cell_of hx1 0
  have y1 := cell_of hx1 1
  have y2 := cell_of hx1 2
  have y3 := cell_of hx1 3
  have y4 := cell_of hx1 4
  have r0 := cell_of hx2 0
  have r1 := frozen_of hx2 0
  have d0 := set_one hx2 (.slice A es.length c)
  simp at b0 y0 y1 y2 y3 y4 r0
  clear h hk hvb hB0 hx0 hx1 hx2
  have HD := Lib.hid (show doF (fls es) ⟨kind, name, new, at_, bytes⟩ = (2, fls es) by unfold doF; rw [if_pos]; unfold opBad; simp; omega)
  have hk1 : decide (kind < 1) = true := by simpa using hb
  go_enter Try.func37, Try.ntmps37
  go_wp2
  try rw [hW]
  exact bodyPost_ret (v := .tuple #[.agg #[.slice A es.length c], .int .i64 2]) (by simp [results, Try.results37, go_sem, d0]) rfl ⟨_, es, by rw [HD.out], (fun h0 => by rw [HD.out] at h0; cases h0), (fs_set HSW.out HX2.out _).imp_all, below_sc (HB0.out) (by simp; omega) _⟩

set_option maxRecDepth 100000 in
set_option maxHeartbeats 8000000 in
theorem rdo_bad2 (kind : Int) (name new : List UInt8) (at_ : Int) (bytes : List UInt8) (vb v : Value) (es : List FE) (w : World) (F F2 : Nat → Prop) (h : Fs w F v es) (hk : okFs (fls es) = true) (hvb : Bs w F2 vb bytes)
    (hs1 : bytes.length ≤ 1048576) (hs2 : name.length ≤ 1048576) (hs3 : new.length ≤ 1048576) (ha1 : -9223372036854775808 ≤ at_) (ha2 : at_ ≤ 9223372036854775807) (hb : 4 < kind) :
    Calls Try.prog 37 #[.agg #[v], .agg #[.int .i64 kind, .string ⟨name.toArray⟩, .string ⟨new.toArray⟩, .int .i64 at_, vb]] w (RDone w (fls es) ⟨kind, name, new, at_, bytes⟩) := by
  obtain ⟨A0, c0, rfl, q1, q2, -, -⟩ := hvb.open_
  replace q2 : c0 ≤ 9223372036854775807 := by simpa [maxLen] using q2
  obtain ⟨A, c, rfl, l1, l2⟩ := fs_form h
  have HK := Lib.hid hk
  have hlen := ok_len hk
  have hcost := ok_cost hk
  rw [fls_len] at hlen
  obtain ⟨W, hW⟩ : ∃ W, ((w.alloc (.cells #[.slice A es.length c] 24)).alloc (.cells #[.int .i64 kind, .string ⟨name.toArray⟩, .string ⟨new.toArray⟩, .int .i64 at_, .slice A0 bytes.length c0] 37)).alloc (.cells #[.slice none 0 0] 24) = W := ⟨_, rfl⟩
  have hB0 : Below w.heap.size w W := by rw [← hW]; exact below_al (below_al (below_al (Below.refl _ _) _) _) _
  have hx0 : W.heap[w.heap.size]? = some (.cells #[.slice A es.length c] 24 (0, 0)) := by rw [← hW]; exact heap_bl (below_al (below_al (Below.refl _ _) _) _) (heap_alloc_new _ _)
  have hx1 : W.heap[w.heap.size + 1]? = some (.cells #[.int .i64 kind, .string ⟨name.toArray⟩, .string ⟨new.toArray⟩, .int .i64 at_, .slice A0 bytes.length c0] 37 (0, 0)) := by
    rw [← hW]; have := heap_bl (below_al (Below.refl _ _) (.cells #[.slice none 0 0] 24)) (heap_alloc_new (w.alloc (.cells #[.slice A es.length c] 24)) (.cells #[.int .i64 kind, .string ⟨name.toArray⟩, .string ⟨new.toArray⟩, .int .i64 at_, .slice A0 bytes.length c0] 37)); simpa [World.size_alloc] using this
  have hx2 : W.heap[w.heap.size + 1 + 1]? = some (.cells #[.slice none 0 0] 24 (0, 0)) := by
    rw [← hW]; have := heap_alloc_new ((w.alloc (.cells #[.slice A es.length c] 24)).alloc (.cells #[.int .i64 kind, .string ⟨name.toArray⟩, .string ⟨new.toArray⟩, .int .i64 at_, .slice A0 bytes.length c0] 37)) (.cells #[.slice none 0 0] 24); simpa [World.size_alloc] using this
  have hszW : W.heap.size = w.heap.size + 1 + 1 + 1 := by rw [← hW]; simp only [World.size_alloc]
  have HSW := Lib.hid (h.below hB0)
  have HVW := Lib.hid (hvb.below hB0)
  have HX0 := Lib.hid hx0
  have HX1 := Lib.hid hx1
  have HX2 := Lib.hid hx2
  have HB0 := Lib.hid hB0
  have b0 := cell_of hx0 0
  have y0 := cell_of hx1 0
  have y1 := cell_of hx1 1
  have y2 := cell_of hx1 2
  have y3 := cell_of hx1 3
  have y4 := cell_of hx1 4
  have r0 := cell_of hx2 0
  have r1 := frozen_of hx2 0
  have d0 := set_one hx2 (.slice A es.length c)
  simp at b0 y0 y1 y2 y3 y4 r0
  clear h hk hvb hB0 hx0 hx1 hx2
  have HD := Lib.hid (show doF (fls es) ⟨kind, name, new, at_, bytes⟩ = (2, fls es) by unfold doF; rw [if_pos]; unfold opBad; simp; omega)
  have hk1 : decide (kind < 1) = false := by simp; omega
  have hk2 : decide (4 < kind) = true := by simpa using hb
  go_enter Try.func37, Try.ntmps37
  go_wp2
  try rw [hW]
  exact bodyPost_ret (v := .tuple #[.agg #[.slice A es.length c], .int .i64 2]) (by simp [results, Try.results37, go_sem, d0]) rfl ⟨_, es, by rw [HD.out], (fun h0 => by rw [HD.out] at h0; cases h0), (fs_set HSW.out HX2.out _).imp_all, below_sc (HB0.out) (by simp; omega) _⟩

set_option maxRecDepth 100000 in
set_option maxHeartbeats 8000000 in
theorem rdo_bad3 (kind : Int) (name new : List UInt8) (at_ : Int) (bytes : List UInt8) (vb v : Value) (es : List FE) (w : World) (F F2 : Nat → Prop) (h : Fs w F v es) (hk : okFs (fls es) = true) (hvb : Bs w F2 vb bytes)
    (hs1 : bytes.length ≤ 1048576) (hs2 : name.length ≤ 1048576) (hs3 : new.length ≤ 1048576) (ha1 : -9223372036854775808 ≤ at_) (ha2 : at_ ≤ 9223372036854775807) (hk1 : 1 ≤ kind) (hk2 : kind ≤ 4) (hn : nmOk name = false) :
    Calls Try.prog 37 #[.agg #[v], .agg #[.int .i64 kind, .string ⟨name.toArray⟩, .string ⟨new.toArray⟩, .int .i64 at_, vb]] w (RDone w (fls es) ⟨kind, name, new, at_, bytes⟩) := by
  obtain ⟨A0, c0, rfl, q1, q2, -, -⟩ := hvb.open_
  replace q2 : c0 ≤ 9223372036854775807 := by simpa [maxLen] using q2
  obtain ⟨A, c, rfl, l1, l2⟩ := fs_form h
  have HK := Lib.hid hk
  have hlen := ok_len hk
  have hcost := ok_cost hk
  rw [fls_len] at hlen
  obtain ⟨W, hW⟩ : ∃ W, ((w.alloc (.cells #[.slice A es.length c] 24)).alloc (.cells #[.int .i64 kind, .string ⟨name.toArray⟩, .string ⟨new.toArray⟩, .int .i64 at_, .slice A0 bytes.length c0] 37)).alloc (.cells #[.slice none 0 0] 24) = W := ⟨_, rfl⟩
  have hB0 : Below w.heap.size w W := by rw [← hW]; exact below_al (below_al (below_al (Below.refl _ _) _) _) _
  have hx0 : W.heap[w.heap.size]? = some (.cells #[.slice A es.length c] 24 (0, 0)) := by rw [← hW]; exact heap_bl (below_al (below_al (Below.refl _ _) _) _) (heap_alloc_new _ _)
  have hx1 : W.heap[w.heap.size + 1]? = some (.cells #[.int .i64 kind, .string ⟨name.toArray⟩, .string ⟨new.toArray⟩, .int .i64 at_, .slice A0 bytes.length c0] 37 (0, 0)) := by
    rw [← hW]; have := heap_bl (below_al (Below.refl _ _) (.cells #[.slice none 0 0] 24)) (heap_alloc_new (w.alloc (.cells #[.slice A es.length c] 24)) (.cells #[.int .i64 kind, .string ⟨name.toArray⟩, .string ⟨new.toArray⟩, .int .i64 at_, .slice A0 bytes.length c0] 37)); simpa [World.size_alloc] using this
  have hx2 : W.heap[w.heap.size + 1 + 1]? = some (.cells #[.slice none 0 0] 24 (0, 0)) := by
    rw [← hW]; have := heap_alloc_new ((w.alloc (.cells #[.slice A es.length c] 24)).alloc (.cells #[.int .i64 kind, .string ⟨name.toArray⟩, .string ⟨new.toArray⟩, .int .i64 at_, .slice A0 bytes.length c0] 37)) (.cells #[.slice none 0 0] 24); simpa [World.size_alloc] using this
  have hszW : W.heap.size = w.heap.size + 1 + 1 + 1 := by rw [← hW]; simp only [World.size_alloc]
  have HSW := Lib.hid (h.below hB0)
  have HVW := Lib.hid (hvb.below hB0)
  have HX0 := Lib.hid hx0
  have HX1 := Lib.hid hx1
  have HX2 := Lib.hid hx2
  have HB0 := Lib.hid hB0
  have b0 := cell_of hx0 0
  have y0 := cell_of hx1 0
  have y1 := cell_of hx1 1
  have y2 := cell_of hx1 2
  have y3 := cell_of hx1 3
  have y4 := cell_of hx1 4
  have r0 := cell_of hx2 0
  have r1 := frozen_of hx2 0
  have d0 := set_one hx2 (.slice A es.length c)
  simp at b0 y0 y1 y2 y3 y4 r0
  clear h hk hvb hB0 hx0 hx1 hx2
  have HD := Lib.hid (show doF (fls es) ⟨kind, name, new, at_, bytes⟩ = (2, fls es) by unfold doF; rw [if_pos]; unfold opBad; simp [hn])
  have HN := Lib.hid (rname_any name W (by omega))
  rw [hn] at HN
  go_enter Try.func37, Try.ntmps37
  go_wp2_with fail
  refine (HN.out).mono ?_
  rintro e w' ⟨rfl, rfl⟩
  try rw [hW]
  clear hW
  go_wp2
  exact bodyPost_ret (v := .tuple #[.agg #[.slice A es.length c], .int .i64 2]) (by simp [results, Try.results37, go_sem, d0]) rfl ⟨_, es, by rw [HD.out], (fun h0 => by rw [HD.out] at h0; cases h0), (fs_set HSW.out HX2.out _).imp_all, below_sc (HB0.out) (by simp; omega) _⟩

set_option maxRecDepth 100000 in
set_option maxHeartbeats 8000000 in
theorem rdo_bad4 (kind : Int) (name new : List UInt8) (at_ : Int) (bytes : List UInt8) (vb v : Value) (es : List FE) (w : World) (F F2 : Nat → Prop) (h : Fs w F v es) (hk : okFs (fls es) = true) (hvb : Bs w F2 vb bytes)
    (hs1 : bytes.length ≤ 1048576) (hs2 : name.length ≤ 1048576) (hs3 : new.length ≤ 1048576) (ha1 : -9223372036854775808 ≤ at_) (ha2 : at_ ≤ 9223372036854775807) (hk1 : kind = 3) (hn : nmOk name = true) (hn2 : nmOk new = false) :
    Calls Try.prog 37 #[.agg #[v], .agg #[.int .i64 kind, .string ⟨name.toArray⟩, .string ⟨new.toArray⟩, .int .i64 at_, vb]] w (RDone w (fls es) ⟨kind, name, new, at_, bytes⟩) := by
  obtain ⟨A0, c0, rfl, q1, q2, -, -⟩ := hvb.open_
  replace q2 : c0 ≤ 9223372036854775807 := by simpa [maxLen] using q2
  obtain ⟨A, c, rfl, l1, l2⟩ := fs_form h
  have HK := Lib.hid hk
  have hlen := ok_len hk
  have hcost := ok_cost hk
  rw [fls_len] at hlen
  obtain ⟨W, hW⟩ : ∃ W, ((w.alloc (.cells #[.slice A es.length c] 24)).alloc (.cells #[.int .i64 kind, .string ⟨name.toArray⟩, .string ⟨new.toArray⟩, .int .i64 at_, .slice A0 bytes.length c0] 37)).alloc (.cells #[.slice none 0 0] 24) = W := ⟨_, rfl⟩
  have hB0 : Below w.heap.size w W := by rw [← hW]; exact below_al (below_al (below_al (Below.refl _ _) _) _) _
  have hx0 : W.heap[w.heap.size]? = some (.cells #[.slice A es.length c] 24 (0, 0)) := by rw [← hW]; exact heap_bl (below_al (below_al (Below.refl _ _) _) _) (heap_alloc_new _ _)
  have hx1 : W.heap[w.heap.size + 1]? = some (.cells #[.int .i64 kind, .string ⟨name.toArray⟩, .string ⟨new.toArray⟩, .int .i64 at_, .slice A0 bytes.length c0] 37 (0, 0)) := by
    rw [← hW]; have := heap_bl (below_al (Below.refl _ _) (.cells #[.slice none 0 0] 24)) (heap_alloc_new (w.alloc (.cells #[.slice A es.length c] 24)) (.cells #[.int .i64 kind, .string ⟨name.toArray⟩, .string ⟨new.toArray⟩, .int .i64 at_, .slice A0 bytes.length c0] 37)); simpa [World.size_alloc] using this
  have hx2 : W.heap[w.heap.size + 1 + 1]? = some (.cells #[.slice none 0 0] 24 (0, 0)) := by
    rw [← hW]; have := heap_alloc_new ((w.alloc (.cells #[.slice A es.length c] 24)).alloc (.cells #[.int .i64 kind, .string ⟨name.toArray⟩, .string ⟨new.toArray⟩, .int .i64 at_, .slice A0 bytes.length c0] 37)) (.cells #[.slice none 0 0] 24); simpa [World.size_alloc] using this
  have hszW : W.heap.size = w.heap.size + 1 + 1 + 1 := by rw [← hW]; simp only [World.size_alloc]
  have HSW := Lib.hid (h.below hB0)
  have HVW := Lib.hid (hvb.below hB0)
  have HX0 := Lib.hid hx0
  have HX1 := Lib.hid hx1
  have HX2 := Lib.hid hx2
  have HB0 := Lib.hid hB0
  have b0 := cell_of hx0 0
  have y0 := cell_of hx1 0
  have y1 := cell_of hx1 1
  have y2 := cell_of hx1 2
  have y3 := cell_of hx1 3
  have y4 := cell_of hx1 4
  have r0 := cell_of hx2 0
  have r1 := frozen_of hx2 0
  have d0 := set_one hx2 (.slice A es.length c)
  simp at b0 y0 y1 y2 y3 y4 r0
  clear h hk hvb hB0 hx0 hx1 hx2
  have HD := Lib.hid (show doF (fls es) ⟨kind, name, new, at_, bytes⟩ = (2, fls es) by unfold doF; rw [if_pos]; unfold opBad; simp [hn, hn2, hk1])
  subst hk1
  have HN := Lib.hid (rname_any name W (by omega))
  rw [hn] at HN
  have HN2 := Lib.hid (rname_any new W (by omega))
  rw [hn2] at HN2
  go_enter Try.func37, Try.ntmps37
  go_wp2_with fail
  refine (HN.out).mono ?_
  rintro e w' ⟨rfl, rfl⟩
  go_wp2_with fail
  refine (HN2.out).mono ?_
  rintro e w' ⟨rfl, rfl⟩
  try rw [hW]
  clear hW
  go_wp2
  exact bodyPost_ret (v := .tuple #[.agg #[.slice A es.length c], .int .i64 2]) (by simp [results, Try.results37, go_sem, d0]) rfl ⟨_, es, by rw [HD.out], (fun h0 => by rw [HD.out] at h0; cases h0), (fs_set HSW.out HX2.out _).imp_all, below_sc (HB0.out) (by simp; omega) _⟩

set_option maxRecDepth 100000 in
set_option maxHeartbeats 8000000 in
theorem rdo_none2 (name new : List UInt8) (at_ : Int) (bytes : List UInt8) (vb v : Value) (es : List FE) (w : World) (F F2 : Nat → Prop) (h : Fs w F v es) (hk : okFs (fls es) = true) (hvb : Bs w F2 vb bytes)
    (hs1 : bytes.length ≤ 1048576) (hs2 : name.length ≤ 1048576) (hs3 : new.length ≤ 1048576) (ha1 : -9223372036854775808 ≤ at_) (ha2 : at_ ≤ 9223372036854775807) (hn : nmOk name = true) (ht : there (fls es) name = false) :
    Calls Try.prog 37 #[.agg #[v], .agg #[.int .i64 2, .string ⟨name.toArray⟩, .string ⟨new.toArray⟩, .int .i64 at_, vb]] w (RDone w (fls es) ⟨2, name, new, at_, bytes⟩) := by
  obtain ⟨A0, c0, rfl, q1, q2, -, -⟩ := hvb.open_
  replace q2 : c0 ≤ 9223372036854775807 := by simpa [maxLen] using q2
  obtain ⟨A, c, rfl, l1, l2⟩ := fs_form h
  have HK := Lib.hid hk
  have hlen := ok_len hk
  have hcost := ok_cost hk
  rw [fls_len] at hlen
  obtain ⟨W, hW⟩ : ∃ W, ((w.alloc (.cells #[.slice A es.length c] 24)).alloc (.cells #[.int .i64 2, .string ⟨name.toArray⟩, .string ⟨new.toArray⟩, .int .i64 at_, .slice A0 bytes.length c0] 37)).alloc (.cells #[.slice none 0 0] 24) = W := ⟨_, rfl⟩
  have hB0 : Below w.heap.size w W := by rw [← hW]; exact below_al (below_al (below_al (Below.refl _ _) _) _) _
  have hx0 : W.heap[w.heap.size]? = some (.cells #[.slice A es.length c] 24 (0, 0)) := by rw [← hW]; exact heap_bl (below_al (below_al (Below.refl _ _) _) _) (heap_alloc_new _ _)
  have hx1 : W.heap[w.heap.size + 1]? = some (.cells #[.int .i64 2, .string ⟨name.toArray⟩, .string ⟨new.toArray⟩, .int .i64 at_, .slice A0 bytes.length c0] 37 (0, 0)) := by
    rw [← hW]; have := heap_bl (below_al (Below.refl _ _) (.cells #[.slice none 0 0] 24)) (heap_alloc_new (w.alloc (.cells #[.slice A es.length c] 24)) (.cells #[.int .i64 2, .string ⟨name.toArray⟩, .string ⟨new.toArray⟩, .int .i64 at_, .slice A0 bytes.length c0] 37)); simpa [World.size_alloc] using this
  have hx2 : W.heap[w.heap.size + 1 + 1]? = some (.cells #[.slice none 0 0] 24 (0, 0)) := by
    rw [← hW]; have := heap_alloc_new ((w.alloc (.cells #[.slice A es.length c] 24)).alloc (.cells #[.int .i64 2, .string ⟨name.toArray⟩, .string ⟨new.toArray⟩, .int .i64 at_, .slice A0 bytes.length c0] 37)) (.cells #[.slice none 0 0] 24); simpa [World.size_alloc] using this
  have hszW : W.heap.size = w.heap.size + 1 + 1 + 1 := by rw [← hW]; simp only [World.size_alloc]
  have HSW := Lib.hid (h.below hB0)
  have HVW := Lib.hid (hvb.below hB0)
  have HX0 := Lib.hid hx0
  have HX1 := Lib.hid hx1
  have HX2 := Lib.hid hx2
  have HB0 := Lib.hid hB0
  have b0 := cell_of hx0 0
  have y0 := cell_of hx1 0
  have y1 := cell_of hx1 1
  have y2 := cell_of hx1 2
  have y3 := cell_of hx1 3
  have y4 := cell_of hx1 4
  have r0 := cell_of hx2 0
  have r1 := frozen_of hx2 0
  have d0 := set_one hx2 (.slice A es.length c)
  simp at b0 y0 y1 y2 y3 y4 r0
  clear h hk hvb hB0 hx0 hx1 hx2
  have HD := Lib.hid (show doF (fls es) ⟨2, name, new, at_, bytes⟩ = (4, fls es) by unfold doF; rw [if_neg (by simp [opBad, hn]), if_pos ⟨by simp, ht⟩])
  have HN := Lib.hid (rname_any name W (by omega))
  rw [hn] at HN
  have HPL := Lib.hid (rplace_any name (.slice A es.length c) es W _ HSW.out)
  rw [ht] at HPL
  obtain ⟨p, hp⟩ : ∃ p, place (fls es) name = p := ⟨_, rfl⟩
  rw [hp] at HPL
  clear hp
  go_enter Try.func37, Try.ntmps37
  go_wp2_with fail
  refine (HN.out).mono ?_
  rintro e w' ⟨rfl, rfl⟩
  try rw [hW]
  clear hW
  go_wp2_with fail
  refine (HPL.out).mono ?_
  rintro e wq ⟨rfl, hbq⟩
  have HSq := Lib.hid (HSW.out.below hbq)
  have HVq := Lib.hid (HVW.out.below hbq)
  have HBq := Lib.hid (below_tr HB0.out hbq)
  have hszq := hbq.size
  have hxq0 := heap_bl hbq HX0.out
  have hxq1 := heap_bl hbq HX1.out
  have hxq2 := heap_bl hbq HX2.out
  have HXq0 := Lib.hid hxq0
  have HXq1 := Lib.hid hxq1
  have HXq2 := Lib.hid hxq2
  have p0 := cell_of hxq0 0
  have p1 := cell_of hxq1 0
  simp at p0 p1
  clear b0 y0 y1 y2 y3 y4 r0 r1 d0 hbq
  have b0 := cell_of hxq0 0
  have y0 := cell_of hxq1 0
  have y1 := cell_of hxq1 1
  have y2 := cell_of hxq1 2
  have y3 := cell_of hxq1 3
  have y4 := cell_of hxq1 4
  have r0 := cell_of hxq2 0
  have r1 := frozen_of hxq2 0
  have d0 := set_one hxq2 (.slice A es.length c)
  simp at b0 y0 y1 y2 y3 y4 r0
  clear hxq0 hxq1 hxq2
  go_wp2
  exact bodyPost_ret (v := .tuple #[.agg #[.slice A es.length c], .int .i64 4]) (by simp [results, Try.results37, go_sem, d0]) rfl ⟨_, es, by rw [HD.out], (fun h0 => by rw [HD.out] at h0; cases h0), (fs_set HSq.out HXq2.out _).imp_all, below_sc (HBq.out) (by simp; omega) _⟩

set_option maxRecDepth 100000 in
set_option maxHeartbeats 8000000 in
theorem rdo_none3 (name new : List UInt8) (at_ : Int) (bytes : List UInt8) (vb v : Value) (es : List FE) (w : World) (F F2 : Nat → Prop) (h : Fs w F v es) (hk : okFs (fls es) = true) (hvb : Bs w F2 vb bytes)
    (hs1 : bytes.length ≤ 1048576) (hs2 : name.length ≤ 1048576) (hs3 : new.length ≤ 1048576) (ha1 : -9223372036854775808 ≤ at_) (ha2 : at_ ≤ 9223372036854775807) (hn : nmOk name = true) (hn2 : nmOk new = true) (ht : there (fls es) name = false) :
    Calls Try.prog 37 #[.agg #[v], .agg #[.int .i64 3, .string ⟨name.toArray⟩, .string ⟨new.toArray⟩, .int .i64 at_, vb]] w (RDone w (fls es) ⟨3, name, new, at_, bytes⟩) := by
  obtain ⟨A0, c0, rfl, q1, q2, -, -⟩ := hvb.open_
  replace q2 : c0 ≤ 9223372036854775807 := by simpa [maxLen] using q2
  obtain ⟨A, c, rfl, l1, l2⟩ := fs_form h
  have HK := Lib.hid hk
  have hlen := ok_len hk
  have hcost := ok_cost hk
  rw [fls_len] at hlen
  obtain ⟨W, hW⟩ : ∃ W, ((w.alloc (.cells #[.slice A es.length c] 24)).alloc (.cells #[.int .i64 3, .string ⟨name.toArray⟩, .string ⟨new.toArray⟩, .int .i64 at_, .slice A0 bytes.length c0] 37)).alloc (.cells #[.slice none 0 0] 24) = W := ⟨_, rfl⟩
  have hB0 : Below w.heap.size w W := by rw [← hW]; exact below_al (below_al (below_al (Below.refl _ _) _) _) _
  have hx0 : W.heap[w.heap.size]? = some (.cells #[.slice A es.length c] 24 (0, 0)) := by rw [← hW]; exact heap_bl (below_al (below_al (Below.refl _ _) _) _) (heap_alloc_new _ _)
  have hx1 : W.heap[w.heap.size + 1]? = some (.cells #[.int .i64 3, .string ⟨name.toArray⟩, .string ⟨new.toArray⟩, .int .i64 at_, .slice A0 bytes.length c0] 37 (0, 0)) := by
    rw [← hW]; have := heap_bl (below_al (Below.refl _ _) (.cells #[.slice none 0 0] 24)) (heap_alloc_new (w.alloc (.cells #[.slice A es.length c] 24)) (.cells #[.int .i64 3, .string ⟨name.toArray⟩, .string ⟨new.toArray⟩, .int .i64 at_, .slice A0 bytes.length c0] 37)); simpa [World.size_alloc] using this
  have hx2 : W.heap[w.heap.size + 1 + 1]? = some (.cells #[.slice none 0 0] 24 (0, 0)) := by
    rw [← hW]; have := heap_alloc_new ((w.alloc (.cells #[.slice A es.length c] 24)).alloc (.cells #[.int .i64 3, .string ⟨name.toArray⟩, .string ⟨new.toArray⟩, .int .i64 at_, .slice A0 bytes.length c0] 37)) (.cells #[.slice none 0 0] 24); simpa [World.size_alloc] using this
  have hszW : W.heap.size = w.heap.size + 1 + 1 + 1 := by rw [← hW]; simp only [World.size_alloc]
  have HSW := Lib.hid (h.below hB0)
  have HVW := Lib.hid (hvb.below hB0)
  have HX0 := Lib.hid hx0
  have HX1 := Lib.hid hx1
  have HX2 := Lib.hid hx2
  have HB0 := Lib.hid hB0
  have b0 := cell_of hx0 0
  have y0 := cell_of hx1 0
  have y1 := cell_of hx1 1
  have y2 := cell_of hx1 2
  have y3 := cell_of hx1 3
  have y4 := cell_of hx1 4
  have r0 := cell_of hx2 0
  have r1 := frozen_of hx2 0
  have d0 := set_one hx2 (.slice A es.length c)
  simp at b0 y0 y1 y2 y3 y4 r0
  clear h hk hvb hB0 hx0 hx1 hx2
  have HD := Lib.hid (show doF (fls es) ⟨3, name, new, at_, bytes⟩ = (4, fls es) by unfold doF; rw [if_neg (by simp [opBad, hn, hn2]), if_pos ⟨by simp, ht⟩])
  have HN := Lib.hid (rname_any name W (by omega))
  rw [hn] at HN
  have HN2 := Lib.hid (rname_any new W (by omega))
  rw [hn2] at HN2
  have HPL := Lib.hid (rplace_any name (.slice A es.length c) es W _ HSW.out)
  rw [ht] at HPL
  obtain ⟨p, hp⟩ : ∃ p, place (fls es) name = p := ⟨_, rfl⟩
  rw [hp] at HPL
  clear hp
  go_enter Try.func37, Try.ntmps37
  go_wp2_with fail
  refine (HN.out).mono ?_
  rintro e w' ⟨rfl, rfl⟩
  go_wp2_with fail
  refine (HN2.out).mono ?_
  rintro e w' ⟨rfl, rfl⟩
  try rw [hW]
  clear hW
  go_wp2_with fail
  refine (HPL.out).mono ?_
  rintro e wq ⟨rfl, hbq⟩
  have HSq := Lib.hid (HSW.out.below hbq)
  have HVq := Lib.hid (HVW.out.below hbq)
  have HBq := Lib.hid (below_tr HB0.out hbq)
  have hszq := hbq.size
  have hxq0 := heap_bl hbq HX0.out
  have hxq1 := heap_bl hbq HX1.out
  have hxq2 := heap_bl hbq HX2.out
  have HXq0 := Lib.hid hxq0
  have HXq1 := Lib.hid hxq1
  have HXq2 := Lib.hid hxq2
  have p0 := cell_of hxq0 0
  have p1 := cell_of hxq1 0
  simp at p0 p1
  clear b0 y0 y1 y2 y3 y4 r0 r1 d0 hbq
  have b0 := cell_of hxq0 0
  have y0 := cell_of hxq1 0
  have y1 := cell_of hxq1 1
  have y2 := cell_of hxq1 2
  have y3 := cell_of hxq1 3
  have y4 := cell_of hxq1 4
  have r0 := cell_of hxq2 0
  have r1 := frozen_of hxq2 0
  have d0 := set_one hxq2 (.slice A es.length c)
  simp at b0 y0 y1 y2 y3 y4 r0
  clear hxq0 hxq1 hxq2
  go_wp2
  exact bodyPost_ret (v := .tuple #[.agg #[.slice A es.length c], .int .i64 4]) (by simp [results, Try.results37, go_sem, d0]) rfl ⟨_, es, by rw [HD.out], (fun h0 => by rw [HD.out] at h0; cases h0), (fs_set HSq.out HXq2.out _).imp_all, below_sc (HBq.out) (by simp; omega) _⟩

set_option maxRecDepth 100000 in
set_option maxHeartbeats 8000000 in
theorem rdo_none4 (name new : List UInt8) (at_ : Int) (bytes : List UInt8) (vb v : Value) (es : List FE) (w : World) (F F2 : Nat → Prop) (h : Fs w F v es) (hk : okFs (fls es) = true) (hvb : Bs w F2 vb bytes)
    (hs1 : bytes.length ≤ 1048576) (hs2 : name.length ≤ 1048576) (hs3 : new.length ≤ 1048576) (ha1 : -9223372036854775808 ≤ at_) (ha2 : at_ ≤ 9223372036854775807) (hn : nmOk name = true) (ht : there (fls es) name = false) :
    Calls Try.prog 37 #[.agg #[v], .agg #[.int .i64 4, .string ⟨name.toArray⟩, .string ⟨new.toArray⟩, .int .i64 at_, vb]] w (RDone w (fls es) ⟨4, name, new, at_, bytes⟩) := by
  obtain ⟨A0, c0, rfl, q1, q2, -, -⟩ := hvb.open_
  replace q2 : c0 ≤ 9223372036854775807 := by simpa [maxLen] using q2
  obtain ⟨A, c, rfl, l1, l2⟩ := fs_form h
  have HK := Lib.hid hk
  have hlen := ok_len hk
  have hcost := ok_cost hk
  rw [fls_len] at hlen
  obtain ⟨W, hW⟩ : ∃ W, ((w.alloc (.cells #[.slice A es.length c] 24)).alloc (.cells #[.int .i64 4, .string ⟨name.toArray⟩, .string ⟨new.toArray⟩, .int .i64 at_, .slice A0 bytes.length c0] 37)).alloc (.cells #[.slice none 0 0] 24) = W := ⟨_, rfl⟩
  have hB0 : Below w.heap.size w W := by rw [← hW]; exact below_al (below_al (below_al (Below.refl _ _) _) _) _
  have hx0 : W.heap[w.heap.size]? = some (.cells #[.slice A es.length c] 24 (0, 0)) := by rw [← hW]; exact heap_bl (below_al (below_al (Below.refl _ _) _) _) (heap_alloc_new _ _)
  have hx1 : W.heap[w.heap.size + 1]? = some (.cells #[.int .i64 4, .string ⟨name.toArray⟩, .string ⟨new.toArray⟩, .int .i64 at_, .slice A0 bytes.length c0] 37 (0, 0)) := by
    rw [← hW]; have := heap_bl (below_al (Below.refl _ _) (.cells #[.slice none 0 0] 24)) (heap_alloc_new (w.alloc (.cells #[.slice A es.length c] 24)) (.cells #[.int .i64 4, .string ⟨name.toArray⟩, .string ⟨new.toArray⟩, .int .i64 at_, .slice A0 bytes.length c0] 37)); simpa [World.size_alloc] using this
  have hx2 : W.heap[w.heap.size + 1 + 1]? = some (.cells #[.slice none 0 0] 24 (0, 0)) := by
    rw [← hW]; have := heap_alloc_new ((w.alloc (.cells #[.slice A es.length c] 24)).alloc (.cells #[.int .i64 4, .string ⟨name.toArray⟩, .string ⟨new.toArray⟩, .int .i64 at_, .slice A0 bytes.length c0] 37)) (.cells #[.slice none 0 0] 24); simpa [World.size_alloc] using this
  have hszW : W.heap.size = w.heap.size + 1 + 1 + 1 := by rw [← hW]; simp only [World.size_alloc]
  have HSW := Lib.hid (h.below hB0)
  have HVW := Lib.hid (hvb.below hB0)
  have HX0 := Lib.hid hx0
  have HX1 := Lib.hid hx1
  have HX2 := Lib.hid hx2
  have HB0 := Lib.hid hB0
  have b0 := cell_of hx0 0
  have y0 := cell_of hx1 0
  have y1 := cell_of hx1 1
  have y2 := cell_of hx1 2
  have y3 := cell_of hx1 3
  have y4 := cell_of hx1 4
  have r0 := cell_of hx2 0
  have r1 := frozen_of hx2 0
  have d0 := set_one hx2 (.slice A es.length c)
  simp at b0 y0 y1 y2 y3 y4 r0
  clear h hk hvb hB0 hx0 hx1 hx2
  have HD := Lib.hid (show doF (fls es) ⟨4, name, new, at_, bytes⟩ = (4, fls es) by unfold doF; rw [if_neg (by simp [opBad, hn]), if_pos ⟨by simp, ht⟩])
  have HN := Lib.hid (rname_any name W (by omega))
  rw [hn] at HN
  have HPL := Lib.hid (rplace_any name (.slice A es.length c) es W _ HSW.out)
  rw [ht] at HPL
  obtain ⟨p, hp⟩ : ∃ p, place (fls es) name = p := ⟨_, rfl⟩
  rw [hp] at HPL
  clear hp
  go_enter Try.func37, Try.ntmps37
  go_wp2_with fail
  refine (HN.out).mono ?_
  rintro e w' ⟨rfl, rfl⟩
  try rw [hW]
  clear hW
  go_wp2_with fail
  refine (HPL.out).mono ?_
  rintro e wq ⟨rfl, hbq⟩
  have HSq := Lib.hid (HSW.out.below hbq)
  have HVq := Lib.hid (HVW.out.below hbq)
  have HBq := Lib.hid (below_tr HB0.out hbq)
  have hszq := hbq.size
  have hxq0 := heap_bl hbq HX0.out
  have hxq1 := heap_bl hbq HX1.out
  have hxq2 := heap_bl hbq HX2.out
  have HXq0 := Lib.hid hxq0
  have HXq1 := Lib.hid hxq1
  have HXq2 := Lib.hid hxq2
  have p0 := cell_of hxq0 0
  have p1 := cell_of hxq1 0
  simp at p0 p1
  clear b0 y0 y1 y2 y3 y4 r0 r1 d0 hbq
  have b0 := cell_of hxq0 0
  have y0 := cell_of hxq1 0
  have y1 := cell_of hxq1 1
  have y2 := cell_of hxq1 2
  have y3 := cell_of hxq1 3
  have y4 := cell_of hxq1 4
  have r0 := cell_of hxq2 0
  have r1 := frozen_of hxq2 0
  have d0 := set_one hxq2 (.slice A es.length c)
  simp at b0 y0 y1 y2 y3 y4 r0
  clear hxq0 hxq1 hxq2
  go_wp2
  exact bodyPost_ret (v := .tuple #[.agg #[.slice A es.length c], .int .i64 4]) (by simp [results, Try.results37, go_sem, d0]) rfl ⟨_, es, by rw [HD.out], (fun h0 => by rw [HD.out] at h0; cases h0), (fs_set HSq.out HXq2.out _).imp_all, below_sc (HBq.out) (by simp; omega) _⟩

set_option maxRecDepth 100000 in
set_option maxHeartbeats 8000000 in
theorem rdo_1 (name new : List UInt8) (at_ : Int) (bytes : List UInt8) (vb v : Value) (es : List FE) (w : World) (F F2 : Nat → Prop) (h : Fs w F v es) (hk : okFs (fls es) = true) (hvb : Bs w F2 vb bytes)
    (hs1 : bytes.length ≤ 1048576) (hs2 : name.length ≤ 1048576) (hs3 : new.length ≤ 1048576) (ha1 : -9223372036854775808 ≤ at_) (ha2 : at_ ≤ 9223372036854775807) (hn : nmOk name = true) (th : Bool) (ht : there (fls es) name = th) :
    Calls Try.prog 37 #[.agg #[v], .agg #[.int .i64 1, .string ⟨name.toArray⟩, .string ⟨new.toArray⟩, .int .i64 at_, vb]] w (RDone w (fls es) ⟨1, name, new, at_, bytes⟩) := by
  obtain ⟨A0, c0, rfl, q1, q2, -, -⟩ := hvb.open_
  replace q2 : c0 ≤ 9223372036854775807 := by simpa [maxLen] using q2
  obtain ⟨A, c, rfl, l1, l2⟩ := fs_form h
  have HK := Lib.hid hk
  have hlen := ok_len hk
  have hcost := ok_cost hk
  rw [fls_len] at hlen
  obtain ⟨W, hW⟩ : ∃ W, ((w.alloc (.cells #[.slice A es.length c] 24)).alloc (.cells #[.int .i64 1, .string ⟨name.toArray⟩, .string ⟨new.toArray⟩, .int .i64 at_, .slice A0 bytes.length c0] 37)).alloc (.cells #[.slice none 0 0] 24) = W := ⟨_, rfl⟩
  have hB0 : Below w.heap.size w W := by rw [← hW]; exact below_al (below_al (below_al (Below.refl _ _) _) _) _
  have hx0 : W.heap[w.heap.size]? = some (.cells #[.slice A es.length c] 24 (0, 0)) := by rw [← hW]; exact heap_bl (below_al (below_al (Below.refl _ _) _) _) (heap_alloc_new _ _)
  have hx1 : W.heap[w.heap.size + 1]? = some (.cells #[.int .i64 1, .string ⟨name.toArray⟩, .string ⟨new.toArray⟩, .int .i64 at_, .slice A0 bytes.length c0] 37 (0, 0)) := by
    rw [← hW]; have := heap_bl (below_al (Below.refl _ _) (.cells #[.slice none 0 0] 24)) (heap_alloc_new (w.alloc (.cells #[.slice A es.length c] 24)) (.cells #[.int .i64 1, .string ⟨name.toArray⟩, .string ⟨new.toArray⟩, .int .i64 at_, .slice A0 bytes.length c0] 37)); simpa [World.size_alloc] using this
  have hx2 : W.heap[w.heap.size + 1 + 1]? = some (.cells #[.slice none 0 0] 24 (0, 0)) := by
    rw [← hW]; have := heap_alloc_new ((w.alloc (.cells #[.slice A es.length c] 24)).alloc (.cells #[.int .i64 1, .string ⟨name.toArray⟩, .string ⟨new.toArray⟩, .int .i64 at_, .slice A0 bytes.length c0] 37)) (.cells #[.slice none 0 0] 24); simpa [World.size_alloc] using this
  have hszW : W.heap.size = w.heap.size + 1 + 1 + 1 := by rw [← hW]; simp only [World.size_alloc]
  have HSW := Lib.hid (h.below hB0)
  have HVW := Lib.hid (hvb.below hB0)
  have HX0 := Lib.hid hx0
  have HX1 := Lib.hid hx1
  have HX2 := Lib.hid hx2
  have HB0 := Lib.hid hB0
  have b0 := cell_of hx0 0
  have y0 := cell_of hx1 0
  have y1 := cell_of hx1 1
  have y2 := cell_of hx1 2
  have y3 := cell_of hx1 3
  have y4 := cell_of hx1 4
  have r0 := cell_of hx2 0
  have r1 := frozen_of hx2 0
  have d0 := set_one hx2 (.slice A es.length c)
  simp at b0 y0 y1 y2 y3 y4 r0
  clear h hk hvb hB0 hx0 hx1 hx2
  have HN := Lib.hid (rname_any name W (by omega))
  rw [hn] at HN
  have HPL := Lib.hid (rplace_any name (.slice A es.length c) es W _ HSW.out)
  rw [ht] at HPL
  obtain ⟨p, hp⟩ : ∃ p, place (fls es) name = p := ⟨_, rfl⟩
  rw [hp] at HPL
  clear hp
  by_cases hbig : 4096 < bytes.length
  · have HD := Lib.hid (show doF (fls es) ⟨1, name, new, at_, bytes⟩ = (3, fls es) by unfold doF; rw [if_neg (by simp [opBad, hn]), if_neg (by simp), if_pos rfl, if_pos hbig])
    go_enter Try.func37, Try.ntmps37
    go_wp2_with fail
    refine (HN.out).mono ?_
    rintro e w' ⟨rfl, rfl⟩
    try rw [hW]
    clear hW
    go_wp2_with fail
    refine (HPL.out).mono ?_
    rintro e wq ⟨rfl, hbq⟩
    have HSq := Lib.hid (HSW.out.below hbq)
    have HVq := Lib.hid (HVW.out.below hbq)
    have HBq := Lib.hid (below_tr HB0.out hbq)
    have hszq := hbq.size
    have hxq0 := heap_bl hbq HX0.out
    have hxq1 := heap_bl hbq HX1.out
    have hxq2 := heap_bl hbq HX2.out
    have HXq0 := Lib.hid hxq0
    have HXq1 := Lib.hid hxq1
    have HXq2 := Lib.hid hxq2
    have p0 := cell_of hxq0 0
    have p1 := cell_of hxq1 0
    simp at p0 p1
    clear b0 y0 y1 y2 y3 y4 r0 r1 d0 hbq
    obtain ⟨W8, hW8⟩ : ∃ W8, wq.alloc (.cells #[.slice A es.length c] 24) = W8 := ⟨_, rfl⟩
    have hB8 : Below wq.heap.size wq W8 := by rw [← hW8]; exact below_al (Below.refl _ _) _
    have hsz8 : W8.heap.size = wq.heap.size + 1 := by rw [← hW8]; exact World.size_alloc _ _
    have hx8 : W8.heap[wq.heap.size]? = some (.cells #[.slice A es.length c] 24 (0, 0)) := by rw [← hW8]; exact heap_alloc_new _ _
    have HS8 := Lib.hid (HSq.out.below hB8)
    have HV8 := Lib.hid (HVq.out.below hB8)
    have HB8 := Lib.hid (below_tr HBq.out hB8)
    have h80 := heap_bl hB8 hxq0
    have h81 := heap_bl hB8 hxq1
    have h82 := heap_bl hB8 hxq2
    have HX8 := Lib.hid hx8
    have HX80 := Lib.hid h80
    have HX81 := Lib.hid h81
    have HX82 := Lib.hid h82
    have x8 := cell_of hx8 0
    have f8 := frozen_of hx8 0
    simp at x8
    have b0 := cell_of h80 0
    have y0 := cell_of h81 0
    have y1 := cell_of h81 1
    have y2 := cell_of h81 2
    have y3 := cell_of h81 3
    have y4 := cell_of h81 4
    have r0 := cell_of h82 0
    have r1 := frozen_of h82 0
    have d0 := set_one h82 (.slice A es.length c)
    simp at b0 y0 y1 y2 y3 y4 r0
    clear hB8 hx8 hxq0 hxq1 hxq2 h80 h81 h82
    go_wp2
    try rw [hW8]
    exact bodyPost_ret (v := .tuple #[.agg #[.slice A es.length c], .int .i64 3]) (by simp [results, Try.results37, go_sem, d0]) rfl ⟨_, es, by rw [HD.out], (fun h0 => by rw [HD.out] at h0; cases h0), (fs_set HS8.out HX82.out _).imp_all, below_sc (HB8.out) (by simp; omega) _⟩
  · obtain ⟨LZ, hLZ⟩ : ∃ l, putF (fls es) name bytes = l := ⟨_, rfl⟩
    have HD := Lib.hid (show doF (fls es) ⟨1, name, new, at_, bytes⟩ = fin LZ by unfold doF; rw [if_neg (by simp [opBad, hn]), if_neg (by simp), if_pos rfl, if_neg hbig, hLZ])
    have HCB := Lib.hid (show cost LZ ≤ 100000000 by rw [← hLZ]; have := cost_put (fls es) name bytes; omega)
    go_enter Try.func37, Try.ntmps37
    go_wp2_with fail
    refine (HN.out).mono ?_
    rintro e w' ⟨rfl, rfl⟩
    try rw [hW]
    clear hW
    go_wp2_with fail
    refine (HPL.out).mono ?_
    rintro e wq ⟨rfl, hbq⟩
    have HSq := Lib.hid (HSW.out.below hbq)
    have HVq := Lib.hid (HVW.out.below hbq)
    have HBq := Lib.hid (below_tr HB0.out hbq)
    have hszq := hbq.size
    have hxq0 := heap_bl hbq HX0.out
    have hxq1 := heap_bl hbq HX1.out
    have hxq2 := heap_bl hbq HX2.out
    have HXq0 := Lib.hid hxq0
    have HXq1 := Lib.hid hxq1
    have HXq2 := Lib.hid hxq2
    have p0 := cell_of hxq0 0
    have p1 := cell_of hxq1 0
    simp at p0 p1
    clear b0 y0 y1 y2 y3 y4 r0 r1 d0 hbq
    obtain ⟨W8, hW8⟩ : ∃ W8, wq.alloc (.cells #[.slice A es.length c] 24) = W8 := ⟨_, rfl⟩
    have hB8 : Below wq.heap.size wq W8 := by rw [← hW8]; exact below_al (Below.refl _ _) _
    have hsz8 : W8.heap.size = wq.heap.size + 1 := by rw [← hW8]; exact World.size_alloc _ _
    have hx8 : W8.heap[wq.heap.size]? = some (.cells #[.slice A es.length c] 24 (0, 0)) := by rw [← hW8]; exact heap_alloc_new _ _
    have HS8 := Lib.hid (HSq.out.below hB8)
    have HV8 := Lib.hid (HVq.out.below hB8)
    have HB8 := Lib.hid (below_tr HBq.out hB8)
    have h80 := heap_bl hB8 hxq0
    have h81 := heap_bl hB8 hxq1
    have h82 := heap_bl hB8 hxq2
    have HX8 := Lib.hid hx8
    have HX80 := Lib.hid h80
    have HX81 := Lib.hid h81
    have HX82 := Lib.hid h82
    have x8 := cell_of hx8 0
    have f8 := frozen_of hx8 0
    simp at x8
    have b0 := cell_of h80 0
    have y0 := cell_of h81 0
    have y1 := cell_of h81 1
    have y2 := cell_of h81 2
    have y3 := cell_of h81 3
    have y4 := cell_of h81 4
    have r0 := cell_of h82 0
    have r1 := frozen_of h82 0
    have d0 := set_one h82 (.slice A es.length c)
    simp at b0 y0 y1 y2 y3 y4 r0
    clear hB8 hx8 hxq0 hxq1 hxq2 h80 h81 h82
    have HT := Lib.hid (rwith_any name _ es _ bytes W8 _ _ HS8.out (by omega) HV8.out)
    rw [withF_eq (ok_rise HK.out), hLZ] at HT
    clear hLZ
    go_wp2_with fail
    refine HT.out.mono ?_
    rintro e w9 ⟨v9, e9, rfl, hf9, hr9, hb9⟩
    obtain ⟨Az, cz, rfl, n1, n2⟩ := fs_form hr9.fs
    have hw8 : W8.heap.size ≤ w9.heap.size := hb9.size
    have hz8 := heap_bl hb9 HX8.out
    have hz0 := heap_bl hb9 HX80.out
    have hz1 := heap_bl hb9 HX81.out
    have hz2 := heap_bl hb9 HX82.out
    have hzb := below_tr HB8.out hb9
    have hzs := HS8.out.below hb9
    obtain ⟨ez, hez⟩ : ∃ x, x = e9 := ⟨_, rfl⟩
    subst hez
    have z8 := cell_of hz8 0
    have zf := frozen_of hz8 0
    simp at z8
    obtain ⟨Z, hZ⟩ : ∃ Z, w9.setCell ⟨wq.heap.size, 0, none⟩ (.slice Az ez.length cz) = Z := ⟨_, rfl⟩
    have HFZ := Lib.hid hf9
    have HZ8 := Lib.hid (show Z.heap[wq.heap.size]? = some (.cells #[.slice Az ez.length cz] 24 (0, 0)) by rw [← hZ]; exact heap_setCell_same _ _ 0 _ _ _ hz8)
    have HZ0 := Lib.hid (show Z.heap[w.heap.size]? = some (.cells #[.slice A es.length c] 24 (0, 0)) by rw [← hZ]; exact (heap_setCell_other _ _ _ _ (by simp; omega)).trans hz0)
    have HZ1 := Lib.hid (show Z.heap[w.heap.size + 1]? = some (.cells #[.int .i64 1, .string ⟨name.toArray⟩, .string ⟨new.toArray⟩, .int .i64 at_, .slice A0 bytes.length c0] 37 (0, 0)) by rw [← hZ]; exact (heap_setCell_other _ _ _ _ (by simp; omega)).trans hz1)
    have HZ2 := Lib.hid (show Z.heap[w.heap.size + 1 + 1]? = some (.cells #[.slice none 0 0] 24 (0, 0)) by rw [← hZ]; exact (heap_setCell_other _ _ _ _ (by simp; omega)).trans hz2)
    have HZB := Lib.hid (show Below w.heap.size w Z by rw [← hZ]; exact below_sc hzb (by simp; omega) _)
    have HZS := Lib.hid (show Fs Z F (.slice A es.length c) es by rw [← hZ]; exact fs_set hzs hz8 _)
    have HZF := Lib.hid (show Fs Z _ (.slice Az ez.length cz) ez by rw [← hZ]; exact fs_set hr9.fs hz8 _)
    have HZY := Lib.hid hZ
    have hszZ : Z.heap.size = w9.heap.size := by rw [← hZ]; exact World.size_setCell _ _ _
    clear p0 p1 b0 y0 y1 y2 y3 y4 r0 r1 d0 x8 f8 hz8 hz0 hz1 hz2 hzb hzs hf9 hr9
    have hez : ez.length = LZ.length := by rw [← HFZ.out, fls_len]
    have z0 := cell_of HZ8.out 0
    have b0 := cell_of HZ0.out 0
    have y0 := cell_of HZ1.out 0
    simp at z0 b0 y0
    have r0 := cell_of HZ2.out 0
    have r1 := frozen_of HZ2.out 0
    simp at r0
    by_cases h64 : 64 < ez.length
    · have HE := Lib.hid (HD.out.trans (fin_no (.inl (by omega))))
      have d0 := set_one HZ2.out (.slice A es.length c)
      clear hez
      go_wp2
      exact bodyPost_ret (v := .tuple #[.agg #[.slice A es.length c], .int .i64 6]) (by simp [results, Try.results37, go_sem, d0]) rfl ⟨_, es, by rw [HE.out], (fun h0 => by rw [HE.out] at h0; cases h0), (fs_set HZS.out HZ2.out _).imp_all, below_sc HZB.out (by simp; omega) _⟩
    · have hle : LZ.length ≤ 64 := by omega
      have HLE := Lib.hid hle
      clear hez hle
      go_wp2_with fail
      refine (rcost_any _ ez _ _ HZF.out (by rw [HFZ.out]; have := HCB.out; omega)).mono ?_
      rintro e wf ⟨rfl, hbf⟩
      rw [HFZ.out]
      have HF8 := Lib.hid (heap_bl hbf HZ8.out)
      have HF0 := Lib.hid (heap_bl hbf HZ0.out)
      have HF2 := Lib.hid (heap_bl hbf HZ2.out)
      have HFB := Lib.hid (HZB.out.trans (hbf.mono (by omega)))
      have HFS := Lib.hid (HZS.out.below hbf)
      have HFF := Lib.hid (HZF.out.below hbf)
      have z0 := cell_of HF8.out 0
      have b0 := cell_of HF0.out 0
      have r0 := cell_of HF2.out 0
      have r1 := frozen_of HF2.out 0
      simp at z0 b0 r0
      clear hbf
      by_cases hcz : 32768 < cost LZ
      · have HE := Lib.hid (HD.out.trans (fin_no (.inr hcz)))
        have d0 := set_one HF2.out (.slice A es.length c)
        go_wp2
        exact bodyPost_ret (v := .tuple #[.agg #[.slice A es.length c], .int .i64 6]) (by simp [results, Try.results37, go_sem, d0]) rfl ⟨_, es, by rw [HE.out], (fun h0 => by rw [HE.out] at h0; cases h0), (fs_set HFS.out HF2.out _).imp_all, below_sc HFB.out (by simp; omega) _⟩
      · have HE := Lib.hid (HD.out.trans (fin_yes HLE.out (by omega)))
        have d0 := set_one HF2.out (.slice Az ez.length cz)
        go_wp2
        exact bodyPost_ret (v := .tuple #[.agg #[.slice Az ez.length cz], .int .i64 0]) (by simp [results, Try.results37, go_sem, d0]) rfl ⟨_, ez, by rw [HE.out], fun _ => by rw [HE.out]; exact HFZ.out, (fs_set HFF.out HF2.out _).imp_all, below_sc HFB.out (by simp; omega) _⟩

set_option maxRecDepth 100000 in
set_option maxHeartbeats 8000000 in
theorem rdo_4 (name new : List UInt8) (at_ : Int) (bytes : List UInt8) (vb v : Value) (es : List FE) (w : World) (F F2 : Nat → Prop) (h : Fs w F v es) (hk : okFs (fls es) = true) (hvb : Bs w F2 vb bytes)
    (hs1 : bytes.length ≤ 1048576) (hs2 : name.length ≤ 1048576) (hs3 : new.length ≤ 1048576) (ha1 : -9223372036854775808 ≤ at_) (ha2 : at_ ≤ 9223372036854775807) (hn : nmOk name = true) (ht : there (fls es) name = true) :
    Calls Try.prog 37 #[.agg #[v], .agg #[.int .i64 4, .string ⟨name.toArray⟩, .string ⟨new.toArray⟩, .int .i64 at_, vb]] w (RDone w (fls es) ⟨4, name, new, at_, bytes⟩) := by
  obtain ⟨A0, c0, rfl, q1, q2, -, -⟩ := hvb.open_
  replace q2 : c0 ≤ 9223372036854775807 := by simpa [maxLen] using q2
  obtain ⟨A, c, rfl, l1, l2⟩ := fs_form h
  have HK := Lib.hid hk
  have hlen := ok_len hk
  have hcost := ok_cost hk
  rw [fls_len] at hlen
  obtain ⟨W, hW⟩ : ∃ W, ((w.alloc (.cells #[.slice A es.length c] 24)).alloc (.cells #[.int .i64 4, .string ⟨name.toArray⟩, .string ⟨new.toArray⟩, .int .i64 at_, .slice A0 bytes.length c0] 37)).alloc (.cells #[.slice none 0 0] 24) = W := ⟨_, rfl⟩
  have hB0 : Below w.heap.size w W := by rw [← hW]; exact below_al (below_al (below_al (Below.refl _ _) _) _) _
  have hx0 : W.heap[w.heap.size]? = some (.cells #[.slice A es.length c] 24 (0, 0)) := by rw [← hW]; exact heap_bl (below_al (below_al (Below.refl _ _) _) _) (heap_alloc_new _ _)
  have hx1 : W.heap[w.heap.size + 1]? = some (.cells #[.int .i64 4, .string ⟨name.toArray⟩, .string ⟨new.toArray⟩, .int .i64 at_, .slice A0 bytes.length c0] 37 (0, 0)) := by
    rw [← hW]; have := heap_bl (below_al (Below.refl _ _) (.cells #[.slice none 0 0] 24)) (heap_alloc_new (w.alloc (.cells #[.slice A es.length c] 24)) (.cells #[.int .i64 4, .string ⟨name.toArray⟩, .string ⟨new.toArray⟩, .int .i64 at_, .slice A0 bytes.length c0] 37)); simpa [World.size_alloc] using this
  have hx2 : W.heap[w.heap.size + 1 + 1]? = some (.cells #[.slice none 0 0] 24 (0, 0)) := by
    rw [← hW]; have := heap_alloc_new ((w.alloc (.cells #[.slice A es.length c] 24)).alloc (.cells #[.int .i64 4, .string ⟨name.toArray⟩, .string ⟨new.toArray⟩, .int .i64 at_, .slice A0 bytes.length c0] 37)) (.cells #[.slice none 0 0] 24); simpa [World.size_alloc] using this
  have hszW : W.heap.size = w.heap.size + 1 + 1 + 1 := by rw [← hW]; simp only [World.size_alloc]
  have HSW := Lib.hid (h.below hB0)
  have HVW := Lib.hid (hvb.below hB0)
  have HX0 := Lib.hid hx0
  have HX1 := Lib.hid hx1
  have HX2 := Lib.hid hx2
  have HB0 := Lib.hid hB0
  have b0 := cell_of hx0 0
  have y0 := cell_of hx1 0
  have y1 := cell_of hx1 1
  have y2 := cell_of hx1 2
  have y3 := cell_of hx1 3
  have y4 := cell_of hx1 4
  have r0 := cell_of hx2 0
  have r1 := frozen_of hx2 0
  have d0 := set_one hx2 (.slice A es.length c)
  simp at b0 y0 y1 y2 y3 y4 r0
  clear h hk hvb hB0 hx0 hx1 hx2
  obtain ⟨LZ, hLZ⟩ : ∃ l, delF (fls es) name = l := ⟨_, rfl⟩
  have HD := Lib.hid (show doF (fls es) ⟨4, name, new, at_, bytes⟩ = fin LZ by unfold doF; rw [if_neg (by simp [opBad, hn]), if_neg (by simp [ht]), if_neg (by simp), if_neg (by simp), if_neg (by simp), hLZ])
  have HCB := Lib.hid (show cost LZ ≤ 100000000 by rw [← hLZ]; have := cost_del (fls es) name; omega)
  have HN := Lib.hid (rname_any name W (by omega))
  rw [hn] at HN
  have HPL := Lib.hid (rplace_any name (.slice A es.length c) es W _ HSW.out)
  rw [ht] at HPL
  have hpl0 := there_lt ht
  rw [fls_len] at hpl0
  obtain ⟨p, hp, hpl, hfb⟩ : ∃ p, place (fls es) name = p ∧ ∃ hl : p < es.length, getFB (fls es) name = es[p].1.bytes := ⟨_, rfl, hpl0, getFB_at hpl0⟩
  rw [hp] at HPL
  clear hp hpl0
  clear hfb
  go_enter Try.func37, Try.ntmps37
  go_wp2_with fail
  refine (HN.out).mono ?_
  rintro e w' ⟨rfl, rfl⟩
  try rw [hW]
  clear hW
  go_wp2_with fail
  refine (HPL.out).mono ?_
  rintro e wq ⟨rfl, hbq⟩
  have HSq := Lib.hid (HSW.out.below hbq)
  have HVq := Lib.hid (HVW.out.below hbq)
  have HBq := Lib.hid (below_tr HB0.out hbq)
  have hszq := hbq.size
  have hxq0 := heap_bl hbq HX0.out
  have hxq1 := heap_bl hbq HX1.out
  have hxq2 := heap_bl hbq HX2.out
  have HXq0 := Lib.hid hxq0
  have HXq1 := Lib.hid hxq1
  have HXq2 := Lib.hid hxq2
  have p0 := cell_of hxq0 0
  have p1 := cell_of hxq1 0
  simp at p0 p1
  clear b0 y0 y1 y2 y3 y4 r0 r1 d0 hbq
  obtain ⟨W8, hW8⟩ : ∃ W8, wq.alloc (.cells #[.slice A es.length c] 24) = W8 := ⟨_, rfl⟩
  have hB8 : Below wq.heap.size wq W8 := by rw [← hW8]; exact below_al (Below.refl _ _) _
  have hsz8 : W8.heap.size = wq.heap.size + 1 := by rw [← hW8]; exact World.size_alloc _ _
  have hx8 : W8.heap[wq.heap.size]? = some (.cells #[.slice A es.length c] 24 (0, 0)) := by rw [← hW8]; exact heap_alloc_new _ _
  have HS8 := Lib.hid (HSq.out.below hB8)
  have HV8 := Lib.hid (HVq.out.below hB8)
  have HB8 := Lib.hid (below_tr HBq.out hB8)
  have h80 := heap_bl hB8 hxq0
  have h81 := heap_bl hB8 hxq1
  have h82 := heap_bl hB8 hxq2
  have HX8 := Lib.hid hx8
  have HX80 := Lib.hid h80
  have HX81 := Lib.hid h81
  have HX82 := Lib.hid h82
  have x8 := cell_of hx8 0
  have f8 := frozen_of hx8 0
  simp at x8
  have b0 := cell_of h80 0
  have y0 := cell_of h81 0
  have y1 := cell_of h81 1
  have y2 := cell_of h81 2
  have y3 := cell_of h81 3
  have y4 := cell_of h81 4
  have r0 := cell_of h82 0
  have r1 := frozen_of h82 0
  have d0 := set_one h82 (.slice A es.length c)
  simp at b0 y0 y1 y2 y3 y4 r0
  clear hB8 hx8 hxq0 hxq1 hxq2 h80 h81 h82
  have HT := Lib.hid (rwithout_any name _ es W8 _ HS8.out (by omega))
  rw [dropF_eq (ok_rise HK.out), hLZ] at HT
  clear hLZ
  go_wp2_with fail
  refine HT.out.mono ?_
  rintro e w9 ⟨v9, e9, rfl, hf9, hr9, hb9⟩
  obtain ⟨Az, cz, rfl, n1, n2⟩ := fs_form hr9.fs
  have hw8 : W8.heap.size ≤ w9.heap.size := hb9.size
  have hz8 := heap_bl hb9 HX8.out
  have hz0 := heap_bl hb9 HX80.out
  have hz1 := heap_bl hb9 HX81.out
  have hz2 := heap_bl hb9 HX82.out
  have hzb := below_tr HB8.out hb9
  have hzs := HS8.out.below hb9
  obtain ⟨ez, hez⟩ : ∃ x, x = e9 := ⟨_, rfl⟩
  subst hez
  have z8 := cell_of hz8 0
  have zf := frozen_of hz8 0
  simp at z8
  obtain ⟨Z, hZ⟩ : ∃ Z, w9.setCell ⟨wq.heap.size, 0, none⟩ (.slice Az ez.length cz) = Z := ⟨_, rfl⟩
  have HFZ := Lib.hid hf9
  have HZ8 := Lib.hid (show Z.heap[wq.heap.size]? = some (.cells #[.slice Az ez.length cz] 24 (0, 0)) by rw [← hZ]; exact heap_setCell_same _ _ 0 _ _ _ hz8)
  have HZ0 := Lib.hid (show Z.heap[w.heap.size]? = some (.cells #[.slice A es.length c] 24 (0, 0)) by rw [← hZ]; exact (heap_setCell_other _ _ _ _ (by simp; omega)).trans hz0)
  have HZ1 := Lib.hid (show Z.heap[w.heap.size + 1]? = some (.cells #[.int .i64 4, .string ⟨name.toArray⟩, .string ⟨new.toArray⟩, .int .i64 at_, .slice A0 bytes.length c0] 37 (0, 0)) by rw [← hZ]; exact (heap_setCell_other _ _ _ _ (by simp; omega)).trans hz1)
  have HZ2 := Lib.hid (show Z.heap[w.heap.size + 1 + 1]? = some (.cells #[.slice none 0 0] 24 (0, 0)) by rw [← hZ]; exact (heap_setCell_other _ _ _ _ (by simp; omega)).trans hz2)
  have HZB := Lib.hid (show Below w.heap.size w Z by rw [← hZ]; exact below_sc hzb (by simp; omega) _)
  have HZS := Lib.hid (show Fs Z F (.slice A es.length c) es by rw [← hZ]; exact fs_set hzs hz8 _)
  have HZF := Lib.hid (show Fs Z _ (.slice Az ez.length cz) ez by rw [← hZ]; exact fs_set hr9.fs hz8 _)
  have HZY := Lib.hid hZ
  have hszZ : Z.heap.size = w9.heap.size := by rw [← hZ]; exact World.size_setCell _ _ _
  clear p0 p1 b0 y0 y1 y2 y3 y4 r0 r1 d0 x8 f8 hz8 hz0 hz1 hz2 hzb hzs hf9 hr9
  have hez : ez.length = LZ.length := by rw [← HFZ.out, fls_len]
  have z0 := cell_of HZ8.out 0
  have b0 := cell_of HZ0.out 0
  have y0 := cell_of HZ1.out 0
  simp at z0 b0 y0
  have r0 := cell_of HZ2.out 0
  have r1 := frozen_of HZ2.out 0
  simp at r0
  by_cases h64 : 64 < ez.length
  · have HE := Lib.hid (HD.out.trans (fin_no (.inl (by omega))))
    have d0 := set_one HZ2.out (.slice A es.length c)
    clear hez
    go_wp2
    exact bodyPost_ret (v := .tuple #[.agg #[.slice A es.length c], .int .i64 6]) (by simp [results, Try.results37, go_sem, d0]) rfl ⟨_, es, by rw [HE.out], (fun h0 => by rw [HE.out] at h0; cases h0), (fs_set HZS.out HZ2.out _).imp_all, below_sc HZB.out (by simp; omega) _⟩
  · have hle : LZ.length ≤ 64 := by omega
    have HLE := Lib.hid hle
    clear hez hle
    go_wp2_with fail
    refine (rcost_any _ ez _ _ HZF.out (by rw [HFZ.out]; have := HCB.out; omega)).mono ?_
    rintro e wf ⟨rfl, hbf⟩
    rw [HFZ.out]
    have HF8 := Lib.hid (heap_bl hbf HZ8.out)
    have HF0 := Lib.hid (heap_bl hbf HZ0.out)
    have HF2 := Lib.hid (heap_bl hbf HZ2.out)
    have HFB := Lib.hid (HZB.out.trans (hbf.mono (by omega)))
    have HFS := Lib.hid (HZS.out.below hbf)
    have HFF := Lib.hid (HZF.out.below hbf)
    have z0 := cell_of HF8.out 0
    have b0 := cell_of HF0.out 0
    have r0 := cell_of HF2.out 0
    have r1 := frozen_of HF2.out 0
    simp at z0 b0 r0
    clear hbf
    by_cases hcz : 32768 < cost LZ
    · have HE := Lib.hid (HD.out.trans (fin_no (.inr hcz)))
      have d0 := set_one HF2.out (.slice A es.length c)
      go_wp2
      exact bodyPost_ret (v := .tuple #[.agg #[.slice A es.length c], .int .i64 6]) (by simp [results, Try.results37, go_sem, d0]) rfl ⟨_, es, by rw [HE.out], (fun h0 => by rw [HE.out] at h0; cases h0), (fs_set HFS.out HF2.out _).imp_all, below_sc HFB.out (by simp; omega) _⟩
    · have HE := Lib.hid (HD.out.trans (fin_yes HLE.out (by omega)))
      have d0 := set_one HF2.out (.slice Az ez.length cz)
      go_wp2
      exact bodyPost_ret (v := .tuple #[.agg #[.slice Az ez.length cz], .int .i64 0]) (by simp [results, Try.results37, go_sem, d0]) rfl ⟨_, ez, by rw [HE.out], fun _ => by rw [HE.out]; exact HFZ.out, (fs_set HFF.out HF2.out _).imp_all, below_sc HFB.out (by simp; omega) _⟩

end Go.Proofs.Ytjgobljclodpfaa
