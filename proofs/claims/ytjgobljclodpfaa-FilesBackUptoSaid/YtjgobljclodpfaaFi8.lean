/- Layer 5's walk: an operation on files. Printed by gendo.py. No condition beyond sizes. -/
import Derived.Test.YtjgobljclodpfaaFiO
namespace Go.Proofs.Ytjgobljclodpfaa
open Go.RowKit Go.Shelf K L
set_option linter.unusedVariables false
set_option linter.unusedSimpArgs false

/-- What an operation leaves. -/
def Done (w : World) (sb base : Nat) (l : List Fl) (o : FO) (e : Ending) (w' : World) : Prop := e = .returned (.int .i64 (doF l o).1) ∧ ∃ v' es', StP w' sb base v' es' ∧ fls es' = (doF l o).2 ∧ Below base w w'

theorem fin_no {l : List Fl} (h : 64 < l.length ∨ 32768 < cost l) : fin l = (6, l) := by unfold fin; rw [if_pos h]
theorem fin_yes {l : List Fl} (h1 : l.length ≤ 64) (h2 : cost l ≤ 32768) : fin l = (0, l) := by unfold fin; rw [if_neg (by omega)]
theorem cost_append (a b : List Fl) : cost (a ++ b) = cost a + cost b := by simp [cost]
theorem cost_split (l : List Fl) (k : Nat) : cost (l.take k) + cost (l.drop k) = cost l := by rw [← cost_append, List.take_append_drop]
theorem cost_put (l : List Fl) (nm b : List UInt8) : cost (putF l nm b) ≤ cost l + (nm.length + b.length) := by
  unfold putF
  have h1 := cost_split l (place l nm)
  have h2 := cost_split l (place l nm + 1)
  have h3 : cost (l.take (place l nm)) ≤ cost (l.take (place l nm + 1)) := by
    have := cost_split (l.take (place l nm + 1)) (place l nm)
    rw [List.take_take, Nat.min_eq_left (by omega)] at this
    omega
  have hc : cost [⟨nm, b⟩] = nm.length + b.length := by simp [cost, cost1]
  split
  · rw [List.set_eq_take_append_cons_drop]
    split
    · rw [show (⟨nm, b⟩ : Fl) :: l.drop (place l nm + 1) = [⟨nm, b⟩] ++ l.drop (place l nm + 1) from rfl, cost_append, cost_append, hc]
      omega
    · omega
  · rw [cost_append, cost_append, hc]; omega
theorem cost_del (l : List Fl) (nm : List UInt8) : cost (delF l nm) ≤ cost l := by
  unfold delF
  have h1 := cost_split l (place l nm)
  have h2 := cost_split l (place l nm + 1)
  have h3 : cost (l.take (place l nm)) ≤ cost (l.take (place l nm + 1)) := by
    have := cost_split (l.take (place l nm + 1)) (place l nm)
    rw [List.take_take, Nat.min_eq_left (by omega)] at this
    omega
  split
  · rw [cost_append]; omega
  · exact Nat.le_refl _
theorem len_put (l : List Fl) (nm b : List UInt8) : (putF l nm b).length ≤ l.length + 1 := by
  unfold putF
  split
  · simp
  · simp only [List.length_append, List.length_take, List.length_drop, List.length_cons, List.length_nil]; omega
theorem len_del (l : List Fl) (nm : List UInt8) : (delF l nm).length ≤ l.length := by
  unfold delF
  split
  · simp only [List.length_append, List.length_take, List.length_drop]; omega
  · exact Nat.le_refl _
theorem getFB_at {es : List FE} {nm : List UInt8} (h : place (fls es) nm < es.length) : getFB (fls es) nm = es[place (fls es) nm].1.bytes := by
  unfold getFB
  rw [List.getElem?_eq_getElem (by rw [fls_len]; exact h), fls_get es _ h]; rfl

/-- The first bytes of a slice. -/
theorem bs_pre {w : World} {F : Nat → Prop} {A : Option Addr} {c : Nat} {xs : List UInt8} (h : Bs w F (.slice A xs.length c) xs) (n : Nat) (hn : n ≤ xs.length) : Bs w F (.slice A n c) (xs.take n) := by
  obtain ⟨hl, A', c', hv, h1, h2, h3, h4⟩ := h
  cases hv
  have hlen : (xs.take n).length = n := by rw [List.length_take]; omega
  unfold Bs
  rw [hlen]
  refine ⟨by rw [bvs_len, hlen]; omega, A, c, rfl, by omega, h2, h3, fun hp => ?_⟩
  obtain ⟨ad, ha, hf, hat⟩ := h4 (by omega)
  refine ⟨ad, ha, hf, fun j u hu => hat j u ?_⟩
  simp only [bvs, List.getElem?_map] at hu ⊢
  rw [List.getElem?_take] at hu
  split at hu
  · exact hu
  · simp at hu
theorem bs_some {w : World} {F : Nat → Prop} {A : Option Addr} {c : Nat} {xs : List UInt8} (h : Bs w F (.slice A xs.length c) xs) (hp : 0 < xs.length) : ∃ b o, A = some ⟨b, o, none⟩ := by
  obtain ⟨b, o, hv, -⟩ := Sl.cells h hp (by decide)
  exact ⟨b, o, hv⟩
theorem bs_rest {w : World} {F : Nat → Prop} {b o c : Nat} {xs : List UInt8} (h : Bs w F (.slice (some ⟨b, o, none⟩) xs.length c) xs) (p : Nat) (hm : p ≤ xs.length) (hc : c ≠ p) : Bs w F (.slice (some ⟨b, o + p, none⟩) (xs.length - p) (c - p)) (xs.drop p) := by
  have h1 := h.sub p (xs.length - p) (by omega)
  rw [if_neg hc] at h1
  have : (⟨b, o, none⟩ : Addr).add p = ⟨b, o + p, none⟩ := by unfold Addr.add; split <;> simp_all
  rw [Option.map_some, this, List.take_of_length_le (by simp)] at h1
  exact h1
theorem bvs_app (a b : List UInt8) : bvs a ++ bvs b = bvs (a ++ b) := by simp [bvs]
theorem ob_of {w : World} {B e n : Nat} {v : Value} {xs : List UInt8} (h : w.ownsRow B e 1 v n (bvs xs)) (hn : xs.length = n) : Ob w B e v xs := by unfold Ob; rw [hn]; exact h
theorem of_ob {w : World} {B e n : Nat} {v : Value} {xs : List UInt8} (h : Ob w B e v xs) (hn : xs.length = n) : w.ownsRow B e 1 v n (bvs xs) := by unfold Ob at h; rw [hn] at h; exact h
def ObP (B : Nat) (xs : List UInt8) (w : World) (v : Value) : Prop := Ob w B 5 v xs
theorem ObP.fresh {B : Nat} {xs : List UInt8} {w w' : World} {v : Value} (h : ObP B xs w v) (hb : Below w.heap.size w w') : ObP B xs w' v := own_keep h fun g hg => hb.block g (World.ownsRow.lt h g hg).2


set_option maxRecDepth 100000 in
set_option maxHeartbeats 8000000 in
theorem do_bad1 (kind : Int) (name new : List UInt8) (at_ : Int) (bytes : List UInt8) (vb : Value) (sb base : Nat) (v : Value) (es : List FE) (w : World) (F : Nat → Prop) (h : StP w sb base v es) (hr : rise (fls es) = true) (hl : es.length ≤ 64) (hc : cost (fls es) ≤ 32768) (hbw : base ≤ w.heap.size)
    (hvb : Bs w F vb bytes) (hs1 : bytes.length ≤ 1048576) (hs2 : name.length ≤ 1048576) (hs3 : new.length ≤ 1048576) (ha1 : -9223372036854775808 ≤ at_) (ha2 : at_ ≤ 9223372036854775807) (hk : kind < 1) :
    Calls Try.prog 35 #[.pointer (some ⟨sb, 0, none⟩), .agg #[.int .i64 kind, .string ⟨name.toArray⟩, .string ⟨new.toArray⟩, .int .i64 at_, vb]] w (Done w sb base (fls es) ⟨kind, name, new, at_, bytes⟩) := by
  have HVL := Lib.hid hvb
  obtain ⟨A0, c0, rfl, q1, q2, -, -⟩ := hvb.open_
  replace q2 : c0 ≤ 9223372036854775807 := by simpa [maxLen] using q2
  have HS := Lib.hid h
  have HR := Lib.hid hr
  obtain ⟨A, c, rfl, l1, l2⟩ := fs_form h.fs
  have hlow := h.low
  have hltS := h.lt
  clear h hr hvb
  obtain ⟨W, hW⟩ : ∃ W, w.alloc (.cells #[.int .i64 kind, .string ⟨name.toArray⟩, .string ⟨new.toArray⟩, .int .i64 at_, .slice A0 bytes.length c0] 37) = W := ⟨_, rfl⟩
  have hB0 : Below w.heap.size w W := by rw [← hW]; exact below_al (Below.refl _ _) _
  have hx : W.heap[w.heap.size]? = some (.cells #[.int .i64 kind, .string ⟨name.toArray⟩, .string ⟨new.toArray⟩, .int .i64 at_, .slice A0 bytes.length c0] 37 (0, 0)) := by rw [← hW]; exact heap_alloc_new _ _
  have HSW := Lib.hid (HS.out.next hB0)
  have HVW := Lib.hid (HVL.out.below hB0)
  have HX := Lib.hid hx
  have HB0 := Lib.hid hB0
  have hszW := hB0.size
  have b0 := cell_of hx 0
  have b1 := cell_of hx 1
  have b2 := cell_of hx 2
  have b3 := cell_of hx 3
  have b4 := cell_of hx 4
  simp at b0 b1 b2 b3 b4
  clear hB0 hx
  have HD := Lib.hid (show doF (fls es) ⟨kind, name, new, at_, bytes⟩ = (2, fls es) by unfold doF; rw [if_pos]; unfold opBad; simp; omega)
  have hk1 : decide (kind < 1) = true := by simpa using hk
  go_enter Try.func35, Try.ntmps35
  go_wp2
  try rw [hW]
  go_ret
  exact ⟨by rw [HD.out]; rfl, _, es, HSW.out, by rw [HD.out], HB0.out.mono hbw⟩

set_option maxRecDepth 100000 in
set_option maxHeartbeats 8000000 in
theorem do_bad2 (kind : Int) (name new : List UInt8) (at_ : Int) (bytes : List UInt8) (vb : Value) (sb base : Nat) (v : Value) (es : List FE) (w : World) (F : Nat → Prop) (h : StP w sb base v es) (hr : rise (fls es) = true) (hl : es.length ≤ 64) (hc : cost (fls es) ≤ 32768) (hbw : base ≤ w.heap.size)
    (hvb : Bs w F vb bytes) (hs1 : bytes.length ≤ 1048576) (hs2 : name.length ≤ 1048576) (hs3 : new.length ≤ 1048576) (ha1 : -9223372036854775808 ≤ at_) (ha2 : at_ ≤ 9223372036854775807) (hk : 4 < kind) :
    Calls Try.prog 35 #[.pointer (some ⟨sb, 0, none⟩), .agg #[.int .i64 kind, .string ⟨name.toArray⟩, .string ⟨new.toArray⟩, .int .i64 at_, vb]] w (Done w sb base (fls es) ⟨kind, name, new, at_, bytes⟩) := by
  have HVL := Lib.hid hvb
  obtain ⟨A0, c0, rfl, q1, q2, -, -⟩ := hvb.open_
  replace q2 : c0 ≤ 9223372036854775807 := by simpa [maxLen] using q2
  have HS := Lib.hid h
  have HR := Lib.hid hr
  obtain ⟨A, c, rfl, l1, l2⟩ := fs_form h.fs
  have hlow := h.low
  have hltS := h.lt
  clear h hr hvb
  obtain ⟨W, hW⟩ : ∃ W, w.alloc (.cells #[.int .i64 kind, .string ⟨name.toArray⟩, .string ⟨new.toArray⟩, .int .i64 at_, .slice A0 bytes.length c0] 37) = W := ⟨_, rfl⟩
  have hB0 : Below w.heap.size w W := by rw [← hW]; exact below_al (Below.refl _ _) _
  have hx : W.heap[w.heap.size]? = some (.cells #[.int .i64 kind, .string ⟨name.toArray⟩, .string ⟨new.toArray⟩, .int .i64 at_, .slice A0 bytes.length c0] 37 (0, 0)) := by rw [← hW]; exact heap_alloc_new _ _
  have HSW := Lib.hid (HS.out.next hB0)
  have HVW := Lib.hid (HVL.out.below hB0)
  have HX := Lib.hid hx
  have HB0 := Lib.hid hB0
  have hszW := hB0.size
  have b0 := cell_of hx 0
  have b1 := cell_of hx 1
  have b2 := cell_of hx 2
  have b3 := cell_of hx 3
  have b4 := cell_of hx 4
  simp at b0 b1 b2 b3 b4
  clear hB0 hx
  have HD := Lib.hid (show doF (fls es) ⟨kind, name, new, at_, bytes⟩ = (2, fls es) by unfold doF; rw [if_pos]; unfold opBad; simp; omega)
  have hk1 : decide (kind < 1) = false := by simp; omega
  have hk2 : decide (4 < kind) = true := by simpa using hk
  go_enter Try.func35, Try.ntmps35
  go_wp2
  try rw [hW]
  go_ret
  exact ⟨by rw [HD.out]; rfl, _, es, HSW.out, by rw [HD.out], HB0.out.mono hbw⟩

set_option maxRecDepth 100000 in
set_option maxHeartbeats 8000000 in
theorem do_bad3 (kind : Int) (name new : List UInt8) (at_ : Int) (bytes : List UInt8) (vb : Value) (sb base : Nat) (v : Value) (es : List FE) (w : World) (F : Nat → Prop) (h : StP w sb base v es) (hr : rise (fls es) = true) (hl : es.length ≤ 64) (hc : cost (fls es) ≤ 32768) (hbw : base ≤ w.heap.size)
    (hvb : Bs w F vb bytes) (hs1 : bytes.length ≤ 1048576) (hs2 : name.length ≤ 1048576) (hs3 : new.length ≤ 1048576) (ha1 : -9223372036854775808 ≤ at_) (ha2 : at_ ≤ 9223372036854775807) (hk1 : 1 ≤ kind) (hk2 : kind ≤ 4) (hn : nmOk name = false) :
    Calls Try.prog 35 #[.pointer (some ⟨sb, 0, none⟩), .agg #[.int .i64 kind, .string ⟨name.toArray⟩, .string ⟨new.toArray⟩, .int .i64 at_, vb]] w (Done w sb base (fls es) ⟨kind, name, new, at_, bytes⟩) := by
  have HVL := Lib.hid hvb
  obtain ⟨A0, c0, rfl, q1, q2, -, -⟩ := hvb.open_
  replace q2 : c0 ≤ 9223372036854775807 := by simpa [maxLen] using q2
  have HS := Lib.hid h
  have HR := Lib.hid hr
  obtain ⟨A, c, rfl, l1, l2⟩ := fs_form h.fs
  have hlow := h.low
  have hltS := h.lt
  clear h hr hvb
  obtain ⟨W, hW⟩ : ∃ W, w.alloc (.cells #[.int .i64 kind, .string ⟨name.toArray⟩, .string ⟨new.toArray⟩, .int .i64 at_, .slice A0 bytes.length c0] 37) = W := ⟨_, rfl⟩
  have hB0 : Below w.heap.size w W := by rw [← hW]; exact below_al (Below.refl _ _) _
  have hx : W.heap[w.heap.size]? = some (.cells #[.int .i64 kind, .string ⟨name.toArray⟩, .string ⟨new.toArray⟩, .int .i64 at_, .slice A0 bytes.length c0] 37 (0, 0)) := by rw [← hW]; exact heap_alloc_new _ _
  have HSW := Lib.hid (HS.out.next hB0)
  have HVW := Lib.hid (HVL.out.below hB0)
  have HX := Lib.hid hx
  have HB0 := Lib.hid hB0
  have hszW := hB0.size
  have b0 := cell_of hx 0
  have b1 := cell_of hx 1
  have b2 := cell_of hx 2
  have b3 := cell_of hx 3
  have b4 := cell_of hx 4
  simp at b0 b1 b2 b3 b4
  clear hB0 hx
  have HD := Lib.hid (show doF (fls es) ⟨kind, name, new, at_, bytes⟩ = (2, fls es) by unfold doF; rw [if_pos]; unfold opBad; simp [hn])
  have HN := Lib.hid (name_any name W (by omega))
  rw [hn] at HN
  go_enter Try.func35, Try.ntmps35
  go_wp2_with fail
  refine (HN.out).mono ?_
  rintro e w' ⟨rfl, rfl⟩
  try rw [hW]
  clear hW
  go_wp2
  go_ret
  exact ⟨by rw [HD.out]; rfl, _, es, HSW.out, by rw [HD.out], HB0.out.mono hbw⟩

set_option maxRecDepth 100000 in
set_option maxHeartbeats 8000000 in
theorem do_bad4 (kind : Int) (name new : List UInt8) (at_ : Int) (bytes : List UInt8) (vb : Value) (sb base : Nat) (v : Value) (es : List FE) (w : World) (F : Nat → Prop) (h : StP w sb base v es) (hr : rise (fls es) = true) (hl : es.length ≤ 64) (hc : cost (fls es) ≤ 32768) (hbw : base ≤ w.heap.size)
    (hvb : Bs w F vb bytes) (hs1 : bytes.length ≤ 1048576) (hs2 : name.length ≤ 1048576) (hs3 : new.length ≤ 1048576) (ha1 : -9223372036854775808 ≤ at_) (ha2 : at_ ≤ 9223372036854775807) (hk1 : kind = 3) (hn : nmOk name = true) (hn2 : nmOk new = false) :
    Calls Try.prog 35 #[.pointer (some ⟨sb, 0, none⟩), .agg #[.int .i64 kind, .string ⟨name.toArray⟩, .string ⟨new.toArray⟩, .int .i64 at_, vb]] w (Done w sb base (fls es) ⟨kind, name, new, at_, bytes⟩) := by
  have HVL := Lib.hid hvb
  obtain ⟨A0, c0, rfl, q1, q2, -, -⟩ := hvb.open_
  replace q2 : c0 ≤ 9223372036854775807 := by simpa [maxLen] using q2
  have HS := Lib.hid h
  have HR := Lib.hid hr
  obtain ⟨A, c, rfl, l1, l2⟩ := fs_form h.fs
  have hlow := h.low
  have hltS := h.lt
  clear h hr hvb
  obtain ⟨W, hW⟩ : ∃ W, w.alloc (.cells #[.int .i64 kind, .string ⟨name.toArray⟩, .string ⟨new.toArray⟩, .int .i64 at_, .slice A0 bytes.length c0] 37) = W := ⟨_, rfl⟩
  have hB0 : Below w.heap.size w W := by rw [← hW]; exact below_al (Below.refl _ _) _
  have hx : W.heap[w.heap.size]? = some (.cells #[.int .i64 kind, .string ⟨name.toArray⟩, .string ⟨new.toArray⟩, .int .i64 at_, .slice A0 bytes.length c0] 37 (0, 0)) := by rw [← hW]; exact heap_alloc_new _ _
  have HSW := Lib.hid (HS.out.next hB0)
  have HVW := Lib.hid (HVL.out.below hB0)
  have HX := Lib.hid hx
  have HB0 := Lib.hid hB0
  have hszW := hB0.size
  have b0 := cell_of hx 0
  have b1 := cell_of hx 1
  have b2 := cell_of hx 2
  have b3 := cell_of hx 3
  have b4 := cell_of hx 4
  simp at b0 b1 b2 b3 b4
  clear hB0 hx
  have HD := Lib.hid (show doF (fls es) ⟨kind, name, new, at_, bytes⟩ = (2, fls es) by unfold doF; rw [if_pos]; unfold opBad; simp [hn, hn2, hk1])
  subst hk1
  have HN := Lib.hid (name_any name W (by omega))
  rw [hn] at HN
  have HN2 := Lib.hid (name_any new W (by omega))
  rw [hn2] at HN2
  go_enter Try.func35, Try.ntmps35
  go_wp2_with fail
  refine (HN.out).mono ?_
  rintro e w' ⟨rfl, rfl⟩
  go_wp2_with fail
  refine (HN2.out).mono ?_
  rintro e w' ⟨rfl, rfl⟩
  try rw [hW]
  clear hW
  go_wp2
  go_ret
  exact ⟨by rw [HD.out]; rfl, _, es, HSW.out, by rw [HD.out], HB0.out.mono hbw⟩

set_option maxRecDepth 100000 in
set_option maxHeartbeats 8000000 in
theorem do_none2 (name new : List UInt8) (at_ : Int) (bytes : List UInt8) (vb : Value) (sb base : Nat) (v : Value) (es : List FE) (w : World) (F : Nat → Prop) (h : StP w sb base v es) (hr : rise (fls es) = true) (hl : es.length ≤ 64) (hc : cost (fls es) ≤ 32768) (hbw : base ≤ w.heap.size)
    (hvb : Bs w F vb bytes) (hs1 : bytes.length ≤ 1048576) (hs2 : name.length ≤ 1048576) (hs3 : new.length ≤ 1048576) (ha1 : -9223372036854775808 ≤ at_) (ha2 : at_ ≤ 9223372036854775807) (hn : nmOk name = true) (ht : there (fls es) name = false) :
    Calls Try.prog 35 #[.pointer (some ⟨sb, 0, none⟩), .agg #[.int .i64 2, .string ⟨name.toArray⟩, .string ⟨new.toArray⟩, .int .i64 at_, vb]] w (Done w sb base (fls es) ⟨2, name, new, at_, bytes⟩) := by
  have HVL := Lib.hid hvb
  obtain ⟨A0, c0, rfl, q1, q2, -, -⟩ := hvb.open_
  replace q2 : c0 ≤ 9223372036854775807 := by simpa [maxLen] using q2
  have HS := Lib.hid h
  have HR := Lib.hid hr
  obtain ⟨A, c, rfl, l1, l2⟩ := fs_form h.fs
  have hlow := h.low
  have hltS := h.lt
  clear h hr hvb
  obtain ⟨W, hW⟩ : ∃ W, w.alloc (.cells #[.int .i64 2, .string ⟨name.toArray⟩, .string ⟨new.toArray⟩, .int .i64 at_, .slice A0 bytes.length c0] 37) = W := ⟨_, rfl⟩
  have hB0 : Below w.heap.size w W := by rw [← hW]; exact below_al (Below.refl _ _) _
  have hx : W.heap[w.heap.size]? = some (.cells #[.int .i64 2, .string ⟨name.toArray⟩, .string ⟨new.toArray⟩, .int .i64 at_, .slice A0 bytes.length c0] 37 (0, 0)) := by rw [← hW]; exact heap_alloc_new _ _
  have HSW := Lib.hid (HS.out.next hB0)
  have HVW := Lib.hid (HVL.out.below hB0)
  have HX := Lib.hid hx
  have HB0 := Lib.hid hB0
  have hszW := hB0.size
  have b0 := cell_of hx 0
  have b1 := cell_of hx 1
  have b2 := cell_of hx 2
  have b3 := cell_of hx 3
  have b4 := cell_of hx 4
  simp at b0 b1 b2 b3 b4
  clear hB0 hx
  have HD := Lib.hid (show doF (fls es) ⟨2, name, new, at_, bytes⟩ = (4, fls es) by unfold doF; rw [if_neg (by simp [opBad, hn]), if_pos ⟨by simp, ht⟩])
  have HN := Lib.hid (name_any name W (by omega))
  rw [hn] at HN
  have HFI := Lib.hid (fun (wq : World) (hT' : Below W.heap.size W wq) => ffind_any name (.slice A es.length c) es wq _ (HSW.out.next hT').fs HR.out (by omega))
  rw [ht] at HFI
  obtain ⟨p, hp⟩ : ∃ p, place (fls es) name = p := ⟨_, rfl⟩
  rw [hp] at HFI
  clear hp
  go_enter Try.func35, Try.ntmps35
  go_wp2_with fail
  refine (HN.out).mono ?_
  rintro e w' ⟨rfl, rfl⟩
  try rw [hW]
  clear hW
  go_wp2
  clear b0 b1 b2 b3 b4
  refine G.region_inv (by kernel_rfl) (by kernel_rfl) (fun w w' => Below w.heap.size w w') (fun _ _ _ h k => below_tr h k) (fun w _ => Below.refl _ _) (Below.refl _ _)
    (G.of [(fun (_ : World) (v : Value) => v = .pointer (some ⟨sb, 0, none⟩)), (fun (_ : World) (v : Value) => v = .pointer (some ⟨sb, 0, none⟩)), (fun (_ : World) (v : Value) => v = .pointer (some ⟨sb, 0, none⟩)), (fun (_ : World) (v : Value) => v = .pointer (some ⟨sb, 0, none⟩)), (fun (_ : World) (v : Value) => v = .slice A es.length c), (fun (_ : World) (v : Value) => v = .pointer (some ⟨w.heap.size, 1, none⟩)), (fun (_ : World) (v : Value) => v = .string ⟨name.toArray⟩), (fun (_ : World) (v : Value) => v = .tuple #[.int .i64 (p : Nat), .bool false]), (fun (_ : World) (v : Value) => v = .tuple #[.int .i64 (p : Nat), .bool false]), (fun (_ : World) (v : Value) => v = .int .i64 (p : Nat)), (fun (_ : World) (v : Value) => v = .bool false), (fun (_ : World) (v : Value) => v = .int .i64 (p : Nat)), (fun (_ : World) (v : Value) => v = .bool false)])
    (G.of_stays _ ?_) ?_ (G.each_ops ?_) ?_
  · exact ⟨(fun w w' v h k => h), (fun w w' v h k => h), (fun w w' v h k => h), (fun w w' v h k => h), (fun w w' v h k => h), (fun w w' v h k => h), (fun w w' v h k => h), (fun w w' v h k => h), (fun w w' v h k => h), (fun w w' v h k => h), (fun w w' v h k => h), (fun w w' v h k => h), (fun w w' v h k => h), trivial⟩
  · intro i o hi hd; exact absurd hd (G.no_none (by kernel_rfl) hi)
  · refine ⟨?_, ?_, ?_, ?_, ?_, ?_, ?_, ?_, ?_, ?_, ?_, ?_, ?_, trivial⟩
    all_goals intro a wq hT hS hp
    all_goals (have hT' : Below W.heap.size W wq := below_tr (Below.refl _ _).drew hT; have k0 := cell_of (HSW.out.next hT').cell 0; have k1 := cell_of (heap_bl hT' HX.out) 1; simp at k0 k1)
    · refine G.wanted_yes (G.wanted_plain rfl) ?_
      have e0 : a.tmps[0]?.getD undef = .pointer (some ⟨sb, 0, none⟩) := hS.at_ 0 rfl
      exact G.st_val (v := .pointer (some ⟨sb, 0, none⟩)) (w' := wq) (by simp [execOp, go_sem, e0, k0, k1] <;> omega) ⟨_, rfl, Below.refl _ _, rfl⟩
    · refine G.wanted_yes (G.wanted_plain rfl) ?_
      have e36 : a.tmps[36]?.getD undef = .pointer (some ⟨sb, 0, none⟩) := hp ⟨0, .data⟩ (by simp) rfl _ rfl
      exact G.st_val (v := .pointer (some ⟨sb, 0, none⟩)) (w' := wq) (by simp [execOp, go_sem, e36, k0, k1] <;> omega) ⟨_, rfl, Below.refl _ _, rfl⟩
    · refine G.wanted_yes (G.wanted_plain rfl) ?_
      have e37 : a.tmps[37]?.getD undef = .pointer (some ⟨sb, 0, none⟩) := hp ⟨1, .data⟩ (by simp) rfl _ rfl
      exact G.st_val (v := .pointer (some ⟨sb, 0, none⟩)) (w' := wq) (by simp [execOp, go_sem, e37, k0, k1] <;> omega) ⟨_, rfl, Below.refl _ _, rfl⟩
    · refine G.wanted_yes (G.wanted_plain rfl) ?_
      have e38 : a.tmps[38]?.getD undef = .pointer (some ⟨sb, 0, none⟩) := hp ⟨2, .data⟩ (by simp) rfl _ rfl
      exact G.st_val (v := .pointer (some ⟨sb, 0, none⟩)) (w' := wq) (by simp [execOp, go_sem, e38, k0, k1] <;> omega) ⟨_, rfl, Below.refl _ _, rfl⟩
    · refine G.wanted_yes (G.wanted_plain rfl) ?_
      have e39 : a.tmps[39]?.getD undef = .pointer (some ⟨sb, 0, none⟩) := hp ⟨3, .data⟩ (by simp) rfl _ rfl
      exact G.st_val (v := .slice A es.length c) (w' := wq) (by simp [execOp, go_sem, e39, k0, k1] <;> omega) ⟨_, rfl, Below.refl _ _, rfl⟩
    · refine G.wanted_yes (G.wanted_plain rfl) ?_
      have e3 : a.tmps[3]?.getD undef = .pointer (some ⟨w.heap.size, 0, none⟩) := hS.at_ 3 rfl
      exact G.st_val (v := .pointer (some ⟨w.heap.size, 1, none⟩)) (w' := wq) (by simp [execOp, go_sem, e3, k0, k1] <;> omega) ⟨_, rfl, Below.refl _ _, rfl⟩
    · refine G.wanted_yes (G.wanted_plain rfl) ?_
      have e41 : a.tmps[41]?.getD undef = .pointer (some ⟨w.heap.size, 1, none⟩) := hp ⟨5, .data⟩ (by simp) rfl _ rfl
      exact G.st_val (v := .string ⟨name.toArray⟩) (w' := wq) (by simp [execOp, go_sem, e41, k0, k1] <;> omega) ⟨_, rfl, Below.refl _ _, rfl⟩
    · refine G.wanted_yes (G.wanted_plain rfl) ?_
      have e40 : a.tmps[40]?.getD undef = .slice A es.length c := hp ⟨4, .data⟩ (by simp) rfl _ rfl
      have e42 : a.tmps[42]?.getD undef = .string ⟨name.toArray⟩ := hp ⟨6, .data⟩ (by simp) rfl _ rfl
      exact G.st_call (f := 39) (args := #[.slice A es.length c, .string ⟨name.toArray⟩]) (by simp [execOp, go_sem, e40, e42]) ((HFI.out wq hT').mono (fun e w' h => ⟨_, h.1, _, rfl, h.2, rfl⟩))
    · refine G.wanted_yes (G.wanted_plain rfl) ?_
      have e43 : a.tmps[43]?.getD undef = .tuple #[.int .i64 (p : Nat), .bool false] := hp ⟨7, .data⟩ (by simp) rfl _ rfl
      exact G.st_val (v := .tuple #[.int .i64 (p : Nat), .bool false]) (w' := wq) (by simp [execOp, go_sem, e43, k0, k1] <;> omega) ⟨_, rfl, Below.refl _ _, rfl⟩
    · refine G.wanted_yes (G.wanted_plain rfl) ?_
      have e35 : a.tmps[35]?.getD undef = .tuple #[.int .i64 (p : Nat), .bool false] := hp ⟨8, .data⟩ (by simp) rfl _ rfl
      exact G.st_val (v := .int .i64 (p : Nat)) (w' := wq) (by simp [execOp, go_sem, e35, k0, k1] <;> omega) ⟨_, rfl, Below.refl _ _, rfl⟩
    · refine G.wanted_yes (G.wanted_plain rfl) ?_
      have e35 : a.tmps[35]?.getD undef = .tuple #[.int .i64 (p : Nat), .bool false] := hp ⟨8, .data⟩ (by simp) rfl _ rfl
      exact G.st_val (v := .bool false) (w' := wq) (by simp [execOp, go_sem, e35, k0, k1] <;> omega) ⟨_, rfl, Below.refl _ _, rfl⟩
    · refine G.wanted_yes (G.wanted_plain rfl) ?_
      have e44 : a.tmps[44]?.getD undef = .int .i64 (p : Nat) := hp ⟨9, .data⟩ (by simp) rfl _ rfl
      exact G.st_val (v := .int .i64 (p : Nat)) (w' := wq) (by simp [execOp, go_sem, e44, k0, k1] <;> omega) ⟨_, rfl, Below.refl _ _, rfl⟩
    · refine G.wanted_yes (G.wanted_plain rfl) ?_
      have e45 : a.tmps[45]?.getD undef = .bool false := hp ⟨10, .data⟩ (by simp) rfl _ rfl
      exact G.st_val (v := .bool false) (w' := wq) (by simp [execOp, go_sem, e45, k0, k1] <;> omega) ⟨_, rfl, Below.refl _ _, rfl⟩
  · intro a wq hT hS hp
    have e36 : G.slot a (some 36) = .pointer (some ⟨sb, 0, none⟩) := hp 0 _ rfl
    have e37 : G.slot a (some 37) = .pointer (some ⟨sb, 0, none⟩) := hp 1 _ rfl
    have e38 : G.slot a (some 38) = .pointer (some ⟨sb, 0, none⟩) := hp 2 _ rfl
    have e39 : G.slot a (some 39) = .pointer (some ⟨sb, 0, none⟩) := hp 3 _ rfl
    have e40 : G.slot a (some 40) = .slice A es.length c := hp 4 _ rfl
    have e41 : G.slot a (some 41) = .pointer (some ⟨w.heap.size, 1, none⟩) := hp 5 _ rfl
    have e42 : G.slot a (some 42) = .string ⟨name.toArray⟩ := hp 6 _ rfl
    have e43 : G.slot a (some 43) = .tuple #[.int .i64 (p : Nat), .bool false] := hp 7 _ rfl
    have e35 : G.slot a (some 35) = .tuple #[.int .i64 (p : Nat), .bool false] := hp 8 _ rfl
    have e44 : G.slot a (some 44) = .int .i64 (p : Nat) := hp 9 _ rfl
    have e45 : G.slot a (some 45) = .bool false := hp 10 _ rfl
    have e5 : G.slot a (some 5) = .int .i64 (p : Nat) := hp 11 _ rfl
    have e6 : G.slot a (some 6) = .bool false := hp 12 _ rfl
    have ha := G.act_of hS
    simp only [List.foldl_cons, List.foldl_nil, Act.put, List.setIfInBounds_toArray, List.set_cons_succ, List.set_cons_zero, e36, e37, e38, e39, e40, e41, e42, e43, e35, e44, e45, e5, e6] at ha
    clear hp hS e36 e37 e38 e39 e40 e41 e42 e43 e35 e44 e45 e5 e6
    subst ha
    have hT2 : Below W.heap.size W wq := below_tr (Below.refl _ _).drew hT
    have HSq := Lib.hid (HSW.out.next hT2)
    have HVq := Lib.hid (HVW.out.below hT2)
    have HBq := Lib.hid (below_tr HB0.out hT2)
    have hxq := heap_bl hT2 HX.out
    have HXq := Lib.hid hxq
    have hszq := hT2.size
    have b0 := cell_of hxq 0
    have b1 := cell_of hxq 1
    have b2 := cell_of hxq 2
    have b3 := cell_of hxq 3
    have b4 := cell_of hxq 4
    simp at b0 b1 b2 b3 b4
    have k0 := cell_of HSq.out.cell 0
    simp at k0
    clear hT hT2 hxq
    go_wp2
    go_ret
    exact ⟨by rw [HD.out]; rfl, _, es, HSq.out, by rw [HD.out], HBq.out.mono hbw⟩

set_option maxRecDepth 100000 in
set_option maxHeartbeats 8000000 in
theorem do_none3 (name new : List UInt8) (at_ : Int) (bytes : List UInt8) (vb : Value) (sb base : Nat) (v : Value) (es : List FE) (w : World) (F : Nat → Prop) (h : StP w sb base v es) (hr : rise (fls es) = true) (hl : es.length ≤ 64) (hc : cost (fls es) ≤ 32768) (hbw : base ≤ w.heap.size)
    (hvb : Bs w F vb bytes) (hs1 : bytes.length ≤ 1048576) (hs2 : name.length ≤ 1048576) (hs3 : new.length ≤ 1048576) (ha1 : -9223372036854775808 ≤ at_) (ha2 : at_ ≤ 9223372036854775807) (hn : nmOk name = true) (hn2 : nmOk new = true) (ht : there (fls es) name = false) :
    Calls Try.prog 35 #[.pointer (some ⟨sb, 0, none⟩), .agg #[.int .i64 3, .string ⟨name.toArray⟩, .string ⟨new.toArray⟩, .int .i64 at_, vb]] w (Done w sb base (fls es) ⟨3, name, new, at_, bytes⟩) := by
  have HVL := Lib.hid hvb
  obtain ⟨A0, c0, rfl, q1, q2, -, -⟩ := hvb.open_
  replace q2 : c0 ≤ 9223372036854775807 := by simpa [maxLen] using q2
  have HS := Lib.hid h
  have HR := Lib.hid hr
  obtain ⟨A, c, rfl, l1, l2⟩ := fs_form h.fs
  have hlow := h.low
  have hltS := h.lt
  clear h hr hvb
  obtain ⟨W, hW⟩ : ∃ W, w.alloc (.cells #[.int .i64 3, .string ⟨name.toArray⟩, .string ⟨new.toArray⟩, .int .i64 at_, .slice A0 bytes.length c0] 37) = W := ⟨_, rfl⟩
  have hB0 : Below w.heap.size w W := by rw [← hW]; exact below_al (Below.refl _ _) _
  have hx : W.heap[w.heap.size]? = some (.cells #[.int .i64 3, .string ⟨name.toArray⟩, .string ⟨new.toArray⟩, .int .i64 at_, .slice A0 bytes.length c0] 37 (0, 0)) := by rw [← hW]; exact heap_alloc_new _ _
  have HSW := Lib.hid (HS.out.next hB0)
  have HVW := Lib.hid (HVL.out.below hB0)
  have HX := Lib.hid hx
  have HB0 := Lib.hid hB0
  have hszW := hB0.size
  have b0 := cell_of hx 0
  have b1 := cell_of hx 1
  have b2 := cell_of hx 2
  have b3 := cell_of hx 3
  have b4 := cell_of hx 4
  simp at b0 b1 b2 b3 b4
  clear hB0 hx
  have HD := Lib.hid (show doF (fls es) ⟨3, name, new, at_, bytes⟩ = (4, fls es) by unfold doF; rw [if_neg (by simp [opBad, hn, hn2]), if_pos ⟨by simp, ht⟩])
  have HN := Lib.hid (name_any name W (by omega))
  rw [hn] at HN
  have HN2 := Lib.hid (name_any new W (by omega))
  rw [hn2] at HN2
  have HFI := Lib.hid (fun (wq : World) (hT' : Below W.heap.size W wq) => ffind_any name (.slice A es.length c) es wq _ (HSW.out.next hT').fs HR.out (by omega))
  rw [ht] at HFI
  obtain ⟨p, hp⟩ : ∃ p, place (fls es) name = p := ⟨_, rfl⟩
  rw [hp] at HFI
  clear hp
  go_enter Try.func35, Try.ntmps35
  go_wp2_with fail
  refine (HN.out).mono ?_
  rintro e w' ⟨rfl, rfl⟩
  go_wp2_with fail
  refine (HN2.out).mono ?_
  rintro e w' ⟨rfl, rfl⟩
  try rw [hW]
  clear hW
  go_wp2
  clear b0 b1 b2 b3 b4
  refine G.region_inv (by kernel_rfl) (by kernel_rfl) (fun w w' => Below w.heap.size w w') (fun _ _ _ h k => below_tr h k) (fun w _ => Below.refl _ _) (Below.refl _ _)
    (G.of [(fun (_ : World) (v : Value) => v = .pointer (some ⟨sb, 0, none⟩)), (fun (_ : World) (v : Value) => v = .pointer (some ⟨sb, 0, none⟩)), (fun (_ : World) (v : Value) => v = .pointer (some ⟨sb, 0, none⟩)), (fun (_ : World) (v : Value) => v = .pointer (some ⟨sb, 0, none⟩)), (fun (_ : World) (v : Value) => v = .slice A es.length c), (fun (_ : World) (v : Value) => v = .pointer (some ⟨w.heap.size, 1, none⟩)), (fun (_ : World) (v : Value) => v = .string ⟨name.toArray⟩), (fun (_ : World) (v : Value) => v = .tuple #[.int .i64 (p : Nat), .bool false]), (fun (_ : World) (v : Value) => v = .tuple #[.int .i64 (p : Nat), .bool false]), (fun (_ : World) (v : Value) => v = .int .i64 (p : Nat)), (fun (_ : World) (v : Value) => v = .bool false), (fun (_ : World) (v : Value) => v = .int .i64 (p : Nat)), (fun (_ : World) (v : Value) => v = .bool false)])
    (G.of_stays _ ?_) ?_ (G.each_ops ?_) ?_
  · exact ⟨(fun w w' v h k => h), (fun w w' v h k => h), (fun w w' v h k => h), (fun w w' v h k => h), (fun w w' v h k => h), (fun w w' v h k => h), (fun w w' v h k => h), (fun w w' v h k => h), (fun w w' v h k => h), (fun w w' v h k => h), (fun w w' v h k => h), (fun w w' v h k => h), (fun w w' v h k => h), trivial⟩
  · intro i o hi hd; exact absurd hd (G.no_none (by kernel_rfl) hi)
  · refine ⟨?_, ?_, ?_, ?_, ?_, ?_, ?_, ?_, ?_, ?_, ?_, ?_, ?_, trivial⟩
    all_goals intro a wq hT hS hp
    all_goals (have hT' : Below W.heap.size W wq := below_tr (Below.refl _ _).drew hT; have k0 := cell_of (HSW.out.next hT').cell 0; have k1 := cell_of (heap_bl hT' HX.out) 1; simp at k0 k1)
    · refine G.wanted_yes (G.wanted_plain rfl) ?_
      have e0 : a.tmps[0]?.getD undef = .pointer (some ⟨sb, 0, none⟩) := hS.at_ 0 rfl
      exact G.st_val (v := .pointer (some ⟨sb, 0, none⟩)) (w' := wq) (by simp [execOp, go_sem, e0, k0, k1] <;> omega) ⟨_, rfl, Below.refl _ _, rfl⟩
    · refine G.wanted_yes (G.wanted_plain rfl) ?_
      have e36 : a.tmps[36]?.getD undef = .pointer (some ⟨sb, 0, none⟩) := hp ⟨0, .data⟩ (by simp) rfl _ rfl
      exact G.st_val (v := .pointer (some ⟨sb, 0, none⟩)) (w' := wq) (by simp [execOp, go_sem, e36, k0, k1] <;> omega) ⟨_, rfl, Below.refl _ _, rfl⟩
    · refine G.wanted_yes (G.wanted_plain rfl) ?_
      have e37 : a.tmps[37]?.getD undef = .pointer (some ⟨sb, 0, none⟩) := hp ⟨1, .data⟩ (by simp) rfl _ rfl
      exact G.st_val (v := .pointer (some ⟨sb, 0, none⟩)) (w' := wq) (by simp [execOp, go_sem, e37, k0, k1] <;> omega) ⟨_, rfl, Below.refl _ _, rfl⟩
    · refine G.wanted_yes (G.wanted_plain rfl) ?_
      have e38 : a.tmps[38]?.getD undef = .pointer (some ⟨sb, 0, none⟩) := hp ⟨2, .data⟩ (by simp) rfl _ rfl
      exact G.st_val (v := .pointer (some ⟨sb, 0, none⟩)) (w' := wq) (by simp [execOp, go_sem, e38, k0, k1] <;> omega) ⟨_, rfl, Below.refl _ _, rfl⟩
    · refine G.wanted_yes (G.wanted_plain rfl) ?_
      have e39 : a.tmps[39]?.getD undef = .pointer (some ⟨sb, 0, none⟩) := hp ⟨3, .data⟩ (by simp) rfl _ rfl
      exact G.st_val (v := .slice A es.length c) (w' := wq) (by simp [execOp, go_sem, e39, k0, k1] <;> omega) ⟨_, rfl, Below.refl _ _, rfl⟩
    · refine G.wanted_yes (G.wanted_plain rfl) ?_
      have e3 : a.tmps[3]?.getD undef = .pointer (some ⟨w.heap.size, 0, none⟩) := hS.at_ 3 rfl
      exact G.st_val (v := .pointer (some ⟨w.heap.size, 1, none⟩)) (w' := wq) (by simp [execOp, go_sem, e3, k0, k1] <;> omega) ⟨_, rfl, Below.refl _ _, rfl⟩
    · refine G.wanted_yes (G.wanted_plain rfl) ?_
      have e41 : a.tmps[41]?.getD undef = .pointer (some ⟨w.heap.size, 1, none⟩) := hp ⟨5, .data⟩ (by simp) rfl _ rfl
      exact G.st_val (v := .string ⟨name.toArray⟩) (w' := wq) (by simp [execOp, go_sem, e41, k0, k1] <;> omega) ⟨_, rfl, Below.refl _ _, rfl⟩
    · refine G.wanted_yes (G.wanted_plain rfl) ?_
      have e40 : a.tmps[40]?.getD undef = .slice A es.length c := hp ⟨4, .data⟩ (by simp) rfl _ rfl
      have e42 : a.tmps[42]?.getD undef = .string ⟨name.toArray⟩ := hp ⟨6, .data⟩ (by simp) rfl _ rfl
      exact G.st_call (f := 39) (args := #[.slice A es.length c, .string ⟨name.toArray⟩]) (by simp [execOp, go_sem, e40, e42]) ((HFI.out wq hT').mono (fun e w' h => ⟨_, h.1, _, rfl, h.2, rfl⟩))
    · refine G.wanted_yes (G.wanted_plain rfl) ?_
      have e43 : a.tmps[43]?.getD undef = .tuple #[.int .i64 (p : Nat), .bool false] := hp ⟨7, .data⟩ (by simp) rfl _ rfl
      exact G.st_val (v := .tuple #[.int .i64 (p : Nat), .bool false]) (w' := wq) (by simp [execOp, go_sem, e43, k0, k1] <;> omega) ⟨_, rfl, Below.refl _ _, rfl⟩
    · refine G.wanted_yes (G.wanted_plain rfl) ?_
      have e35 : a.tmps[35]?.getD undef = .tuple #[.int .i64 (p : Nat), .bool false] := hp ⟨8, .data⟩ (by simp) rfl _ rfl
      exact G.st_val (v := .int .i64 (p : Nat)) (w' := wq) (by simp [execOp, go_sem, e35, k0, k1] <;> omega) ⟨_, rfl, Below.refl _ _, rfl⟩
    · refine G.wanted_yes (G.wanted_plain rfl) ?_
      have e35 : a.tmps[35]?.getD undef = .tuple #[.int .i64 (p : Nat), .bool false] := hp ⟨8, .data⟩ (by simp) rfl _ rfl
      exact G.st_val (v := .bool false) (w' := wq) (by simp [execOp, go_sem, e35, k0, k1] <;> omega) ⟨_, rfl, Below.refl _ _, rfl⟩
    · refine G.wanted_yes (G.wanted_plain rfl) ?_
      have e44 : a.tmps[44]?.getD undef = .int .i64 (p : Nat) := hp ⟨9, .data⟩ (by simp) rfl _ rfl
      exact G.st_val (v := .int .i64 (p : Nat)) (w' := wq) (by simp [execOp, go_sem, e44, k0, k1] <;> omega) ⟨_, rfl, Below.refl _ _, rfl⟩
    · refine G.wanted_yes (G.wanted_plain rfl) ?_
      have e45 : a.tmps[45]?.getD undef = .bool false := hp ⟨10, .data⟩ (by simp) rfl _ rfl
      exact G.st_val (v := .bool false) (w' := wq) (by simp [execOp, go_sem, e45, k0, k1] <;> omega) ⟨_, rfl, Below.refl _ _, rfl⟩
  · intro a wq hT hS hp
    have e36 : G.slot a (some 36) = .pointer (some ⟨sb, 0, none⟩) := hp 0 _ rfl
    have e37 : G.slot a (some 37) = .pointer (some ⟨sb, 0, none⟩) := hp 1 _ rfl
    have e38 : G.slot a (some 38) = .pointer (some ⟨sb, 0, none⟩) := hp 2 _ rfl
    have e39 : G.slot a (some 39) = .pointer (some ⟨sb, 0, none⟩) := hp 3 _ rfl
    have e40 : G.slot a (some 40) = .slice A es.length c := hp 4 _ rfl
    have e41 : G.slot a (some 41) = .pointer (some ⟨w.heap.size, 1, none⟩) := hp 5 _ rfl
    have e42 : G.slot a (some 42) = .string ⟨name.toArray⟩ := hp 6 _ rfl
    have e43 : G.slot a (some 43) = .tuple #[.int .i64 (p : Nat), .bool false] := hp 7 _ rfl
    have e35 : G.slot a (some 35) = .tuple #[.int .i64 (p : Nat), .bool false] := hp 8 _ rfl
    have e44 : G.slot a (some 44) = .int .i64 (p : Nat) := hp 9 _ rfl
    have e45 : G.slot a (some 45) = .bool false := hp 10 _ rfl
    have e5 : G.slot a (some 5) = .int .i64 (p : Nat) := hp 11 _ rfl
    have e6 : G.slot a (some 6) = .bool false := hp 12 _ rfl
    have ha := G.act_of hS
    simp only [List.foldl_cons, List.foldl_nil, Act.put, List.setIfInBounds_toArray, List.set_cons_succ, List.set_cons_zero, e36, e37, e38, e39, e40, e41, e42, e43, e35, e44, e45, e5, e6] at ha
    clear hp hS e36 e37 e38 e39 e40 e41 e42 e43 e35 e44 e45 e5 e6
    subst ha
    have hT2 : Below W.heap.size W wq := below_tr (Below.refl _ _).drew hT
    have HSq := Lib.hid (HSW.out.next hT2)
    have HVq := Lib.hid (HVW.out.below hT2)
    have HBq := Lib.hid (below_tr HB0.out hT2)
    have hxq := heap_bl hT2 HX.out
    have HXq := Lib.hid hxq
    have hszq := hT2.size
    have b0 := cell_of hxq 0
    have b1 := cell_of hxq 1
    have b2 := cell_of hxq 2
    have b3 := cell_of hxq 3
    have b4 := cell_of hxq 4
    simp at b0 b1 b2 b3 b4
    have k0 := cell_of HSq.out.cell 0
    simp at k0
    clear hT hT2 hxq
    go_wp2
    go_ret
    exact ⟨by rw [HD.out]; rfl, _, es, HSq.out, by rw [HD.out], HBq.out.mono hbw⟩

set_option maxRecDepth 100000 in
set_option maxHeartbeats 8000000 in
theorem do_none4 (name new : List UInt8) (at_ : Int) (bytes : List UInt8) (vb : Value) (sb base : Nat) (v : Value) (es : List FE) (w : World) (F : Nat → Prop) (h : StP w sb base v es) (hr : rise (fls es) = true) (hl : es.length ≤ 64) (hc : cost (fls es) ≤ 32768) (hbw : base ≤ w.heap.size)
    (hvb : Bs w F vb bytes) (hs1 : bytes.length ≤ 1048576) (hs2 : name.length ≤ 1048576) (hs3 : new.length ≤ 1048576) (ha1 : -9223372036854775808 ≤ at_) (ha2 : at_ ≤ 9223372036854775807) (hn : nmOk name = true) (ht : there (fls es) name = false) :
    Calls Try.prog 35 #[.pointer (some ⟨sb, 0, none⟩), .agg #[.int .i64 4, .string ⟨name.toArray⟩, .string ⟨new.toArray⟩, .int .i64 at_, vb]] w (Done w sb base (fls es) ⟨4, name, new, at_, bytes⟩) := by
  have HVL := Lib.hid hvb
  obtain ⟨A0, c0, rfl, q1, q2, -, -⟩ := hvb.open_
  replace q2 : c0 ≤ 9223372036854775807 := by simpa [maxLen] using q2
  have HS := Lib.hid h
  have HR := Lib.hid hr
  obtain ⟨A, c, rfl, l1, l2⟩ := fs_form h.fs
  have hlow := h.low
  have hltS := h.lt
  clear h hr hvb
  obtain ⟨W, hW⟩ : ∃ W, w.alloc (.cells #[.int .i64 4, .string ⟨name.toArray⟩, .string ⟨new.toArray⟩, .int .i64 at_, .slice A0 bytes.length c0] 37) = W := ⟨_, rfl⟩
  have hB0 : Below w.heap.size w W := by rw [← hW]; exact below_al (Below.refl _ _) _
  have hx : W.heap[w.heap.size]? = some (.cells #[.int .i64 4, .string ⟨name.toArray⟩, .string ⟨new.toArray⟩, .int .i64 at_, .slice A0 bytes.length c0] 37 (0, 0)) := by rw [← hW]; exact heap_alloc_new _ _
  have HSW := Lib.hid (HS.out.next hB0)
  have HVW := Lib.hid (HVL.out.below hB0)
  have HX := Lib.hid hx
  have HB0 := Lib.hid hB0
  have hszW := hB0.size
  have b0 := cell_of hx 0
  have b1 := cell_of hx 1
  have b2 := cell_of hx 2
  have b3 := cell_of hx 3
  have b4 := cell_of hx 4
  simp at b0 b1 b2 b3 b4
  clear hB0 hx
  have HD := Lib.hid (show doF (fls es) ⟨4, name, new, at_, bytes⟩ = (4, fls es) by unfold doF; rw [if_neg (by simp [opBad, hn]), if_pos ⟨by simp, ht⟩])
  have HN := Lib.hid (name_any name W (by omega))
  rw [hn] at HN
  have HFI := Lib.hid (fun (wq : World) (hT' : Below W.heap.size W wq) => ffind_any name (.slice A es.length c) es wq _ (HSW.out.next hT').fs HR.out (by omega))
  rw [ht] at HFI
  obtain ⟨p, hp⟩ : ∃ p, place (fls es) name = p := ⟨_, rfl⟩
  rw [hp] at HFI
  clear hp
  go_enter Try.func35, Try.ntmps35
  go_wp2_with fail
  refine (HN.out).mono ?_
  rintro e w' ⟨rfl, rfl⟩
  try rw [hW]
  clear hW
  go_wp2
  clear b0 b1 b2 b3 b4
  refine G.region_inv (by kernel_rfl) (by kernel_rfl) (fun w w' => Below w.heap.size w w') (fun _ _ _ h k => below_tr h k) (fun w _ => Below.refl _ _) (Below.refl _ _)
    (G.of [(fun (_ : World) (v : Value) => v = .pointer (some ⟨sb, 0, none⟩)), (fun (_ : World) (v : Value) => v = .pointer (some ⟨sb, 0, none⟩)), (fun (_ : World) (v : Value) => v = .pointer (some ⟨sb, 0, none⟩)), (fun (_ : World) (v : Value) => v = .pointer (some ⟨sb, 0, none⟩)), (fun (_ : World) (v : Value) => v = .slice A es.length c), (fun (_ : World) (v : Value) => v = .pointer (some ⟨w.heap.size, 1, none⟩)), (fun (_ : World) (v : Value) => v = .string ⟨name.toArray⟩), (fun (_ : World) (v : Value) => v = .tuple #[.int .i64 (p : Nat), .bool false]), (fun (_ : World) (v : Value) => v = .tuple #[.int .i64 (p : Nat), .bool false]), (fun (_ : World) (v : Value) => v = .int .i64 (p : Nat)), (fun (_ : World) (v : Value) => v = .bool false), (fun (_ : World) (v : Value) => v = .int .i64 (p : Nat)), (fun (_ : World) (v : Value) => v = .bool false)])
    (G.of_stays _ ?_) ?_ (G.each_ops ?_) ?_
  · exact ⟨(fun w w' v h k => h), (fun w w' v h k => h), (fun w w' v h k => h), (fun w w' v h k => h), (fun w w' v h k => h), (fun w w' v h k => h), (fun w w' v h k => h), (fun w w' v h k => h), (fun w w' v h k => h), (fun w w' v h k => h), (fun w w' v h k => h), (fun w w' v h k => h), (fun w w' v h k => h), trivial⟩
  · intro i o hi hd; exact absurd hd (G.no_none (by kernel_rfl) hi)
  · refine ⟨?_, ?_, ?_, ?_, ?_, ?_, ?_, ?_, ?_, ?_, ?_, ?_, ?_, trivial⟩
    all_goals intro a wq hT hS hp
    all_goals (have hT' : Below W.heap.size W wq := below_tr (Below.refl _ _).drew hT; have k0 := cell_of (HSW.out.next hT').cell 0; have k1 := cell_of (heap_bl hT' HX.out) 1; simp at k0 k1)
    · refine G.wanted_yes (G.wanted_plain rfl) ?_
      have e0 : a.tmps[0]?.getD undef = .pointer (some ⟨sb, 0, none⟩) := hS.at_ 0 rfl
      exact G.st_val (v := .pointer (some ⟨sb, 0, none⟩)) (w' := wq) (by simp [execOp, go_sem, e0, k0, k1] <;> omega) ⟨_, rfl, Below.refl _ _, rfl⟩
    · refine G.wanted_yes (G.wanted_plain rfl) ?_
      have e36 : a.tmps[36]?.getD undef = .pointer (some ⟨sb, 0, none⟩) := hp ⟨0, .data⟩ (by simp) rfl _ rfl
      exact G.st_val (v := .pointer (some ⟨sb, 0, none⟩)) (w' := wq) (by simp [execOp, go_sem, e36, k0, k1] <;> omega) ⟨_, rfl, Below.refl _ _, rfl⟩
    · refine G.wanted_yes (G.wanted_plain rfl) ?_
      have e37 : a.tmps[37]?.getD undef = .pointer (some ⟨sb, 0, none⟩) := hp ⟨1, .data⟩ (by simp) rfl _ rfl
      exact G.st_val (v := .pointer (some ⟨sb, 0, none⟩)) (w' := wq) (by simp [execOp, go_sem, e37, k0, k1] <;> omega) ⟨_, rfl, Below.refl _ _, rfl⟩
    · refine G.wanted_yes (G.wanted_plain rfl) ?_
      have e38 : a.tmps[38]?.getD undef = .pointer (some ⟨sb, 0, none⟩) := hp ⟨2, .data⟩ (by simp) rfl _ rfl
      exact G.st_val (v := .pointer (some ⟨sb, 0, none⟩)) (w' := wq) (by simp [execOp, go_sem, e38, k0, k1] <;> omega) ⟨_, rfl, Below.refl _ _, rfl⟩
    · refine G.wanted_yes (G.wanted_plain rfl) ?_
      have e39 : a.tmps[39]?.getD undef = .pointer (some ⟨sb, 0, none⟩) := hp ⟨3, .data⟩ (by simp) rfl _ rfl
      exact G.st_val (v := .slice A es.length c) (w' := wq) (by simp [execOp, go_sem, e39, k0, k1] <;> omega) ⟨_, rfl, Below.refl _ _, rfl⟩
    · refine G.wanted_yes (G.wanted_plain rfl) ?_
      have e3 : a.tmps[3]?.getD undef = .pointer (some ⟨w.heap.size, 0, none⟩) := hS.at_ 3 rfl
      exact G.st_val (v := .pointer (some ⟨w.heap.size, 1, none⟩)) (w' := wq) (by simp [execOp, go_sem, e3, k0, k1] <;> omega) ⟨_, rfl, Below.refl _ _, rfl⟩
    · refine G.wanted_yes (G.wanted_plain rfl) ?_
      have e41 : a.tmps[41]?.getD undef = .pointer (some ⟨w.heap.size, 1, none⟩) := hp ⟨5, .data⟩ (by simp) rfl _ rfl
      exact G.st_val (v := .string ⟨name.toArray⟩) (w' := wq) (by simp [execOp, go_sem, e41, k0, k1] <;> omega) ⟨_, rfl, Below.refl _ _, rfl⟩
    · refine G.wanted_yes (G.wanted_plain rfl) ?_
      have e40 : a.tmps[40]?.getD undef = .slice A es.length c := hp ⟨4, .data⟩ (by simp) rfl _ rfl
      have e42 : a.tmps[42]?.getD undef = .string ⟨name.toArray⟩ := hp ⟨6, .data⟩ (by simp) rfl _ rfl
      exact G.st_call (f := 39) (args := #[.slice A es.length c, .string ⟨name.toArray⟩]) (by simp [execOp, go_sem, e40, e42]) ((HFI.out wq hT').mono (fun e w' h => ⟨_, h.1, _, rfl, h.2, rfl⟩))
    · refine G.wanted_yes (G.wanted_plain rfl) ?_
      have e43 : a.tmps[43]?.getD undef = .tuple #[.int .i64 (p : Nat), .bool false] := hp ⟨7, .data⟩ (by simp) rfl _ rfl
      exact G.st_val (v := .tuple #[.int .i64 (p : Nat), .bool false]) (w' := wq) (by simp [execOp, go_sem, e43, k0, k1] <;> omega) ⟨_, rfl, Below.refl _ _, rfl⟩
    · refine G.wanted_yes (G.wanted_plain rfl) ?_
      have e35 : a.tmps[35]?.getD undef = .tuple #[.int .i64 (p : Nat), .bool false] := hp ⟨8, .data⟩ (by simp) rfl _ rfl
      exact G.st_val (v := .int .i64 (p : Nat)) (w' := wq) (by simp [execOp, go_sem, e35, k0, k1] <;> omega) ⟨_, rfl, Below.refl _ _, rfl⟩
    · refine G.wanted_yes (G.wanted_plain rfl) ?_
      have e35 : a.tmps[35]?.getD undef = .tuple #[.int .i64 (p : Nat), .bool false] := hp ⟨8, .data⟩ (by simp) rfl _ rfl
      exact G.st_val (v := .bool false) (w' := wq) (by simp [execOp, go_sem, e35, k0, k1] <;> omega) ⟨_, rfl, Below.refl _ _, rfl⟩
    · refine G.wanted_yes (G.wanted_plain rfl) ?_
      have e44 : a.tmps[44]?.getD undef = .int .i64 (p : Nat) := hp ⟨9, .data⟩ (by simp) rfl _ rfl
      exact G.st_val (v := .int .i64 (p : Nat)) (w' := wq) (by simp [execOp, go_sem, e44, k0, k1] <;> omega) ⟨_, rfl, Below.refl _ _, rfl⟩
    · refine G.wanted_yes (G.wanted_plain rfl) ?_
      have e45 : a.tmps[45]?.getD undef = .bool false := hp ⟨10, .data⟩ (by simp) rfl _ rfl
      exact G.st_val (v := .bool false) (w' := wq) (by simp [execOp, go_sem, e45, k0, k1] <;> omega) ⟨_, rfl, Below.refl _ _, rfl⟩
  · intro a wq hT hS hp
    have e36 : G.slot a (some 36) = .pointer (some ⟨sb, 0, none⟩) := hp 0 _ rfl
    have e37 : G.slot a (some 37) = .pointer (some ⟨sb, 0, none⟩) := hp 1 _ rfl
    have e38 : G.slot a (some 38) = .pointer (some ⟨sb, 0, none⟩) := hp 2 _ rfl
    have e39 : G.slot a (some 39) = .pointer (some ⟨sb, 0, none⟩) := hp 3 _ rfl
    have e40 : G.slot a (some 40) = .slice A es.length c := hp 4 _ rfl
    have e41 : G.slot a (some 41) = .pointer (some ⟨w.heap.size, 1, none⟩) := hp 5 _ rfl
    have e42 : G.slot a (some 42) = .string ⟨name.toArray⟩ := hp 6 _ rfl
    have e43 : G.slot a (some 43) = .tuple #[.int .i64 (p : Nat), .bool false] := hp 7 _ rfl
    have e35 : G.slot a (some 35) = .tuple #[.int .i64 (p : Nat), .bool false] := hp 8 _ rfl
    have e44 : G.slot a (some 44) = .int .i64 (p : Nat) := hp 9 _ rfl
    have e45 : G.slot a (some 45) = .bool false := hp 10 _ rfl
    have e5 : G.slot a (some 5) = .int .i64 (p : Nat) := hp 11 _ rfl
    have e6 : G.slot a (some 6) = .bool false := hp 12 _ rfl
    have ha := G.act_of hS
    simp only [List.foldl_cons, List.foldl_nil, Act.put, List.setIfInBounds_toArray, List.set_cons_succ, List.set_cons_zero, e36, e37, e38, e39, e40, e41, e42, e43, e35, e44, e45, e5, e6] at ha
    clear hp hS e36 e37 e38 e39 e40 e41 e42 e43 e35 e44 e45 e5 e6
    subst ha
    have hT2 : Below W.heap.size W wq := below_tr (Below.refl _ _).drew hT
    have HSq := Lib.hid (HSW.out.next hT2)
    have HVq := Lib.hid (HVW.out.below hT2)
    have HBq := Lib.hid (below_tr HB0.out hT2)
    have hxq := heap_bl hT2 HX.out
    have HXq := Lib.hid hxq
    have hszq := hT2.size
    have b0 := cell_of hxq 0
    have b1 := cell_of hxq 1
    have b2 := cell_of hxq 2
    have b3 := cell_of hxq 3
    have b4 := cell_of hxq 4
    simp at b0 b1 b2 b3 b4
    have k0 := cell_of HSq.out.cell 0
    simp at k0
    clear hT hT2 hxq
    go_wp2
    go_ret
    exact ⟨by rw [HD.out]; rfl, _, es, HSq.out, by rw [HD.out], HBq.out.mono hbw⟩

set_option maxRecDepth 100000 in
set_option maxHeartbeats 8000000 in
theorem do_4 (name new : List UInt8) (at_ : Int) (bytes : List UInt8) (vb : Value) (sb base : Nat) (v : Value) (es : List FE) (w : World) (F : Nat → Prop) (h : StP w sb base v es) (hr : rise (fls es) = true) (hl : es.length ≤ 64) (hc : cost (fls es) ≤ 32768) (hbw : base ≤ w.heap.size)
    (hvb : Bs w F vb bytes) (hs1 : bytes.length ≤ 1048576) (hs2 : name.length ≤ 1048576) (hs3 : new.length ≤ 1048576) (ha1 : -9223372036854775808 ≤ at_) (ha2 : at_ ≤ 9223372036854775807) (hn : nmOk name = true) (ht : there (fls es) name = true) :
    Calls Try.prog 35 #[.pointer (some ⟨sb, 0, none⟩), .agg #[.int .i64 4, .string ⟨name.toArray⟩, .string ⟨new.toArray⟩, .int .i64 at_, vb]] w (Done w sb base (fls es) ⟨4, name, new, at_, bytes⟩) := by
  have HVL := Lib.hid hvb
  obtain ⟨A0, c0, rfl, q1, q2, -, -⟩ := hvb.open_
  replace q2 : c0 ≤ 9223372036854775807 := by simpa [maxLen] using q2
  have HS := Lib.hid h
  have HR := Lib.hid hr
  obtain ⟨A, c, rfl, l1, l2⟩ := fs_form h.fs
  have hlow := h.low
  have hltS := h.lt
  clear h hr hvb
  obtain ⟨W, hW⟩ : ∃ W, w.alloc (.cells #[.int .i64 4, .string ⟨name.toArray⟩, .string ⟨new.toArray⟩, .int .i64 at_, .slice A0 bytes.length c0] 37) = W := ⟨_, rfl⟩
  have hB0 : Below w.heap.size w W := by rw [← hW]; exact below_al (Below.refl _ _) _
  have hx : W.heap[w.heap.size]? = some (.cells #[.int .i64 4, .string ⟨name.toArray⟩, .string ⟨new.toArray⟩, .int .i64 at_, .slice A0 bytes.length c0] 37 (0, 0)) := by rw [← hW]; exact heap_alloc_new _ _
  have HSW := Lib.hid (HS.out.next hB0)
  have HVW := Lib.hid (HVL.out.below hB0)
  have HX := Lib.hid hx
  have HB0 := Lib.hid hB0
  have hszW := hB0.size
  have b0 := cell_of hx 0
  have b1 := cell_of hx 1
  have b2 := cell_of hx 2
  have b3 := cell_of hx 3
  have b4 := cell_of hx 4
  simp at b0 b1 b2 b3 b4
  clear hB0 hx
  obtain ⟨LZ, hLZ⟩ : ∃ l, delF (fls es) name = l := ⟨_, rfl⟩
  have HD := Lib.hid (show doF (fls es) ⟨4, name, new, at_, bytes⟩ = fin LZ by unfold doF; rw [if_neg (by simp [opBad, hn]), if_neg (by simp [ht]), if_neg (by simp), if_neg (by simp), if_neg (by simp), hLZ])
  have HCB := Lib.hid (show cost LZ ≤ 100000000 by rw [← hLZ]; have := cost_del (fls es) name; omega)
  have HN := Lib.hid (name_any name W (by omega))
  rw [hn] at HN
  have HFI := Lib.hid (fun (wq : World) (hT' : Below W.heap.size W wq) => ffind_any name (.slice A es.length c) es wq _ (HSW.out.next hT').fs HR.out (by omega))
  rw [ht] at HFI
  have hpl0 := there_lt ht
  rw [fls_len] at hpl0
  obtain ⟨p, hp, hpl, hfb⟩ : ∃ p, place (fls es) name = p ∧ ∃ hl : p < es.length, getFB (fls es) name = es[p].1.bytes := ⟨_, rfl, hpl0, getFB_at hpl0⟩
  rw [hp] at HFI
  clear hp hpl0
  clear hfb
  go_enter Try.func35, Try.ntmps35
  go_wp2_with fail
  refine (HN.out).mono ?_
  rintro e w' ⟨rfl, rfl⟩
  try rw [hW]
  clear hW
  go_wp2
  clear b0 b1 b2 b3 b4
  refine G.region_inv (by kernel_rfl) (by kernel_rfl) (fun w w' => Below w.heap.size w w') (fun _ _ _ h k => below_tr h k) (fun w _ => Below.refl _ _) (Below.refl _ _)
    (G.of [(fun (_ : World) (v : Value) => v = .pointer (some ⟨sb, 0, none⟩)), (fun (_ : World) (v : Value) => v = .pointer (some ⟨sb, 0, none⟩)), (fun (_ : World) (v : Value) => v = .pointer (some ⟨sb, 0, none⟩)), (fun (_ : World) (v : Value) => v = .pointer (some ⟨sb, 0, none⟩)), (fun (_ : World) (v : Value) => v = .slice A es.length c), (fun (_ : World) (v : Value) => v = .pointer (some ⟨w.heap.size, 1, none⟩)), (fun (_ : World) (v : Value) => v = .string ⟨name.toArray⟩), (fun (_ : World) (v : Value) => v = .tuple #[.int .i64 (p : Nat), .bool true]), (fun (_ : World) (v : Value) => v = .tuple #[.int .i64 (p : Nat), .bool true]), (fun (_ : World) (v : Value) => v = .int .i64 (p : Nat)), (fun (_ : World) (v : Value) => v = .bool true), (fun (_ : World) (v : Value) => v = .int .i64 (p : Nat)), (fun (_ : World) (v : Value) => v = .bool true)])
    (G.of_stays _ ?_) ?_ (G.each_ops ?_) ?_
  · exact ⟨(fun w w' v h k => h), (fun w w' v h k => h), (fun w w' v h k => h), (fun w w' v h k => h), (fun w w' v h k => h), (fun w w' v h k => h), (fun w w' v h k => h), (fun w w' v h k => h), (fun w w' v h k => h), (fun w w' v h k => h), (fun w w' v h k => h), (fun w w' v h k => h), (fun w w' v h k => h), trivial⟩
  · intro i o hi hd; exact absurd hd (G.no_none (by kernel_rfl) hi)
  · refine ⟨?_, ?_, ?_, ?_, ?_, ?_, ?_, ?_, ?_, ?_, ?_, ?_, ?_, trivial⟩
    all_goals intro a wq hT hS hp
    all_goals (have hT' : Below W.heap.size W wq := below_tr (Below.refl _ _).drew hT; have k0 := cell_of (HSW.out.next hT').cell 0; have k1 := cell_of (heap_bl hT' HX.out) 1; simp at k0 k1)
    · refine G.wanted_yes (G.wanted_plain rfl) ?_
      have e0 : a.tmps[0]?.getD undef = .pointer (some ⟨sb, 0, none⟩) := hS.at_ 0 rfl
      exact G.st_val (v := .pointer (some ⟨sb, 0, none⟩)) (w' := wq) (by simp [execOp, go_sem, e0, k0, k1] <;> omega) ⟨_, rfl, Below.refl _ _, rfl⟩
    · refine G.wanted_yes (G.wanted_plain rfl) ?_
      have e36 : a.tmps[36]?.getD undef = .pointer (some ⟨sb, 0, none⟩) := hp ⟨0, .data⟩ (by simp) rfl _ rfl
      exact G.st_val (v := .pointer (some ⟨sb, 0, none⟩)) (w' := wq) (by simp [execOp, go_sem, e36, k0, k1] <;> omega) ⟨_, rfl, Below.refl _ _, rfl⟩
    · refine G.wanted_yes (G.wanted_plain rfl) ?_
      have e37 : a.tmps[37]?.getD undef = .pointer (some ⟨sb, 0, none⟩) := hp ⟨1, .data⟩ (by simp) rfl _ rfl
      exact G.st_val (v := .pointer (some ⟨sb, 0, none⟩)) (w' := wq) (by simp [execOp, go_sem, e37, k0, k1] <;> omega) ⟨_, rfl, Below.refl _ _, rfl⟩
    · refine G.wanted_yes (G.wanted_plain rfl) ?_
      have e38 : a.tmps[38]?.getD undef = .pointer (some ⟨sb, 0, none⟩) := hp ⟨2, .data⟩ (by simp) rfl _ rfl
      exact G.st_val (v := .pointer (some ⟨sb, 0, none⟩)) (w' := wq) (by simp [execOp, go_sem, e38, k0, k1] <;> omega) ⟨_, rfl, Below.refl _ _, rfl⟩
    · refine G.wanted_yes (G.wanted_plain rfl) ?_
      have e39 : a.tmps[39]?.getD undef = .pointer (some ⟨sb, 0, none⟩) := hp ⟨3, .data⟩ (by simp) rfl _ rfl
      exact G.st_val (v := .slice A es.length c) (w' := wq) (by simp [execOp, go_sem, e39, k0, k1] <;> omega) ⟨_, rfl, Below.refl _ _, rfl⟩
    · refine G.wanted_yes (G.wanted_plain rfl) ?_
      have e3 : a.tmps[3]?.getD undef = .pointer (some ⟨w.heap.size, 0, none⟩) := hS.at_ 3 rfl
      exact G.st_val (v := .pointer (some ⟨w.heap.size, 1, none⟩)) (w' := wq) (by simp [execOp, go_sem, e3, k0, k1] <;> omega) ⟨_, rfl, Below.refl _ _, rfl⟩
    · refine G.wanted_yes (G.wanted_plain rfl) ?_
      have e41 : a.tmps[41]?.getD undef = .pointer (some ⟨w.heap.size, 1, none⟩) := hp ⟨5, .data⟩ (by simp) rfl _ rfl
      exact G.st_val (v := .string ⟨name.toArray⟩) (w' := wq) (by simp [execOp, go_sem, e41, k0, k1] <;> omega) ⟨_, rfl, Below.refl _ _, rfl⟩
    · refine G.wanted_yes (G.wanted_plain rfl) ?_
      have e40 : a.tmps[40]?.getD undef = .slice A es.length c := hp ⟨4, .data⟩ (by simp) rfl _ rfl
      have e42 : a.tmps[42]?.getD undef = .string ⟨name.toArray⟩ := hp ⟨6, .data⟩ (by simp) rfl _ rfl
      exact G.st_call (f := 39) (args := #[.slice A es.length c, .string ⟨name.toArray⟩]) (by simp [execOp, go_sem, e40, e42]) ((HFI.out wq hT').mono (fun e w' h => ⟨_, h.1, _, rfl, h.2, rfl⟩))
    · refine G.wanted_yes (G.wanted_plain rfl) ?_
      have e43 : a.tmps[43]?.getD undef = .tuple #[.int .i64 (p : Nat), .bool true] := hp ⟨7, .data⟩ (by simp) rfl _ rfl
      exact G.st_val (v := .tuple #[.int .i64 (p : Nat), .bool true]) (w' := wq) (by simp [execOp, go_sem, e43, k0, k1] <;> omega) ⟨_, rfl, Below.refl _ _, rfl⟩
    · refine G.wanted_yes (G.wanted_plain rfl) ?_
      have e35 : a.tmps[35]?.getD undef = .tuple #[.int .i64 (p : Nat), .bool true] := hp ⟨8, .data⟩ (by simp) rfl _ rfl
      exact G.st_val (v := .int .i64 (p : Nat)) (w' := wq) (by simp [execOp, go_sem, e35, k0, k1] <;> omega) ⟨_, rfl, Below.refl _ _, rfl⟩
    · refine G.wanted_yes (G.wanted_plain rfl) ?_
      have e35 : a.tmps[35]?.getD undef = .tuple #[.int .i64 (p : Nat), .bool true] := hp ⟨8, .data⟩ (by simp) rfl _ rfl
      exact G.st_val (v := .bool true) (w' := wq) (by simp [execOp, go_sem, e35, k0, k1] <;> omega) ⟨_, rfl, Below.refl _ _, rfl⟩
    · refine G.wanted_yes (G.wanted_plain rfl) ?_
      have e44 : a.tmps[44]?.getD undef = .int .i64 (p : Nat) := hp ⟨9, .data⟩ (by simp) rfl _ rfl
      exact G.st_val (v := .int .i64 (p : Nat)) (w' := wq) (by simp [execOp, go_sem, e44, k0, k1] <;> omega) ⟨_, rfl, Below.refl _ _, rfl⟩
    · refine G.wanted_yes (G.wanted_plain rfl) ?_
      have e45 : a.tmps[45]?.getD undef = .bool true := hp ⟨10, .data⟩ (by simp) rfl _ rfl
      exact G.st_val (v := .bool true) (w' := wq) (by simp [execOp, go_sem, e45, k0, k1] <;> omega) ⟨_, rfl, Below.refl _ _, rfl⟩
  · intro a wq hT hS hp
    have e36 : G.slot a (some 36) = .pointer (some ⟨sb, 0, none⟩) := hp 0 _ rfl
    have e37 : G.slot a (some 37) = .pointer (some ⟨sb, 0, none⟩) := hp 1 _ rfl
    have e38 : G.slot a (some 38) = .pointer (some ⟨sb, 0, none⟩) := hp 2 _ rfl
    have e39 : G.slot a (some 39) = .pointer (some ⟨sb, 0, none⟩) := hp 3 _ rfl
    have e40 : G.slot a (some 40) = .slice A es.length c := hp 4 _ rfl
    have e41 : G.slot a (some 41) = .pointer (some ⟨w.heap.size, 1, none⟩) := hp 5 _ rfl
    have e42 : G.slot a (some 42) = .string ⟨name.toArray⟩ := hp 6 _ rfl
    have e43 : G.slot a (some 43) = .tuple #[.int .i64 (p : Nat), .bool true] := hp 7 _ rfl
    have e35 : G.slot a (some 35) = .tuple #[.int .i64 (p : Nat), .bool true] := hp 8 _ rfl
    have e44 : G.slot a (some 44) = .int .i64 (p : Nat) := hp 9 _ rfl
    have e45 : G.slot a (some 45) = .bool true := hp 10 _ rfl
    have e5 : G.slot a (some 5) = .int .i64 (p : Nat) := hp 11 _ rfl
    have e6 : G.slot a (some 6) = .bool true := hp 12 _ rfl
    have ha := G.act_of hS
    simp only [List.foldl_cons, List.foldl_nil, Act.put, List.setIfInBounds_toArray, List.set_cons_succ, List.set_cons_zero, e36, e37, e38, e39, e40, e41, e42, e43, e35, e44, e45, e5, e6] at ha
    clear hp hS e36 e37 e38 e39 e40 e41 e42 e43 e35 e44 e45 e5 e6
    subst ha
    have hT2 : Below W.heap.size W wq := below_tr (Below.refl _ _).drew hT
    have HSq := Lib.hid (HSW.out.next hT2)
    have HVq := Lib.hid (HVW.out.below hT2)
    have HBq := Lib.hid (below_tr HB0.out hT2)
    have hxq := heap_bl hT2 HX.out
    have HXq := Lib.hid hxq
    have hszq := hT2.size
    have b0 := cell_of hxq 0
    have b1 := cell_of hxq 1
    have b2 := cell_of hxq 2
    have b3 := cell_of hxq 3
    have b4 := cell_of hxq 4
    simp at b0 b1 b2 b3 b4
    have k0 := cell_of HSq.out.cell 0
    simp at k0
    clear hT hT2 hxq
    have HT := Lib.hid (fdrop_any name sb base _ es wq HSq.out HR.out (by omega) (by omega))
    rw [hLZ] at HT
    clear hLZ k0
    go_wp2_with fail
    refine (HT.out).mono ?_
    rintro e wz ⟨rfl, vz, ez, hz, hfz, hbz, huz⟩
    have HZ := Lib.hid hz
    have HFZ := Lib.hid hfz
    have HBZ := Lib.hid ((HBq.out.mono hbw).trans hbz)
    have HBZ2 := Lib.hid hbz.size
    have HBW := Lib.hid ((by omega : w.heap.size ≤ wq.heap.size))
    clear hz hfz hbz huz
    have z0 := cell_of HZ.out.cell 0
    simp at z0
    obtain ⟨Az, cz, rfl, n1, n2⟩ := fs_form HZ.out.fs
    have hez : ez.length = LZ.length := by rw [← HFZ.out, fls_len]
    have HEZ := Lib.hid hez
    by_cases h64 : 64 < ez.length
    · have HE := Lib.hid (HD.out.trans (fin_no (.inl (by omega))))
      clear hez
      go_wp2
      go_ret
      exact ⟨by rw [HE.out]; rfl, _, ez, HZ.out, by rw [HE.out]; exact HFZ.out, HBZ.out⟩
    · have hle : LZ.length ≤ 64 := by omega
      have HLE := Lib.hid hle
      clear hez hle
      go_wp2_with fail
      refine (cost_any _ ez _ _ HZ.out.fs (by rw [HFZ.out]; have := HCB.out; omega)).mono ?_
      rintro e wf ⟨rfl, hbf⟩
      have HZf := Lib.hid (HZ.out.next hbf)
      have HBf := Lib.hid (HBZ.out.trans (hbf.mono (Nat.le_trans hbw (Nat.le_trans HBW.out HBZ2.out))))
      rw [HFZ.out]
      clear hbf
      by_cases hcz : 32768 < cost LZ
      · have HE := Lib.hid (HD.out.trans (fin_no (.inr hcz)))
        go_wp2
        go_ret
        exact ⟨by rw [HE.out]; rfl, _, ez, HZf.out, by rw [HE.out]; exact HFZ.out, HBf.out⟩
      · have HE := Lib.hid (HD.out.trans (fin_yes HLE.out (by omega)))
        go_wp2
        go_ret
        exact ⟨by rw [HE.out]; rfl, _, ez, HZf.out, by rw [HE.out]; exact HFZ.out, HBf.out⟩

set_option maxRecDepth 100000 in
set_option maxHeartbeats 8000000 in
theorem do_1 (name new : List UInt8) (at_ : Int) (bytes : List UInt8) (vb : Value) (sb base : Nat) (v : Value) (es : List FE) (w : World) (F : Nat → Prop) (h : StP w sb base v es) (hr : rise (fls es) = true) (hl : es.length ≤ 64) (hc : cost (fls es) ≤ 32768) (hbw : base ≤ w.heap.size)
    (hvb : Bs w F vb bytes) (hs1 : bytes.length ≤ 1048576) (hs2 : name.length ≤ 1048576) (hs3 : new.length ≤ 1048576) (ha1 : -9223372036854775808 ≤ at_) (ha2 : at_ ≤ 9223372036854775807) (hn : nmOk name = true) (th : Bool) (ht : there (fls es) name = th) :
    Calls Try.prog 35 #[.pointer (some ⟨sb, 0, none⟩), .agg #[.int .i64 1, .string ⟨name.toArray⟩, .string ⟨new.toArray⟩, .int .i64 at_, vb]] w (Done w sb base (fls es) ⟨1, name, new, at_, bytes⟩) := by
  have HVL := Lib.hid hvb
  obtain ⟨A0, c0, rfl, q1, q2, -, -⟩ := hvb.open_
  replace q2 : c0 ≤ 9223372036854775807 := by simpa [maxLen] using q2
  have HS := Lib.hid h
  have HR := Lib.hid hr
  obtain ⟨A, c, rfl, l1, l2⟩ := fs_form h.fs
  have hlow := h.low
  have hltS := h.lt
  clear h hr hvb
  obtain ⟨W, hW⟩ : ∃ W, w.alloc (.cells #[.int .i64 1, .string ⟨name.toArray⟩, .string ⟨new.toArray⟩, .int .i64 at_, .slice A0 bytes.length c0] 37) = W := ⟨_, rfl⟩
  have hB0 : Below w.heap.size w W := by rw [← hW]; exact below_al (Below.refl _ _) _
  have hx : W.heap[w.heap.size]? = some (.cells #[.int .i64 1, .string ⟨name.toArray⟩, .string ⟨new.toArray⟩, .int .i64 at_, .slice A0 bytes.length c0] 37 (0, 0)) := by rw [← hW]; exact heap_alloc_new _ _
  have HSW := Lib.hid (HS.out.next hB0)
  have HVW := Lib.hid (HVL.out.below hB0)
  have HX := Lib.hid hx
  have HB0 := Lib.hid hB0
  have hszW := hB0.size
  have b0 := cell_of hx 0
  have b1 := cell_of hx 1
  have b2 := cell_of hx 2
  have b3 := cell_of hx 3
  have b4 := cell_of hx 4
  simp at b0 b1 b2 b3 b4
  clear hB0 hx
  have HN := Lib.hid (name_any name W (by omega))
  rw [hn] at HN
  have HFI := Lib.hid (fun (wq : World) (hT' : Below W.heap.size W wq) => ffind_any name (.slice A es.length c) es wq _ (HSW.out.next hT').fs HR.out (by omega))
  rw [ht] at HFI
  obtain ⟨p, hp⟩ : ∃ p, place (fls es) name = p := ⟨_, rfl⟩
  rw [hp] at HFI
  clear hp
  by_cases hbig : 4096 < bytes.length
  · have HD := Lib.hid (show doF (fls es) ⟨1, name, new, at_, bytes⟩ = (3, fls es) by unfold doF; rw [if_neg (by simp [opBad, hn]), if_neg (by simp), if_pos rfl, if_pos hbig])
    go_enter Try.func35, Try.ntmps35
    go_wp2_with fail
    refine (HN.out).mono ?_
    rintro e w' ⟨rfl, rfl⟩
    try rw [hW]
    clear hW
    go_wp2
    clear b0 b1 b2 b3 b4
    refine G.region_inv (by kernel_rfl) (by kernel_rfl) (fun w w' => Below w.heap.size w w') (fun _ _ _ h k => below_tr h k) (fun w _ => Below.refl _ _) (Below.refl _ _)
      (G.of [(fun (_ : World) (v : Value) => v = .pointer (some ⟨sb, 0, none⟩)), (fun (_ : World) (v : Value) => v = .pointer (some ⟨sb, 0, none⟩)), (fun (_ : World) (v : Value) => v = .pointer (some ⟨sb, 0, none⟩)), (fun (_ : World) (v : Value) => v = .pointer (some ⟨sb, 0, none⟩)), (fun (_ : World) (v : Value) => v = .slice A es.length c), (fun (_ : World) (v : Value) => v = .pointer (some ⟨w.heap.size, 1, none⟩)), (fun (_ : World) (v : Value) => v = .string ⟨name.toArray⟩), (fun (_ : World) (v : Value) => v = .tuple #[.int .i64 (p : Nat), .bool th]), (fun (_ : World) (v : Value) => v = .tuple #[.int .i64 (p : Nat), .bool th]), (fun (_ : World) (v : Value) => v = .int .i64 (p : Nat)), (fun (_ : World) (v : Value) => v = .bool th), (fun (_ : World) (v : Value) => v = .int .i64 (p : Nat)), (fun (_ : World) (v : Value) => v = .bool th)])
      (G.of_stays _ ?_) ?_ (G.each_ops ?_) ?_
    · exact ⟨(fun w w' v h k => h), (fun w w' v h k => h), (fun w w' v h k => h), (fun w w' v h k => h), (fun w w' v h k => h), (fun w w' v h k => h), (fun w w' v h k => h), (fun w w' v h k => h), (fun w w' v h k => h), (fun w w' v h k => h), (fun w w' v h k => h), (fun w w' v h k => h), (fun w w' v h k => h), trivial⟩
    · intro i o hi hd; exact absurd hd (G.no_none (by kernel_rfl) hi)
    · refine ⟨?_, ?_, ?_, ?_, ?_, ?_, ?_, ?_, ?_, ?_, ?_, ?_, ?_, trivial⟩
      all_goals intro a wq hT hS hp
      all_goals (have hT' : Below W.heap.size W wq := below_tr (Below.refl _ _).drew hT; have k0 := cell_of (HSW.out.next hT').cell 0; have k1 := cell_of (heap_bl hT' HX.out) 1; simp at k0 k1)
      · refine G.wanted_yes (G.wanted_plain rfl) ?_
        have e0 : a.tmps[0]?.getD undef = .pointer (some ⟨sb, 0, none⟩) := hS.at_ 0 rfl
        exact G.st_val (v := .pointer (some ⟨sb, 0, none⟩)) (w' := wq) (by simp [execOp, go_sem, e0, k0, k1] <;> omega) ⟨_, rfl, Below.refl _ _, rfl⟩
      · refine G.wanted_yes (G.wanted_plain rfl) ?_
        have e36 : a.tmps[36]?.getD undef = .pointer (some ⟨sb, 0, none⟩) := hp ⟨0, .data⟩ (by simp) rfl _ rfl
        exact G.st_val (v := .pointer (some ⟨sb, 0, none⟩)) (w' := wq) (by simp [execOp, go_sem, e36, k0, k1] <;> omega) ⟨_, rfl, Below.refl _ _, rfl⟩
      · refine G.wanted_yes (G.wanted_plain rfl) ?_
        have e37 : a.tmps[37]?.getD undef = .pointer (some ⟨sb, 0, none⟩) := hp ⟨1, .data⟩ (by simp) rfl _ rfl
        exact G.st_val (v := .pointer (some ⟨sb, 0, none⟩)) (w' := wq) (by simp [execOp, go_sem, e37, k0, k1] <;> omega) ⟨_, rfl, Below.refl _ _, rfl⟩
      · refine G.wanted_yes (G.wanted_plain rfl) ?_
        have e38 : a.tmps[38]?.getD undef = .pointer (some ⟨sb, 0, none⟩) := hp ⟨2, .data⟩ (by simp) rfl _ rfl
        exact G.st_val (v := .pointer (some ⟨sb, 0, none⟩)) (w' := wq) (by simp [execOp, go_sem, e38, k0, k1] <;> omega) ⟨_, rfl, Below.refl _ _, rfl⟩
      · refine G.wanted_yes (G.wanted_plain rfl) ?_
        have e39 : a.tmps[39]?.getD undef = .pointer (some ⟨sb, 0, none⟩) := hp ⟨3, .data⟩ (by simp) rfl _ rfl
        exact G.st_val (v := .slice A es.length c) (w' := wq) (by simp [execOp, go_sem, e39, k0, k1] <;> omega) ⟨_, rfl, Below.refl _ _, rfl⟩
      · refine G.wanted_yes (G.wanted_plain rfl) ?_
        have e3 : a.tmps[3]?.getD undef = .pointer (some ⟨w.heap.size, 0, none⟩) := hS.at_ 3 rfl
        exact G.st_val (v := .pointer (some ⟨w.heap.size, 1, none⟩)) (w' := wq) (by simp [execOp, go_sem, e3, k0, k1] <;> omega) ⟨_, rfl, Below.refl _ _, rfl⟩
      · refine G.wanted_yes (G.wanted_plain rfl) ?_
        have e41 : a.tmps[41]?.getD undef = .pointer (some ⟨w.heap.size, 1, none⟩) := hp ⟨5, .data⟩ (by simp) rfl _ rfl
        exact G.st_val (v := .string ⟨name.toArray⟩) (w' := wq) (by simp [execOp, go_sem, e41, k0, k1] <;> omega) ⟨_, rfl, Below.refl _ _, rfl⟩
      · refine G.wanted_yes (G.wanted_plain rfl) ?_
        have e40 : a.tmps[40]?.getD undef = .slice A es.length c := hp ⟨4, .data⟩ (by simp) rfl _ rfl
        have e42 : a.tmps[42]?.getD undef = .string ⟨name.toArray⟩ := hp ⟨6, .data⟩ (by simp) rfl _ rfl
        exact G.st_call (f := 39) (args := #[.slice A es.length c, .string ⟨name.toArray⟩]) (by simp [execOp, go_sem, e40, e42]) ((HFI.out wq hT').mono (fun e w' h => ⟨_, h.1, _, rfl, h.2, rfl⟩))
      · refine G.wanted_yes (G.wanted_plain rfl) ?_
        have e43 : a.tmps[43]?.getD undef = .tuple #[.int .i64 (p : Nat), .bool th] := hp ⟨7, .data⟩ (by simp) rfl _ rfl
        exact G.st_val (v := .tuple #[.int .i64 (p : Nat), .bool th]) (w' := wq) (by simp [execOp, go_sem, e43, k0, k1] <;> omega) ⟨_, rfl, Below.refl _ _, rfl⟩
      · refine G.wanted_yes (G.wanted_plain rfl) ?_
        have e35 : a.tmps[35]?.getD undef = .tuple #[.int .i64 (p : Nat), .bool th] := hp ⟨8, .data⟩ (by simp) rfl _ rfl
        exact G.st_val (v := .int .i64 (p : Nat)) (w' := wq) (by simp [execOp, go_sem, e35, k0, k1] <;> omega) ⟨_, rfl, Below.refl _ _, rfl⟩
      · refine G.wanted_yes (G.wanted_plain rfl) ?_
        have e35 : a.tmps[35]?.getD undef = .tuple #[.int .i64 (p : Nat), .bool th] := hp ⟨8, .data⟩ (by simp) rfl _ rfl
        exact G.st_val (v := .bool th) (w' := wq) (by simp [execOp, go_sem, e35, k0, k1] <;> omega) ⟨_, rfl, Below.refl _ _, rfl⟩
      · refine G.wanted_yes (G.wanted_plain rfl) ?_
        have e44 : a.tmps[44]?.getD undef = .int .i64 (p : Nat) := hp ⟨9, .data⟩ (by simp) rfl _ rfl
        exact G.st_val (v := .int .i64 (p : Nat)) (w' := wq) (by simp [execOp, go_sem, e44, k0, k1] <;> omega) ⟨_, rfl, Below.refl _ _, rfl⟩
      · refine G.wanted_yes (G.wanted_plain rfl) ?_
        have e45 : a.tmps[45]?.getD undef = .bool th := hp ⟨10, .data⟩ (by simp) rfl _ rfl
        exact G.st_val (v := .bool th) (w' := wq) (by simp [execOp, go_sem, e45, k0, k1] <;> omega) ⟨_, rfl, Below.refl _ _, rfl⟩
    · intro a wq hT hS hp
      have e36 : G.slot a (some 36) = .pointer (some ⟨sb, 0, none⟩) := hp 0 _ rfl
      have e37 : G.slot a (some 37) = .pointer (some ⟨sb, 0, none⟩) := hp 1 _ rfl
      have e38 : G.slot a (some 38) = .pointer (some ⟨sb, 0, none⟩) := hp 2 _ rfl
      have e39 : G.slot a (some 39) = .pointer (some ⟨sb, 0, none⟩) := hp 3 _ rfl
      have e40 : G.slot a (some 40) = .slice A es.length c := hp 4 _ rfl
      have e41 : G.slot a (some 41) = .pointer (some ⟨w.heap.size, 1, none⟩) := hp 5 _ rfl
      have e42 : G.slot a (some 42) = .string ⟨name.toArray⟩ := hp 6 _ rfl
      have e43 : G.slot a (some 43) = .tuple #[.int .i64 (p : Nat), .bool th] := hp 7 _ rfl
      have e35 : G.slot a (some 35) = .tuple #[.int .i64 (p : Nat), .bool th] := hp 8 _ rfl
      have e44 : G.slot a (some 44) = .int .i64 (p : Nat) := hp 9 _ rfl
      have e45 : G.slot a (some 45) = .bool th := hp 10 _ rfl
      have e5 : G.slot a (some 5) = .int .i64 (p : Nat) := hp 11 _ rfl
      have e6 : G.slot a (some 6) = .bool th := hp 12 _ rfl
      have ha := G.act_of hS
      simp only [List.foldl_cons, List.foldl_nil, Act.put, List.setIfInBounds_toArray, List.set_cons_succ, List.set_cons_zero, e36, e37, e38, e39, e40, e41, e42, e43, e35, e44, e45, e5, e6] at ha
      clear hp hS e36 e37 e38 e39 e40 e41 e42 e43 e35 e44 e45 e5 e6
      subst ha
      have hT2 : Below W.heap.size W wq := below_tr (Below.refl _ _).drew hT
      have HSq := Lib.hid (HSW.out.next hT2)
      have HVq := Lib.hid (HVW.out.below hT2)
      have HBq := Lib.hid (below_tr HB0.out hT2)
      have hxq := heap_bl hT2 HX.out
      have HXq := Lib.hid hxq
      have hszq := hT2.size
      have b0 := cell_of hxq 0
      have b1 := cell_of hxq 1
      have b2 := cell_of hxq 2
      have b3 := cell_of hxq 3
      have b4 := cell_of hxq 4
      simp at b0 b1 b2 b3 b4
      have k0 := cell_of HSq.out.cell 0
      simp at k0
      clear hT hT2 hxq
      go_wp2
      go_ret
      exact ⟨by rw [HD.out]; rfl, _, es, HSq.out, by rw [HD.out], HBq.out.mono hbw⟩
  · obtain ⟨LZ, hLZ⟩ : ∃ l, putF (fls es) name bytes = l := ⟨_, rfl⟩
    have HD := Lib.hid (show doF (fls es) ⟨1, name, new, at_, bytes⟩ = fin LZ by unfold doF; rw [if_neg (by simp [opBad, hn]), if_neg (by simp), if_pos rfl, if_neg hbig, hLZ])
    have HCB := Lib.hid (show cost LZ ≤ 100000000 by rw [← hLZ]; have := cost_put (fls es) name bytes; omega)
    go_enter Try.func35, Try.ntmps35
    go_wp2_with fail
    refine (HN.out).mono ?_
    rintro e w' ⟨rfl, rfl⟩
    try rw [hW]
    clear hW
    go_wp2
    clear b0 b1 b2 b3 b4
    refine G.region_inv (by kernel_rfl) (by kernel_rfl) (fun w w' => Below w.heap.size w w') (fun _ _ _ h k => below_tr h k) (fun w _ => Below.refl _ _) (Below.refl _ _)
      (G.of [(fun (_ : World) (v : Value) => v = .pointer (some ⟨sb, 0, none⟩)), (fun (_ : World) (v : Value) => v = .pointer (some ⟨sb, 0, none⟩)), (fun (_ : World) (v : Value) => v = .pointer (some ⟨sb, 0, none⟩)), (fun (_ : World) (v : Value) => v = .pointer (some ⟨sb, 0, none⟩)), (fun (_ : World) (v : Value) => v = .slice A es.length c), (fun (_ : World) (v : Value) => v = .pointer (some ⟨w.heap.size, 1, none⟩)), (fun (_ : World) (v : Value) => v = .string ⟨name.toArray⟩), (fun (_ : World) (v : Value) => v = .tuple #[.int .i64 (p : Nat), .bool th]), (fun (_ : World) (v : Value) => v = .tuple #[.int .i64 (p : Nat), .bool th]), (fun (_ : World) (v : Value) => v = .int .i64 (p : Nat)), (fun (_ : World) (v : Value) => v = .bool th), (fun (_ : World) (v : Value) => v = .int .i64 (p : Nat)), (fun (_ : World) (v : Value) => v = .bool th)])
      (G.of_stays _ ?_) ?_ (G.each_ops ?_) ?_
    · exact ⟨(fun w w' v h k => h), (fun w w' v h k => h), (fun w w' v h k => h), (fun w w' v h k => h), (fun w w' v h k => h), (fun w w' v h k => h), (fun w w' v h k => h), (fun w w' v h k => h), (fun w w' v h k => h), (fun w w' v h k => h), (fun w w' v h k => h), (fun w w' v h k => h), (fun w w' v h k => h), trivial⟩
    · intro i o hi hd; exact absurd hd (G.no_none (by kernel_rfl) hi)
    · refine ⟨?_, ?_, ?_, ?_, ?_, ?_, ?_, ?_, ?_, ?_, ?_, ?_, ?_, trivial⟩
      all_goals intro a wq hT hS hp
      all_goals (have hT' : Below W.heap.size W wq := below_tr (Below.refl _ _).drew hT; have k0 := cell_of (HSW.out.next hT').cell 0; have k1 := cell_of (heap_bl hT' HX.out) 1; simp at k0 k1)
      · refine G.wanted_yes (G.wanted_plain rfl) ?_
        have e0 : a.tmps[0]?.getD undef = .pointer (some ⟨sb, 0, none⟩) := hS.at_ 0 rfl
        exact G.st_val (v := .pointer (some ⟨sb, 0, none⟩)) (w' := wq) (by simp [execOp, go_sem, e0, k0, k1] <;> omega) ⟨_, rfl, Below.refl _ _, rfl⟩
      · refine G.wanted_yes (G.wanted_plain rfl) ?_
        have e36 : a.tmps[36]?.getD undef = .pointer (some ⟨sb, 0, none⟩) := hp ⟨0, .data⟩ (by simp) rfl _ rfl
        exact G.st_val (v := .pointer (some ⟨sb, 0, none⟩)) (w' := wq) (by simp [execOp, go_sem, e36, k0, k1] <;> omega) ⟨_, rfl, Below.refl _ _, rfl⟩
      · refine G.wanted_yes (G.wanted_plain rfl) ?_
        have e37 : a.tmps[37]?.getD undef = .pointer (some ⟨sb, 0, none⟩) := hp ⟨1, .data⟩ (by simp) rfl _ rfl
        exact G.st_val (v := .pointer (some ⟨sb, 0, none⟩)) (w' := wq) (by simp [execOp, go_sem, e37, k0, k1] <;> omega) ⟨_, rfl, Below.refl _ _, rfl⟩
      · refine G.wanted_yes (G.wanted_plain rfl) ?_
        have e38 : a.tmps[38]?.getD undef = .pointer (some ⟨sb, 0, none⟩) := hp ⟨2, .data⟩ (by simp) rfl _ rfl
        exact G.st_val (v := .pointer (some ⟨sb, 0, none⟩)) (w' := wq) (by simp [execOp, go_sem, e38, k0, k1] <;> omega) ⟨_, rfl, Below.refl _ _, rfl⟩
      · refine G.wanted_yes (G.wanted_plain rfl) ?_
        have e39 : a.tmps[39]?.getD undef = .pointer (some ⟨sb, 0, none⟩) := hp ⟨3, .data⟩ (by simp) rfl _ rfl
        exact G.st_val (v := .slice A es.length c) (w' := wq) (by simp [execOp, go_sem, e39, k0, k1] <;> omega) ⟨_, rfl, Below.refl _ _, rfl⟩
      · refine G.wanted_yes (G.wanted_plain rfl) ?_
        have e3 : a.tmps[3]?.getD undef = .pointer (some ⟨w.heap.size, 0, none⟩) := hS.at_ 3 rfl
        exact G.st_val (v := .pointer (some ⟨w.heap.size, 1, none⟩)) (w' := wq) (by simp [execOp, go_sem, e3, k0, k1] <;> omega) ⟨_, rfl, Below.refl _ _, rfl⟩
      · refine G.wanted_yes (G.wanted_plain rfl) ?_
        have e41 : a.tmps[41]?.getD undef = .pointer (some ⟨w.heap.size, 1, none⟩) := hp ⟨5, .data⟩ (by simp) rfl _ rfl
        exact G.st_val (v := .string ⟨name.toArray⟩) (w' := wq) (by simp [execOp, go_sem, e41, k0, k1] <;> omega) ⟨_, rfl, Below.refl _ _, rfl⟩
      · refine G.wanted_yes (G.wanted_plain rfl) ?_
        have e40 : a.tmps[40]?.getD undef = .slice A es.length c := hp ⟨4, .data⟩ (by simp) rfl _ rfl
        have e42 : a.tmps[42]?.getD undef = .string ⟨name.toArray⟩ := hp ⟨6, .data⟩ (by simp) rfl _ rfl
        exact G.st_call (f := 39) (args := #[.slice A es.length c, .string ⟨name.toArray⟩]) (by simp [execOp, go_sem, e40, e42]) ((HFI.out wq hT').mono (fun e w' h => ⟨_, h.1, _, rfl, h.2, rfl⟩))
      · refine G.wanted_yes (G.wanted_plain rfl) ?_
        have e43 : a.tmps[43]?.getD undef = .tuple #[.int .i64 (p : Nat), .bool th] := hp ⟨7, .data⟩ (by simp) rfl _ rfl
        exact G.st_val (v := .tuple #[.int .i64 (p : Nat), .bool th]) (w' := wq) (by simp [execOp, go_sem, e43, k0, k1] <;> omega) ⟨_, rfl, Below.refl _ _, rfl⟩
      · refine G.wanted_yes (G.wanted_plain rfl) ?_
        have e35 : a.tmps[35]?.getD undef = .tuple #[.int .i64 (p : Nat), .bool th] := hp ⟨8, .data⟩ (by simp) rfl _ rfl
        exact G.st_val (v := .int .i64 (p : Nat)) (w' := wq) (by simp [execOp, go_sem, e35, k0, k1] <;> omega) ⟨_, rfl, Below.refl _ _, rfl⟩
      · refine G.wanted_yes (G.wanted_plain rfl) ?_
        have e35 : a.tmps[35]?.getD undef = .tuple #[.int .i64 (p : Nat), .bool th] := hp ⟨8, .data⟩ (by simp) rfl _ rfl
        exact G.st_val (v := .bool th) (w' := wq) (by simp [execOp, go_sem, e35, k0, k1] <;> omega) ⟨_, rfl, Below.refl _ _, rfl⟩
      · refine G.wanted_yes (G.wanted_plain rfl) ?_
        have e44 : a.tmps[44]?.getD undef = .int .i64 (p : Nat) := hp ⟨9, .data⟩ (by simp) rfl _ rfl
        exact G.st_val (v := .int .i64 (p : Nat)) (w' := wq) (by simp [execOp, go_sem, e44, k0, k1] <;> omega) ⟨_, rfl, Below.refl _ _, rfl⟩
      · refine G.wanted_yes (G.wanted_plain rfl) ?_
        have e45 : a.tmps[45]?.getD undef = .bool th := hp ⟨10, .data⟩ (by simp) rfl _ rfl
        exact G.st_val (v := .bool th) (w' := wq) (by simp [execOp, go_sem, e45, k0, k1] <;> omega) ⟨_, rfl, Below.refl _ _, rfl⟩
    · intro a wq hT hS hp
      have e36 : G.slot a (some 36) = .pointer (some ⟨sb, 0, none⟩) := hp 0 _ rfl
      have e37 : G.slot a (some 37) = .pointer (some ⟨sb, 0, none⟩) := hp 1 _ rfl
      have e38 : G.slot a (some 38) = .pointer (some ⟨sb, 0, none⟩) := hp 2 _ rfl
      have e39 : G.slot a (some 39) = .pointer (some ⟨sb, 0, none⟩) := hp 3 _ rfl
      have e40 : G.slot a (some 40) = .slice A es.length c := hp 4 _ rfl
      have e41 : G.slot a (some 41) = .pointer (some ⟨w.heap.size, 1, none⟩) := hp 5 _ rfl
      have e42 : G.slot a (some 42) = .string ⟨name.toArray⟩ := hp 6 _ rfl
      have e43 : G.slot a (some 43) = .tuple #[.int .i64 (p : Nat), .bool th] := hp 7 _ rfl
      have e35 : G.slot a (some 35) = .tuple #[.int .i64 (p : Nat), .bool th] := hp 8 _ rfl
      have e44 : G.slot a (some 44) = .int .i64 (p : Nat) := hp 9 _ rfl
      have e45 : G.slot a (some 45) = .bool th := hp 10 _ rfl
      have e5 : G.slot a (some 5) = .int .i64 (p : Nat) := hp 11 _ rfl
      have e6 : G.slot a (some 6) = .bool th := hp 12 _ rfl
      have ha := G.act_of hS
      simp only [List.foldl_cons, List.foldl_nil, Act.put, List.setIfInBounds_toArray, List.set_cons_succ, List.set_cons_zero, e36, e37, e38, e39, e40, e41, e42, e43, e35, e44, e45, e5, e6] at ha
      clear hp hS e36 e37 e38 e39 e40 e41 e42 e43 e35 e44 e45 e5 e6
      subst ha
      have hT2 : Below W.heap.size W wq := below_tr (Below.refl _ _).drew hT
      have HSq := Lib.hid (HSW.out.next hT2)
      have HVq := Lib.hid (HVW.out.below hT2)
      have HBq := Lib.hid (below_tr HB0.out hT2)
      have hxq := heap_bl hT2 HX.out
      have HXq := Lib.hid hxq
      have hszq := hT2.size
      have b0 := cell_of hxq 0
      have b1 := cell_of hxq 1
      have b2 := cell_of hxq 2
      have b3 := cell_of hxq 3
      have b4 := cell_of hxq 4
      simp at b0 b1 b2 b3 b4
      have k0 := cell_of HSq.out.cell 0
      simp at k0
      clear hT hT2 hxq
      have HT := Lib.hid (fput_any name bytes sb base _ _ es wq _ HSq.out HR.out (by omega) (by omega) HVq.out (by omega))
      rw [hLZ] at HT
      clear hLZ k0
      go_wp2_with fail
      refine (HT.out).mono ?_
      rintro e wz ⟨rfl, vz, ez, hz, hfz, hbz, huz⟩
      have HZ := Lib.hid hz
      have HFZ := Lib.hid hfz
      have HBZ := Lib.hid ((HBq.out.mono hbw).trans hbz)
      have HBZ2 := Lib.hid hbz.size
      have HBW := Lib.hid ((by omega : w.heap.size ≤ wq.heap.size))
      clear hz hfz hbz huz
      have z0 := cell_of HZ.out.cell 0
      simp at z0
      obtain ⟨Az, cz, rfl, n1, n2⟩ := fs_form HZ.out.fs
      have hez : ez.length = LZ.length := by rw [← HFZ.out, fls_len]
      have HEZ := Lib.hid hez
      by_cases h64 : 64 < ez.length
      · have HE := Lib.hid (HD.out.trans (fin_no (.inl (by omega))))
        clear hez
        go_wp2
        go_ret
        exact ⟨by rw [HE.out]; rfl, _, ez, HZ.out, by rw [HE.out]; exact HFZ.out, HBZ.out⟩
      · have hle : LZ.length ≤ 64 := by omega
        have HLE := Lib.hid hle
        clear hez hle
        go_wp2_with fail
        refine (cost_any _ ez _ _ HZ.out.fs (by rw [HFZ.out]; have := HCB.out; omega)).mono ?_
        rintro e wf ⟨rfl, hbf⟩
        have HZf := Lib.hid (HZ.out.next hbf)
        have HBf := Lib.hid (HBZ.out.trans (hbf.mono (Nat.le_trans hbw (Nat.le_trans HBW.out HBZ2.out))))
        rw [HFZ.out]
        clear hbf
        by_cases hcz : 32768 < cost LZ
        · have HE := Lib.hid (HD.out.trans (fin_no (.inr hcz)))
          go_wp2
          go_ret
          exact ⟨by rw [HE.out]; rfl, _, ez, HZf.out, by rw [HE.out]; exact HFZ.out, HBf.out⟩
        · have HE := Lib.hid (HD.out.trans (fin_yes HLE.out (by omega)))
          go_wp2
          go_ret
          exact ⟨by rw [HE.out]; rfl, _, ez, HZf.out, by rw [HE.out]; exact HFZ.out, HBf.out⟩

set_option maxRecDepth 100000 in
set_option maxHeartbeats 8000000 in
theorem do_3 (name new : List UInt8) (at_ : Int) (bytes : List UInt8) (vb : Value) (sb base : Nat) (v : Value) (es : List FE) (w : World) (F : Nat → Prop) (h : StP w sb base v es) (hr : rise (fls es) = true) (hl : es.length ≤ 64) (hc : cost (fls es) ≤ 32768) (hbw : base ≤ w.heap.size)
    (hvb : Bs w F vb bytes) (hs1 : bytes.length ≤ 1048576) (hs2 : name.length ≤ 1048576) (hs3 : new.length ≤ 1048576) (ha1 : -9223372036854775808 ≤ at_) (ha2 : at_ ≤ 9223372036854775807) (hn : nmOk name = true) (hn2 : nmOk new = true) (ht : there (fls es) name = true) :
    Calls Try.prog 35 #[.pointer (some ⟨sb, 0, none⟩), .agg #[.int .i64 3, .string ⟨name.toArray⟩, .string ⟨new.toArray⟩, .int .i64 at_, vb]] w (Done w sb base (fls es) ⟨3, name, new, at_, bytes⟩) := by
  have HVL := Lib.hid hvb
  obtain ⟨A0, c0, rfl, q1, q2, -, -⟩ := hvb.open_
  replace q2 : c0 ≤ 9223372036854775807 := by simpa [maxLen] using q2
  have HS := Lib.hid h
  have HR := Lib.hid hr
  obtain ⟨A, c, rfl, l1, l2⟩ := fs_form h.fs
  have hlow := h.low
  have hltS := h.lt
  clear h hr hvb
  obtain ⟨W, hW⟩ : ∃ W, w.alloc (.cells #[.int .i64 3, .string ⟨name.toArray⟩, .string ⟨new.toArray⟩, .int .i64 at_, .slice A0 bytes.length c0] 37) = W := ⟨_, rfl⟩
  have hB0 : Below w.heap.size w W := by rw [← hW]; exact below_al (Below.refl _ _) _
  have hx : W.heap[w.heap.size]? = some (.cells #[.int .i64 3, .string ⟨name.toArray⟩, .string ⟨new.toArray⟩, .int .i64 at_, .slice A0 bytes.length c0] 37 (0, 0)) := by rw [← hW]; exact heap_alloc_new _ _
  have HSW := Lib.hid (HS.out.next hB0)
  have HVW := Lib.hid (HVL.out.below hB0)
  have HX := Lib.hid hx
  have HB0 := Lib.hid hB0
  have hszW := hB0.size
  have b0 := cell_of hx 0
  have b1 := cell_of hx 1
  have b2 := cell_of hx 2
  have b3 := cell_of hx 3
  have b4 := cell_of hx 4
  simp at b0 b1 b2 b3 b4
  clear hB0 hx
  have HN := Lib.hid (name_any name W (by omega))
  rw [hn] at HN
  have HN2 := Lib.hid (name_any new W (by omega))
  rw [hn2] at HN2
  obtain ⟨LZ, hLZ⟩ : ∃ l, putF (delF (fls es) name) new (getFB (fls es) name) = l := ⟨_, rfl⟩
  have HD := Lib.hid (show doF (fls es) ⟨3, name, new, at_, bytes⟩ = fin LZ by unfold doF; rw [if_neg (by simp [opBad, hn, hn2]), if_neg (by simp [ht]), if_neg (by simp), if_neg (by simp), if_pos rfl, hLZ])
  have HFI := Lib.hid (fun (wq : World) (hT' : Below W.heap.size W wq) => ffind_any name (.slice A es.length c) es wq _ (HSW.out.next hT').fs HR.out (by omega))
  rw [ht] at HFI
  have hpl0 := there_lt ht
  rw [fls_len] at hpl0
  obtain ⟨p, hp, hpl, hfb⟩ : ∃ p, place (fls es) name = p ∧ ∃ hl : p < es.length, getFB (fls es) name = es[p].1.bytes := ⟨_, rfl, hpl0, getFB_at hpl0⟩
  rw [hp] at HFI
  clear hp hpl0
  go_enter Try.func35, Try.ntmps35
  go_wp2_with fail
  refine (HN.out).mono ?_
  rintro e w' ⟨rfl, rfl⟩
  go_wp2_with fail
  refine (HN2.out).mono ?_
  rintro e w' ⟨rfl, rfl⟩
  try rw [hW]
  clear hW
  go_wp2
  clear b0 b1 b2 b3 b4
  refine G.region_inv (by kernel_rfl) (by kernel_rfl) (fun w w' => Below w.heap.size w w') (fun _ _ _ h k => below_tr h k) (fun w _ => Below.refl _ _) (Below.refl _ _)
    (G.of [(fun (_ : World) (v : Value) => v = .pointer (some ⟨sb, 0, none⟩)), (fun (_ : World) (v : Value) => v = .pointer (some ⟨sb, 0, none⟩)), (fun (_ : World) (v : Value) => v = .pointer (some ⟨sb, 0, none⟩)), (fun (_ : World) (v : Value) => v = .pointer (some ⟨sb, 0, none⟩)), (fun (_ : World) (v : Value) => v = .slice A es.length c), (fun (_ : World) (v : Value) => v = .pointer (some ⟨w.heap.size, 1, none⟩)), (fun (_ : World) (v : Value) => v = .string ⟨name.toArray⟩), (fun (_ : World) (v : Value) => v = .tuple #[.int .i64 (p : Nat), .bool true]), (fun (_ : World) (v : Value) => v = .tuple #[.int .i64 (p : Nat), .bool true]), (fun (_ : World) (v : Value) => v = .int .i64 (p : Nat)), (fun (_ : World) (v : Value) => v = .bool true), (fun (_ : World) (v : Value) => v = .int .i64 (p : Nat)), (fun (_ : World) (v : Value) => v = .bool true)])
    (G.of_stays _ ?_) ?_ (G.each_ops ?_) ?_
  · exact ⟨(fun w w' v h k => h), (fun w w' v h k => h), (fun w w' v h k => h), (fun w w' v h k => h), (fun w w' v h k => h), (fun w w' v h k => h), (fun w w' v h k => h), (fun w w' v h k => h), (fun w w' v h k => h), (fun w w' v h k => h), (fun w w' v h k => h), (fun w w' v h k => h), (fun w w' v h k => h), trivial⟩
  · intro i o hi hd; exact absurd hd (G.no_none (by kernel_rfl) hi)
  · refine ⟨?_, ?_, ?_, ?_, ?_, ?_, ?_, ?_, ?_, ?_, ?_, ?_, ?_, trivial⟩
    all_goals intro a wq hT hS hp
    all_goals (have hT' : Below W.heap.size W wq := below_tr (Below.refl _ _).drew hT; have k0 := cell_of (HSW.out.next hT').cell 0; have k1 := cell_of (heap_bl hT' HX.out) 1; simp at k0 k1)
    · refine G.wanted_yes (G.wanted_plain rfl) ?_
      have e0 : a.tmps[0]?.getD undef = .pointer (some ⟨sb, 0, none⟩) := hS.at_ 0 rfl
      exact G.st_val (v := .pointer (some ⟨sb, 0, none⟩)) (w' := wq) (by simp [execOp, go_sem, e0, k0, k1] <;> omega) ⟨_, rfl, Below.refl _ _, rfl⟩
    · refine G.wanted_yes (G.wanted_plain rfl) ?_
      have e36 : a.tmps[36]?.getD undef = .pointer (some ⟨sb, 0, none⟩) := hp ⟨0, .data⟩ (by simp) rfl _ rfl
      exact G.st_val (v := .pointer (some ⟨sb, 0, none⟩)) (w' := wq) (by simp [execOp, go_sem, e36, k0, k1] <;> omega) ⟨_, rfl, Below.refl _ _, rfl⟩
    · refine G.wanted_yes (G.wanted_plain rfl) ?_
      have e37 : a.tmps[37]?.getD undef = .pointer (some ⟨sb, 0, none⟩) := hp ⟨1, .data⟩ (by simp) rfl _ rfl
      exact G.st_val (v := .pointer (some ⟨sb, 0, none⟩)) (w' := wq) (by simp [execOp, go_sem, e37, k0, k1] <;> omega) ⟨_, rfl, Below.refl _ _, rfl⟩
    · refine G.wanted_yes (G.wanted_plain rfl) ?_
      have e38 : a.tmps[38]?.getD undef = .pointer (some ⟨sb, 0, none⟩) := hp ⟨2, .data⟩ (by simp) rfl _ rfl
      exact G.st_val (v := .pointer (some ⟨sb, 0, none⟩)) (w' := wq) (by simp [execOp, go_sem, e38, k0, k1] <;> omega) ⟨_, rfl, Below.refl _ _, rfl⟩
    · refine G.wanted_yes (G.wanted_plain rfl) ?_
      have e39 : a.tmps[39]?.getD undef = .pointer (some ⟨sb, 0, none⟩) := hp ⟨3, .data⟩ (by simp) rfl _ rfl
      exact G.st_val (v := .slice A es.length c) (w' := wq) (by simp [execOp, go_sem, e39, k0, k1] <;> omega) ⟨_, rfl, Below.refl _ _, rfl⟩
    · refine G.wanted_yes (G.wanted_plain rfl) ?_
      have e3 : a.tmps[3]?.getD undef = .pointer (some ⟨w.heap.size, 0, none⟩) := hS.at_ 3 rfl
      exact G.st_val (v := .pointer (some ⟨w.heap.size, 1, none⟩)) (w' := wq) (by simp [execOp, go_sem, e3, k0, k1] <;> omega) ⟨_, rfl, Below.refl _ _, rfl⟩
    · refine G.wanted_yes (G.wanted_plain rfl) ?_
      have e41 : a.tmps[41]?.getD undef = .pointer (some ⟨w.heap.size, 1, none⟩) := hp ⟨5, .data⟩ (by simp) rfl _ rfl
      exact G.st_val (v := .string ⟨name.toArray⟩) (w' := wq) (by simp [execOp, go_sem, e41, k0, k1] <;> omega) ⟨_, rfl, Below.refl _ _, rfl⟩
    · refine G.wanted_yes (G.wanted_plain rfl) ?_
      have e40 : a.tmps[40]?.getD undef = .slice A es.length c := hp ⟨4, .data⟩ (by simp) rfl _ rfl
      have e42 : a.tmps[42]?.getD undef = .string ⟨name.toArray⟩ := hp ⟨6, .data⟩ (by simp) rfl _ rfl
      exact G.st_call (f := 39) (args := #[.slice A es.length c, .string ⟨name.toArray⟩]) (by simp [execOp, go_sem, e40, e42]) ((HFI.out wq hT').mono (fun e w' h => ⟨_, h.1, _, rfl, h.2, rfl⟩))
    · refine G.wanted_yes (G.wanted_plain rfl) ?_
      have e43 : a.tmps[43]?.getD undef = .tuple #[.int .i64 (p : Nat), .bool true] := hp ⟨7, .data⟩ (by simp) rfl _ rfl
      exact G.st_val (v := .tuple #[.int .i64 (p : Nat), .bool true]) (w' := wq) (by simp [execOp, go_sem, e43, k0, k1] <;> omega) ⟨_, rfl, Below.refl _ _, rfl⟩
    · refine G.wanted_yes (G.wanted_plain rfl) ?_
      have e35 : a.tmps[35]?.getD undef = .tuple #[.int .i64 (p : Nat), .bool true] := hp ⟨8, .data⟩ (by simp) rfl _ rfl
      exact G.st_val (v := .int .i64 (p : Nat)) (w' := wq) (by simp [execOp, go_sem, e35, k0, k1] <;> omega) ⟨_, rfl, Below.refl _ _, rfl⟩
    · refine G.wanted_yes (G.wanted_plain rfl) ?_
      have e35 : a.tmps[35]?.getD undef = .tuple #[.int .i64 (p : Nat), .bool true] := hp ⟨8, .data⟩ (by simp) rfl _ rfl
      exact G.st_val (v := .bool true) (w' := wq) (by simp [execOp, go_sem, e35, k0, k1] <;> omega) ⟨_, rfl, Below.refl _ _, rfl⟩
    · refine G.wanted_yes (G.wanted_plain rfl) ?_
      have e44 : a.tmps[44]?.getD undef = .int .i64 (p : Nat) := hp ⟨9, .data⟩ (by simp) rfl _ rfl
      exact G.st_val (v := .int .i64 (p : Nat)) (w' := wq) (by simp [execOp, go_sem, e44, k0, k1] <;> omega) ⟨_, rfl, Below.refl _ _, rfl⟩
    · refine G.wanted_yes (G.wanted_plain rfl) ?_
      have e45 : a.tmps[45]?.getD undef = .bool true := hp ⟨10, .data⟩ (by simp) rfl _ rfl
      exact G.st_val (v := .bool true) (w' := wq) (by simp [execOp, go_sem, e45, k0, k1] <;> omega) ⟨_, rfl, Below.refl _ _, rfl⟩
  · intro a wq hT hS hp
    have e36 : G.slot a (some 36) = .pointer (some ⟨sb, 0, none⟩) := hp 0 _ rfl
    have e37 : G.slot a (some 37) = .pointer (some ⟨sb, 0, none⟩) := hp 1 _ rfl
    have e38 : G.slot a (some 38) = .pointer (some ⟨sb, 0, none⟩) := hp 2 _ rfl
    have e39 : G.slot a (some 39) = .pointer (some ⟨sb, 0, none⟩) := hp 3 _ rfl
    have e40 : G.slot a (some 40) = .slice A es.length c := hp 4 _ rfl
    have e41 : G.slot a (some 41) = .pointer (some ⟨w.heap.size, 1, none⟩) := hp 5 _ rfl
    have e42 : G.slot a (some 42) = .string ⟨name.toArray⟩ := hp 6 _ rfl
    have e43 : G.slot a (some 43) = .tuple #[.int .i64 (p : Nat), .bool true] := hp 7 _ rfl
    have e35 : G.slot a (some 35) = .tuple #[.int .i64 (p : Nat), .bool true] := hp 8 _ rfl
    have e44 : G.slot a (some 44) = .int .i64 (p : Nat) := hp 9 _ rfl
    have e45 : G.slot a (some 45) = .bool true := hp 10 _ rfl
    have e5 : G.slot a (some 5) = .int .i64 (p : Nat) := hp 11 _ rfl
    have e6 : G.slot a (some 6) = .bool true := hp 12 _ rfl
    have ha := G.act_of hS
    simp only [List.foldl_cons, List.foldl_nil, Act.put, List.setIfInBounds_toArray, List.set_cons_succ, List.set_cons_zero, e36, e37, e38, e39, e40, e41, e42, e43, e35, e44, e45, e5, e6] at ha
    clear hp hS e36 e37 e38 e39 e40 e41 e42 e43 e35 e44 e45 e5 e6
    subst ha
    have hT2 : Below W.heap.size W wq := below_tr (Below.refl _ _).drew hT
    have HSq := Lib.hid (HSW.out.next hT2)
    have HVq := Lib.hid (HVW.out.below hT2)
    have HBq := Lib.hid (below_tr HB0.out hT2)
    have hxq := heap_bl hT2 HX.out
    have HXq := Lib.hid hxq
    have hszq := hT2.size
    have b0 := cell_of hxq 0
    have b1 := cell_of hxq 1
    have b2 := cell_of hxq 2
    have b3 := cell_of hxq 3
    have b4 := cell_of hxq 4
    simp at b0 b1 b2 b3 b4
    have k0 := cell_of HSq.out.cell 0
    simp at k0
    clear hT hT2 hxq
    obtain ⟨bA, o, hA, hbA, r0, r1⟩ := fs_at HSq.out.fs p hpl
    subst hA
    have hyb := HSq.out.inn es[p] (List.getElem_mem hpl)
    have hyc := cost_at es p hpl
    generalize es[p] = y at *
    obtain ⟨y, vy⟩ := y
    dsimp only at r0 r1 hyb hyc hfb
    obtain ⟨Ay, cy, rfl, y1, y2, -, -⟩ := hyb.open_
    replace y2 : cy ≤ 9223372036854775807 := by simpa [maxLen] using y2
    have HYB := Lib.hid hyb
    clear hyb
    have HCB := Lib.hid (show cost LZ ≤ 100000000 by rw [← hLZ, hfb]; have := cost_put (delF (fls es) name) new y.bytes; have := cost_del (fls es) name; omega)
    have HT := Lib.hid (fdrop_any name sb base _ es wq HSq.out HR.out (by omega) (by omega))
    rw [hfb] at hLZ
    have HLZ := Lib.hid hLZ
    clear hLZ hfb
    go_wp2_with fail
    refine HT.out.mono ?_
    rintro e wd ⟨rfl, vd, ed, hz, hfz, hbz, huz⟩
    have HDd := Lib.hid hz
    have HFd := Lib.hid hfz
    have HBd := Lib.hid ((HBq.out.mono hbw).trans hbz)
    have hszd := hbz.size
    have hed : ed.length ≤ 64 := by have := len_del (fls es) name; rw [← hfz, fls_len, fls_len] at this; omega
    have HYD := Lib.hid (huz.bs HYB.out (fun b hb h => h.elim hb.2.1 hb.2.2))
    have hxd := huz.heap HXq.out (fun h => h.elim (fun e => by have := (HSW.out.own.lt _ e).2; have := (HS.out.own.lt _ e).2; omega) (fun e => by omega))
    have d2 := cell_of hxd 2
    simp at d2
    have HT2 := Lib.hid (fput_any new y.bytes sb base _ _ ed wd _ hz (by rw [hfz]; exact rise_delF HR.out name) (by omega) (by omega) HYD.out (by omega))
    rw [hfz, HLZ.out] at HT2
    clear hz hfz hbz huz hxd k0 b0 b1 b2 b3 b4 r0 r1
    go_wp2_with fail
    refine (HT2.out).mono ?_
    rintro e wz ⟨rfl, vz, ez, hz, hfz, hbz, huz⟩
    have HZ := Lib.hid hz
    have HFZ := Lib.hid hfz
    have HBZ := Lib.hid ((HBd.out).trans hbz)
    have HBZ2 := Lib.hid hbz.size
    have HBW := Lib.hid ((by omega : w.heap.size ≤ wd.heap.size))
    clear hz hfz hbz huz
    have z0 := cell_of HZ.out.cell 0
    simp at z0
    obtain ⟨Az, cz, rfl, n1, n2⟩ := fs_form HZ.out.fs
    have hez : ez.length = LZ.length := by rw [← HFZ.out, fls_len]
    have HEZ := Lib.hid hez
    by_cases h64 : 64 < ez.length
    · have HE := Lib.hid (HD.out.trans (fin_no (.inl (by omega))))
      clear hez
      go_wp2
      go_ret
      exact ⟨by rw [HE.out]; rfl, _, ez, HZ.out, by rw [HE.out]; exact HFZ.out, HBZ.out⟩
    · have hle : LZ.length ≤ 64 := by omega
      have HLE := Lib.hid hle
      clear hez hle
      go_wp2_with fail
      refine (cost_any _ ez _ _ HZ.out.fs (by rw [HFZ.out]; have := HCB.out; omega)).mono ?_
      rintro e wf ⟨rfl, hbf⟩
      have HZf := Lib.hid (HZ.out.next hbf)
      have HBf := Lib.hid (HBZ.out.trans (hbf.mono (Nat.le_trans hbw (Nat.le_trans HBW.out HBZ2.out))))
      rw [HFZ.out]
      clear hbf
      by_cases hcz : 32768 < cost LZ
      · have HE := Lib.hid (HD.out.trans (fin_no (.inr hcz)))
        go_wp2
        go_ret
        exact ⟨by rw [HE.out]; rfl, _, ez, HZf.out, by rw [HE.out]; exact HFZ.out, HBf.out⟩
      · have HE := Lib.hid (HD.out.trans (fin_yes HLE.out (by omega)))
        go_wp2
        go_ret
        exact ⟨by rw [HE.out]; rfl, _, ez, HZf.out, by rw [HE.out]; exact HFZ.out, HBf.out⟩

end Go.Proofs.Ytjgobljclodpfaa
