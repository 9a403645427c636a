/- Layer 5's walks: a file put, a file taken away. No condition beyond sizes. -/
import Derived.Test.YtjgobljclodpfaaFi6
namespace Go.Proofs.Ytjgobljclodpfaa
open Go.RowKit Go.Shelf K L
set_option linter.unusedVariables false
set_option linter.unusedSimpArgs false

/-- Files that are being turned: the box at sb, the list, its bytes. -/
structure StP (w : World) (sb base : Nat) (v : Value) (es : List FE) : Prop where
  cell : w.heap[sb]? = some (.cells #[v] 64 (0, 0))
  own : w.ownsRow base 40 2 v es.length (es.flatMap FE.cells)
  inn : ∀ e ∈ es, Bs w (fun b => base ≤ b ∧ v.ownBlock ≠ some b ∧ b ≠ sb) e.2 e.1.bytes
  ne : v.ownBlock ≠ some sb
  low : base ≤ sb

theorem gr_heap2 {w w' : World} {r : Option Nat} (hg : w.grownBy w' r) {q : Nat} {o : Obj} (h : w.heap[q]? = some o) (hne : some q ≠ r) : w'.heap[q]? = some o :=
  (hg.block q (Array.getElem?_eq_some_iff.1 h).1 hne).trans h
theorem StP.lt {w : World} {sb base : Nat} {v : Value} {es : List FE} (h : StP w sb base v es) : sb < w.heap.size := (Array.getElem?_eq_some_iff.1 h.cell).1
theorem StP.next {w w' : World} {sb base : Nat} {v : Value} {es : List FE} (h : StP w sb base v es) (hb : Below w.heap.size w w') : StP w' sb base v es :=
  ⟨heap_bl hb h.cell, own_keep h.own fun g hg => hb.block g (h.own.lt g hg).2, fun e he => (h.inn e he).below hb, h.ne, h.low⟩
theorem StP.fs {w : World} {sb base : Nat} {v : Value} {es : List FE} (h : StP w sb base v es) : Fs w (base ≤ ·) v es := ⟨Sl.of_own h.own, fun e he => (h.inn e he).lt⟩
theorem StP.one {w : World} {sb base : Nat} {v : Value} {es : List FE} (h : StP w sb base v es) : ∀ e ∈ es, e.2.oneCell' = true := fun e he => by
  obtain ⟨A, c, hv, -⟩ := (h.inn e he).open_
  rw [hv]; rfl

/-- One element turned in place. -/
theorem StP.set {w : World} {sb base g c p : Nat} {es : List FE} {x : Fl} {ux : Value} (h : StP w sb base (.slice (some ⟨g, 0, none⟩) es.length c) es) (hp : p < es.length) (hx : Bs w (fun b => base ≤ b ∧ b ≠ g ∧ b ≠ sb) ux x.bytes) :
    StP ((w.setCell ⟨g, p * 2, none⟩ (.string ⟨x.name.toArray⟩)).setCell ⟨g, p * 2 + 1, none⟩ ux) sb base (.slice (some ⟨g, 0, none⟩) (es.set p (x, ux)).length c) (es.set p (x, ux)) ∧
      Below base w ((w.setCell ⟨g, p * 2, none⟩ (.string ⟨x.name.toArray⟩)).setCell ⟨g, p * 2 + 1, none⟩ ux) ∧ Upd (fun b => b = g) w ((w.setCell ⟨g, p * 2, none⟩ (.string ⟨x.name.toArray⟩)).setCell ⟨g, p * 2 + 1, none⟩ ux) := by
  have hgb : base ≤ g := (h.own.lt g rfl).1
  have hgs : sb ≠ g := fun e => h.ne (by rw [e]; rfl)
  obtain ⟨h1, k1⟩ := h.own.stored (p * 2) (.string ⟨x.name.toArray⟩)
  obtain ⟨h2, k2⟩ := h1.stored (p * 2 + 1) ux
  have hk := grown_trans k1 k2
  have hset : ((es.flatMap FE.cells).set (p * 2) (.string ⟨x.name.toArray⟩)).set (p * 2 + 1) ux = (es.set p (x, ux)).flatMap FE.cells := by
    clear h h1 h2 k1 k2 hk hx
    induction es generalizing p with
    | nil => simp at hp
    | cons e es ih =>
      cases p with
      | zero => simp [FE.cells]
      | succ p =>
        have := ih (p := p) (by simpa using hp)
        rw [List.set_cons_succ, List.flatMap_cons, List.flatMap_cons, ← this]
        simp [FE.cells, Nat.succ_mul]
  rw [hset] at h2
  have hin : ∀ (u : Value) (bs : List UInt8), Bs w (fun b => base ≤ b ∧ b ≠ g ∧ b ≠ sb) u bs → Bs ((w.setCell ⟨g, p * 2, none⟩ (.string ⟨x.name.toArray⟩)).setCell ⟨g, p * 2 + 1, none⟩ ux) (fun b => base ≤ b ∧ (Value.ownBlock (.slice (some ⟨g, 0, none⟩) es.length c)) ≠ some b ∧ b ≠ sb) u bs := fun u bs hu =>
    (Sl.keep hu (by omega) fun b hl hf => hk.block b hl (fun e => hf.2.1 (Option.some.inj e))).imp (fun b hl hf => ⟨hf.1, fun e => hf.2.1 (Option.some.inj e).symm, hf.2.2⟩) (by omega)
  refine ⟨⟨(hk.block sb h.lt (fun e => hgs (Option.some.inj e))).trans (by rw [List.length_set]; exact h.cell), by rw [List.length_set]; exact h2, fun e he => ?_, by rw [List.length_set]; exact h.ne, h.low⟩, ⟨hk.os, hk.tape, hk.output, hk.size, fun j hj => ?_⟩, hk.os, hk.tape, hk.output, hk.size, fun j hj hn => hk.block j hj (fun e => hn (Option.some.inj e))⟩
  · rw [List.length_set]
    rcases List.mem_or_eq_of_mem_set he with he | rfl
    · exact hin _ _ ((h.inn e he).imp fun b hl hf => ⟨hf.1, fun e => hf.2.1 (by rw [e]; rfl), hf.2.2⟩)
    · exact hin _ _ hx
  · exact (Below.heap_setCell _ _ _ j (show j ≠ g by omega)).trans (Below.heap_setCell _ _ _ j (show j ≠ g by omega))

/-- The list turned by a call that writes its own row, and laid into the box again. -/
theorem StP.turn {w w' : World} {sb base : Nat} {v v' : Value} {es fs : List FE} (h : StP w sb base v es) (ho : w'.ownsRow base 40 2 v' fs.length (fs.flatMap FE.cells)) (hg : w.grownBy w' v.ownBlock) (hv : v'.ownBlock = v.ownBlock ∨ ∀ g, v'.ownBlock = some g → w.heap.size ≤ g)
    (hf : ∀ e ∈ fs, Bs w (fun b => base ≤ b ∧ v.ownBlock ≠ some b ∧ b ≠ sb) e.2 e.1.bytes) (hbw : base ≤ w.heap.size) :
    w'.heap[sb]? = some (.cells #[v] 64 (0, 0)) ∧ StP (w'.setCell ⟨sb, 0, none⟩ v') sb base v' fs ∧ Below base w (w'.setCell ⟨sb, 0, none⟩ v') ∧ Upd (fun b => v.ownBlock = some b ∨ b = sb) w (w'.setCell ⟨sb, 0, none⟩ v') := by
  have hsb : w'.heap[sb]? = some (.cells #[v] 64 (0, 0)) := (hg.block sb h.lt (fun e => h.ne e.symm)).trans h.cell
  have hne : v'.ownBlock ≠ some sb := fun e => by
    rcases hv with hv | hv
    · exact h.ne (by rw [← hv]; exact e)
    · have := hv sb e; have := h.lt; omega
  refine ⟨hsb, ⟨heap_setCell_same _ _ 0 _ _ _ hsb, own_keep ho fun g hg' => heap_setCell_other w' ⟨sb, 0, none⟩ g v' (fun e => hne (by rw [hg']; exact congrArg some e)), fun e he => ?_, hne, h.low⟩, ?_⟩
  · have h1 : Bs w (fun b => (base ≤ b ∧ v.ownBlock ≠ some b ∧ b ≠ sb) ∧ v'.ownBlock ≠ some b) e.2 e.1.bytes := (hf e he).imp fun b hl hf => ⟨hf, fun e' => by
      rcases hv with hv | hv
      · exact hf.2.1 (by rw [← hv]; exact e')
      · have := hv b e'; omega⟩
    exact (Sl.keep h1 (by omega) fun b hl hf => (heap_setCell_other w' ⟨sb, 0, none⟩ b v' (by simpa using hf.1.2.2)).trans (hg.block b hl (fun e => hf.1.2.1 e.symm))).imp (fun b hl hf => ⟨hf.1.1, hf.2, hf.1.2.2⟩) (by omega)
  · refine ⟨⟨hg.os, hg.tape, hg.output, by rw [World.size_setCell]; exact hg.size, fun j hj => ?_⟩, hg.os, hg.tape, hg.output, by rw [World.size_setCell]; exact hg.size, fun j hj hn => ?_⟩
    · exact (heap_setCell_other w' ⟨sb, 0, none⟩ j v' (by have := h.low; simp; omega)).trans (hg.block j (by omega) (fun e => by have := (h.own.lt j e.symm).1; omega))
    · exact (heap_setCell_other w' ⟨sb, 0, none⟩ j v' (by simp; exact fun e => hn (.inr e))).trans (hg.block j hj (fun e => hn (.inl e.symm)))

def delF (l : List Fl) (nm : List UInt8) : List Fl := if there l nm = true then l.take (place l nm) ++ l.drop (place l nm + 1) else l
def putF (l : List Fl) (nm b : List UInt8) : List Fl := if there l nm = true then l.set (place l nm) ⟨nm, b⟩ else l.take (place l nm) ++ [⟨nm, b⟩] ++ l.drop (place l nm)

/-- What such a call leaves. -/
def Turned (w : World) (sb base : Nat) (v : Value) (l : List Fl) (e : Ending) (w' : World) : Prop := e = .returned (.tuple #[]) ∧ ∃ v' es', StP w' sb base v' es' ∧ fls es' = l ∧ Below base w w' ∧ Upd (fun b => v.ownBlock = some b ∨ b = sb) w w'

set_option maxRecDepth 100000 in
set_option maxHeartbeats 4000000 in
theorem fdrop_any (nm : List UInt8) (sb base : Nat) (v : Value) (es : List FE) (w : World) (h : StP w sb base v es) (hr : rise (fls es) = true) (hl : es.length ≤ 1000000) (hbw : base ≤ w.heap.size) :
    Calls Try.prog 61 #[.pointer (some ⟨sb, 0, none⟩), .string ⟨nm.toArray⟩] w (Turned w sb base v (delF (fls es) nm)) := by
  have HS := Lib.hid h
  have c0 := cell_of h.cell 0
  simp at c0
  have HF := Lib.hid (ffind_any nm v es w _ h.fs hr (by omega))
  obtain ⟨A, c, rfl, l1, l2⟩ := fs_form h.fs
  clear h
  cases ht : there (fls es) nm
  · have HD := Lib.hid (show delF (fls es) nm = fls es by simp [delF, ht])
    rw [ht] at HF
    clear ht
    go_enter Try.func61, Try.ntmps61
    go_wp2_with fail
    refine HF.out.mono ?_
    rintro e w1 ⟨rfl, hb⟩
    go_wp2
    exact bodyPost_ret (v := .tuple #[]) (by simp [results, Try.results61, go_sem]) rfl ⟨rfl, _, es, HS.out.next hb, HD.out.symm, hb.mono hbw, Upd.of_below hb⟩
  · have hpl := there_lt ht
    rw [fls_len] at hpl
    have HD := Lib.hid (show delF (fls es) nm = fls (es.take (place (fls es) nm) ++ es.drop (place (fls es) nm + 1)) by unfold delF; rw [if_pos ht]; simp [fls])
    rw [ht] at HF
    clear ht
    obtain ⟨p, hp⟩ : ∃ p, place (fls es) nm = p := ⟨_, rfl⟩
    rw [hp] at HF HD hpl
    clear hp
    go_enter Try.func61, Try.ntmps61
    go_wp2_with fail
    refine HF.out.mono ?_
    rintro e w1 ⟨rfl, hb⟩
    have hS1 := HS.out.next hb
    have c1 := cell_of hS1.cell 0
    simp at c1
    obtain ⟨g, k, hv, m1, m2, -⟩ := own_form hS1.own (by omega)
    cases hv
    have HDL := Lib.hid (delete_any g c p es w1 base hS1.own hpl hS1.one)
    have HS1 := Lib.hid hS1
    have HB1 := Lib.hid hb
    clear hS1 hb
    have hfs : ∀ e ∈ es.take p ++ es.drop (p + 1), Bs w1 (fun b => base ≤ b ∧ (Value.ownBlock (.slice (some ⟨g, 0, none⟩) es.length c)) ≠ some b ∧ b ≠ sb) e.2 e.1.bytes := fun e he => HS1.out.inn e (by
      rcases List.mem_append.1 he with h | h
      · exact List.mem_of_mem_take h
      · exact List.mem_of_mem_drop h)
    have hfl : (es.take p ++ es.drop (p + 1)).length = es.length - 1 := by simp only [List.length_append, List.length_take, List.length_drop]; omega
    have HFS := Lib.hid hfs
    have HFL := Lib.hid hfl
    clear hfs hfl
    go_wp2_with fail
    refine HDL.out.mono ?_
    rintro e w2 ⟨rfl, ho, hg⟩
    rw [← HFL.out] at ho
    obtain ⟨t1, t2, t3, t4⟩ := HS1.out.turn ho hg (.inl rfl) HFS.out (Nat.le_trans hbw HB1.out.size)
    have d1 := cell_of t1 0
    have f1 := frozen_of t1 0
    simp at d1
    rw [HFL.out] at t2 t3 t4
    have T4 := Lib.hid (((Upd.of_below HB1.out : Upd _ _ _).trans t4 (fun b _ h => h)) : Upd _ _ _)
    have T2 := Lib.hid t2
    have T3 := Lib.hid t3
    clear ho hg t1 t2 t3 t4
    go_wp2
    exact bodyPost_ret (v := .tuple #[]) (by simp [results, Try.results61, go_sem]) rfl ⟨rfl, _, _, T2.out, HD.out.symm, (HB1.out.mono hbw).trans T3.out, T4.out⟩

def LitB (B : Nat) (nm : List UInt8) (u : Value) (w : World) (v : Value) : Prop := ∃ q, v = .slice (some ⟨q, 0, none⟩) 1 1 ∧ w.heap[q]? = some (.cells #[.string ⟨nm.toArray⟩, u] 40 (0, 0)) ∧ B ≤ q
theorem LitB.fresh {B : Nat} {nm : List UInt8} {u : Value} {w w' : World} {v : Value} (h : LitB B nm u w v) (hb : Below w.heap.size w w') : LitB B nm u w' v := by
  obtain ⟨q, h1, h2, h3⟩ := h; exact ⟨q, h1, heap_bl hb h2, h3⟩
def InsQ (base B : Nat) (v0 : Value) (fs : List FE) (w : World) (v : Value) : Prop := w.ownsRow base 40 2 v fs.length (fs.flatMap FE.cells) ∧ (v.ownBlock = v0.ownBlock ∨ ∀ g, v.ownBlock = some g → B ≤ g)
theorem InsQ.fresh {base B : Nat} {v0 : Value} {fs : List FE} {w w' : World} {v : Value} (h : InsQ base B v0 fs w v) (hb : Below w.heap.size w w') : InsQ base B v0 fs w' v := ⟨own_keep h.1 fun g hg => hb.block g (h.1.lt g hg).2, h.2⟩

set_option maxRecDepth 100000 in
set_option maxHeartbeats 4000000 in
theorem fput_any (nm b : List UInt8) (sb base : Nat) (v vb : Value) (es : List FE) (w : World) (F : Nat → Prop) (h : StP w sb base v es) (hr : rise (fls es) = true) (hl : es.length ≤ 1000000) (hbw : base ≤ w.heap.size) (hvb : Bs w F vb b) (hbl : b.length ≤ 10000000) :
    Calls Try.prog 60 #[.pointer (some ⟨sb, 0, none⟩), .string ⟨nm.toArray⟩, vb] w (Turned w sb base v (putF (fls es) nm b)) := by
  have HS := Lib.hid h
  have c0 := cell_of h.cell 0
  simp at c0
  have HF := Lib.hid (ffind_any nm v es w _ h.fs hr (by omega))
  have HV := Lib.hid hvb
  have hlow := h.low
  have hlt0 := h.lt
  obtain ⟨A, c, rfl, l1, l2⟩ := fs_form h.fs
  clear h hvb
  cases ht : there (fls es) nm
  · have HD := Lib.hid (show putF (fls es) nm b = (fls es).take (place (fls es) nm) ++ [⟨nm, b⟩] ++ (fls es).drop (place (fls es) nm) by unfold putF; rw [if_neg (by rw [ht]; decide)])
    have hpl := place_le (fls es) nm
    rw [fls_len] at hpl
    rw [ht] at HF
    clear ht
    obtain ⟨p, hp⟩ : ∃ p, place (fls es) nm = p := ⟨_, rfl⟩
    rw [hp] at HF HD hpl
    clear hp
    go_enter Try.func60, Try.ntmps60
    go_wp2_with fail
    refine HF.out.mono ?_
    rintro e w1 ⟨rfl, hb1⟩
    have HS1 := Lib.hid (HS.out.next hb1)
    have HB1 := Lib.hid hb1
    have HC := Lib.hid (clone_any vb b w1 F (HV.out.below hb1) (by omega))
    have hs1 := hb1.size
    clear hb1
    go_wp2_with fail
    refine HC.out.mono ?_
    rintro e w2 ⟨v2, rfl, ho2, hb2⟩
    have HS2 := Lib.hid (HS1.out.next hb2)
    have HB2 := Lib.hid (below_tr HB1.out hb2)
    have hbs := ho2.bs
    have HO2 := Lib.hid hbs
    obtain ⟨A2, c2, rfl, -⟩ := hbs.open_
    have hs2 := hb2.size
    have hlt1 := HS1.out.lt
    clear hbs ho2 hb2
    obtain ⟨W, hW⟩ : ∃ W, w2.alloc (.cells #[.string ⟨nm.toArray⟩, .slice A2 b.length c2] 40) = W := ⟨_, rfl⟩
    have hBW : Below w2.heap.size w2 W := by rw [← hW]; exact below_al (Below.refl _ _) _
    have hx5 : W.heap[w2.heap.size]? = some (.cells #[.string ⟨nm.toArray⟩, .slice A2 b.length c2] 40 (0, 0)) := by rw [← hW]; exact heap_alloc_new _ _
    have HSW := Lib.hid (HS2.out.next hBW)
    have HBW := Lib.hid (below_tr HB2.out hBW)
    have HOW := Lib.hid (HO2.out.below hBW)
    have HX5 := Lib.hid hx5
    have hsW := hBW.size
    clear hBW hx5
    go_wp2
    try rw [hW]
    clear hW
    have hBe : G.Bears [⟨fun (_ : World) (v : Value) => v = .pointer (some ⟨sb, 0, none⟩), none⟩, ⟨fun (_ : World) (v : Value) => v = .pointer (some ⟨sb, 0, none⟩), none⟩, ⟨fun (_ : World) (v : Value) => v = .pointer (some ⟨sb, 0, none⟩), none⟩, ⟨fun (_ : World) (v : Value) => v = .pointer (some ⟨sb, 0, none⟩), none⟩, ⟨fun (_ : World) (v : Value) => v = .pointer (some ⟨sb, 0, none⟩), none⟩, ⟨fun (_ : World) (v : Value) => v = .slice A es.length c, none⟩, ⟨fun (_ : World) (v : Value) => v = .int .i64 (p : Nat), none⟩, ⟨fun (_ : World) (v : Value) => v = .agg #[.string ⟨nm.toArray⟩, .slice A2 b.length c2], none⟩, ⟨LitB W.heap.size nm (.slice A2 b.length c2), some 9⟩, ⟨InsQ base W.heap.size (.slice A es.length c) (es.take p ++ [((⟨nm, b⟩ : Fl), .slice A2 b.length c2)] ++ es.drop p), none⟩] := ⟨fun w w' v h hb => h, fun w w' v h hb => h, fun w w' v h hb => h, fun w w' v h hb => h, fun w w' v h hb => h, fun w w' v h hb => h, fun w w' v h hb => h, fun w w' v h hb => h, fun w w' v h hb => by first | exact G.ob_fresh h hb | exact G.keep_bs h hb | exact G.row_fresh h hb | exact Live.fresh h hb | exact CopP.fresh h hb | exact LitP.fresh h hb | exact AppP.fresh h hb | exact LitF.fresh h hb | exact InsQ.fresh h hb | exact LitB.fresh h hb | exact ClP.fresh h hb | exact AggP.fresh h hb | exact SrcP.fresh h hb, fun w w' v h hb => by first | exact G.ob_fresh h hb | exact G.keep_bs h hb | exact G.row_fresh h hb | exact Live.fresh h hb | exact CopP.fresh h hb | exact LitP.fresh h hb | exact AppP.fresh h hb | exact LitF.fresh h hb | exact InsQ.fresh h hb | exact LitB.fresh h hb | exact ClP.fresh h hb | exact AggP.fresh h hb | exact SrcP.fresh h hb, trivial⟩
    skip
    refine G.region_split 10 (by kernel_rfl) (by kernel_rfl) (G.any_two (by kernel_rfl) (G.OwnG W (Value.ownBlock (.slice A es.length c)) 9) (G.of2 [⟨fun (_ : World) (v : Value) => v = .pointer (some ⟨sb, 0, none⟩), none⟩, ⟨fun (_ : World) (v : Value) => v = .pointer (some ⟨sb, 0, none⟩), none⟩, ⟨fun (_ : World) (v : Value) => v = .pointer (some ⟨sb, 0, none⟩), none⟩, ⟨fun (_ : World) (v : Value) => v = .pointer (some ⟨sb, 0, none⟩), none⟩, ⟨fun (_ : World) (v : Value) => v = .pointer (some ⟨sb, 0, none⟩), none⟩, ⟨fun (_ : World) (v : Value) => v = .slice A es.length c, none⟩, ⟨fun (_ : World) (v : Value) => v = .int .i64 (p : Nat), none⟩, ⟨fun (_ : World) (v : Value) => v = .agg #[.string ⟨nm.toArray⟩, .slice A2 b.length c2], none⟩, ⟨LitB W.heap.size nm (.slice A2 b.length c2), some 9⟩, ⟨InsQ base W.heap.size (.slice A es.length c) (es.take p ++ [((⟨nm, b⟩ : Fl), .slice A2 b.length c2)] ++ es.drop p), none⟩]) (fun L hL => G.OwnG.start W _ 9 L) ?_ (G.each_ops ?_) ?_)
    · intro i o hi hd; exact absurd hd (G.no_none (by kernel_rfl) hi)
    · refine ⟨?_, ?_, ?_, ?_, ?_, ?_, ?_, ?_, ?_, ?_, trivial⟩
      all_goals intro L a wq hLi hd hcl hU hI hS hp
      all_goals (have k0 := cell_of (gr_heap2 hI.1 HSW.out.cell (fun e => HSW.out.ne e.symm)) 0; have kx := gr_heap2 hI.1 HX5.out (fun e => by have := (HS2.out.own.lt _ e.symm).2; omega); have k1 := cell_of kx 0; have k2 := cell_of kx 1; clear kx; simp at k0 k1 k2)
      · refine G.wanted_yes (G.wanted_plain rfl) ?_
        have e0 : a.tmps[0]?.getD undef = .pointer (some ⟨sb, 0, none⟩) := hS.at_ 0 rfl
        exact G.st_val (v := .pointer (some ⟨sb, 0, none⟩)) (w' := wq) (by simp [execOp, go_sem, e0, k0, k1, k2] <;> omega) ⟨_, rfl, hI.fresh 0 (Below.refl _ _), rfl, G.of2_fresh hBe 0 (Below.refl _ _)⟩
      · refine G.wanted_yes (G.wanted_plain rfl) ?_
        have e0 : a.tmps[0]?.getD undef = .pointer (some ⟨sb, 0, none⟩) := hS.at_ 0 rfl
        exact G.st_val (v := .pointer (some ⟨sb, 0, none⟩)) (w' := wq) (by simp [execOp, go_sem, e0, k0, k1, k2] <;> omega) ⟨_, rfl, hI.fresh 1 (Below.refl _ _), rfl, G.of2_fresh hBe 1 (Below.refl _ _)⟩
      · refine G.wanted_yes (G.wanted_plain rfl) ?_
        have e33 : a.tmps[33]?.getD undef = .pointer (some ⟨sb, 0, none⟩) := hp 1 _ rfl (hd ⟨1, .data⟩ (by simp) rfl)
        exact G.st_val (v := .pointer (some ⟨sb, 0, none⟩)) (w' := wq) (by simp [execOp, go_sem, e33, k0, k1, k2] <;> omega) ⟨_, rfl, hI.fresh 2 (Below.refl _ _), rfl, G.of2_fresh hBe 2 (Below.refl _ _)⟩
      · refine G.wanted_yes (G.wanted_plain rfl) ?_
        have e34 : a.tmps[34]?.getD undef = .pointer (some ⟨sb, 0, none⟩) := hp 2 _ rfl (hd ⟨2, .data⟩ (by simp) rfl)
        exact G.st_val (v := .pointer (some ⟨sb, 0, none⟩)) (w' := wq) (by simp [execOp, go_sem, e34, k0, k1, k2] <;> omega) ⟨_, rfl, hI.fresh 3 (Below.refl _ _), rfl, G.of2_fresh hBe 3 (Below.refl _ _)⟩
      · refine G.wanted_yes (G.wanted_plain rfl) ?_
        have e35 : a.tmps[35]?.getD undef = .pointer (some ⟨sb, 0, none⟩) := hp 3 _ rfl (hd ⟨3, .data⟩ (by simp) rfl)
        exact G.st_val (v := .pointer (some ⟨sb, 0, none⟩)) (w' := wq) (by simp [execOp, go_sem, e35, k0, k1, k2] <;> omega) ⟨_, rfl, hI.fresh 4 (Below.refl _ _), rfl, G.of2_fresh hBe 4 (Below.refl _ _)⟩
      · refine G.wanted_yes (G.wanted_plain rfl) ?_
        have e36 : a.tmps[36]?.getD undef = .pointer (some ⟨sb, 0, none⟩) := hp 4 _ rfl (hd ⟨4, .data⟩ (by simp) rfl)
        exact G.st_val (v := .slice A es.length c) (w' := wq) (by simp [execOp, go_sem, e36, k0, k1, k2] <;> omega) ⟨_, rfl, hI.fresh 5 (Below.refl _ _), rfl, G.of2_fresh hBe 5 (Below.refl _ _)⟩
      · refine G.wanted_yes (G.wanted_plain rfl) ?_
        have e6 : a.tmps[6]?.getD undef = .int .i64 (p : Nat) := hS.at_ 6 rfl
        exact G.st_val (v := .int .i64 (p : Nat)) (w' := wq) (by simp [execOp, go_sem, e6, k0, k1, k2] <;> omega) ⟨_, rfl, hI.fresh 6 (Below.refl _ _), rfl, G.of2_fresh hBe 6 (Below.refl _ _)⟩
      · refine G.wanted_yes (G.wanted_plain rfl) ?_
        have e8 : a.tmps[8]?.getD undef = .pointer (some ⟨w2.heap.size, 0, none⟩) := hS.at_ 8 rfl
        exact G.st_val (v := .agg #[.string ⟨nm.toArray⟩, .slice A2 b.length c2]) (w' := wq) (by simp [execOp, go_sem, e8, k0, k1, k2] <;> omega) ⟨_, rfl, hI.fresh 7 (Below.refl _ _), rfl, G.of2_fresh hBe 7 (Below.refl _ _)⟩
      · refine G.wanted_yes (G.wanted_plain rfl) ?_
        have e39 : a.tmps[39]?.getD undef = .agg #[.string ⟨nm.toArray⟩, .slice A2 b.length c2] := hp 7 _ rfl (hd ⟨7, .data⟩ (by simp) rfl)
        have hb := below_al (Below.refl wq.heap.size wq) (.cells #[.string ⟨nm.toArray⟩, .slice A2 b.length c2] 40); exact G.st_val (v := .slice (some ⟨wq.heap.size, 0, none⟩) 1 1) (w' := wq.alloc (.cells #[.string ⟨nm.toArray⟩, .slice A2 b.length c2] 40)) (by simp [execOp, go_sem, e39]) ⟨_, rfl, (hI.fresh 8 hb), .inr ⟨_, rfl, heap_alloc_new _ _, hI.1.size⟩, (G.of2_fresh hBe 8 hb)⟩
      · refine G.wanted_yes (G.wanted_plain rfl) ?_
        have e37 : a.tmps[37]?.getD undef = .slice A es.length c := hp 5 _ rfl (hd ⟨5, .data⟩ (by simp) rfl)
        have e38 : a.tmps[38]?.getD undef = .int .i64 (p : Nat) := hp 6 _ rfl (hd ⟨6, .data⟩ (by simp) rfl)
        have q40 : L 9 = true ∨ (LitB W.heap.size nm (.slice A2 b.length c2)) wq (G.slot a (some 40)) := hp 8 _ rfl (hd ⟨8, .data⟩ (by simp) rfl)
        replace q40 := q40.resolve_left (by rw [hLi]; decide)
        have own0 := hI.2.resolve_left (by rw [hLi]; decide)
        obtain ⟨q, hq, hqh, hqw⟩ := q40; have e40 : a.tmps[40]?.getD undef = .slice (some ⟨q, 0, none⟩) 1 1 := hq; refine G.st_call (f := 70) (args := #[.slice A es.length c, .int .i64 (p : Nat), .slice (some ⟨q, 0, none⟩) 1 1]) (by simp [execOp, go_sem, e37, e38, e40]) ((insert_any p (.slice A es.length c) es ⟨nm, b⟩ (.slice A2 b.length c2) wq base q (HSW.out.next own0).own hpl hl hqh rfl (fun e => by have := ((HSW.out.own).lt q e).2; omega) (HSW.out.next own0).one (Nat.le_trans hbw (Nat.le_trans HBW.out.size own0.size))).mono ?_); rintro e w' ⟨v', rfl, ho, hg, hv⟩; exact ⟨v', rfl, v', rfl, ⟨grown_trans hI.1 hg, .inl (G.more_self _ _)⟩, ⟨by rw [show (es.take p ++ [((⟨nm, b⟩ : Fl), Value.slice A2 b.length c2)] ++ es.drop p).length = es.length + 1 from by simp only [List.length_append, List.length_take, List.length_drop, List.length_cons, List.length_nil]; omega]; exact ho, hv.imp id fun h g hg => Nat.le_trans own0.size (h g hg)⟩, (G.of2_own ⟨fun _ u h => h, fun _ u h => h, fun _ u h => h, fun _ u h => h, fun _ u h => h, fun _ u h => h, fun _ u h => h, fun _ u h => h, fun _ u _ => .inl (G.more_self _ _), fun hL => absurd hL (by rw [hLi]; decide), trivial⟩)⟩
    · intro L a wq hL hI hS hp
      have hT := hI.1
      have e32 : G.slot a (some 32) = .pointer (some ⟨sb, 0, none⟩) := hp 0 _ rfl
      have e33 : G.slot a (some 33) = .pointer (some ⟨sb, 0, none⟩) := hp 1 _ rfl
      have e34 : G.slot a (some 34) = .pointer (some ⟨sb, 0, none⟩) := hp 2 _ rfl
      have e35 : G.slot a (some 35) = .pointer (some ⟨sb, 0, none⟩) := hp 3 _ rfl
      have e36 : G.slot a (some 36) = .pointer (some ⟨sb, 0, none⟩) := hp 4 _ rfl
      have e37 : G.slot a (some 37) = .slice A es.length c := hp 5 _ rfl
      have e38 : G.slot a (some 38) = .int .i64 (p : Nat) := hp 6 _ rfl
      have e39 : G.slot a (some 39) = .agg #[.string ⟨nm.toArray⟩, .slice A2 b.length c2] := hp 7 _ rfl
      have q41 : (InsQ base W.heap.size (.slice A es.length c) (es.take p ++ [((⟨nm, b⟩ : Fl), .slice A2 b.length c2)] ++ es.drop p)) wq (G.slot a (some 41)) := hp 9 _ rfl
      have ha := G.act_of hS
      simp only [List.take_succ_cons, List.take_zero, List.foldl_cons, List.foldl_nil, Act.put, List.setIfInBounds_toArray, List.set_cons_succ, List.set_cons_zero, e32, e33, e34, e35, e36, e37, e38, e39] at ha
      generalize G.slot a (some 40) = s40 at ha
      generalize G.slot a (some 41) = s41 at q41 ha
      clear hp hS hI hBe  e32 e33 e34 e35 e36 e37 e38 e39
      subst ha
      show wpList _ _ _ _ _ _
      simp only [List.drop_succ_cons, List.drop_zero]
      obtain ⟨ho, hv⟩ := q41
      have hfs : ∀ e ∈ es.take p ++ [((⟨nm, b⟩ : Fl), Value.slice A2 b.length c2)] ++ es.drop p, Bs W (fun b' => base ≤ b' ∧ (Value.ownBlock (.slice A es.length c)) ≠ some b' ∧ b' ≠ sb) e.2 e.1.bytes := fun e he => by
        rcases List.mem_append.1 he with he | he
        · rcases List.mem_append.1 he with he | he
          · exact HSW.out.inn e (List.mem_of_mem_take he)
          · obtain rfl := List.mem_singleton.1 he
            exact HOW.out.imp fun b' _ hb' => ⟨by omega, fun e => by have := (HS1.out.own.lt b' e).2; omega, by omega⟩
        · exact HSW.out.inn e (List.mem_of_mem_drop he)
      obtain ⟨t1, t2, t3, t4⟩ := HSW.out.turn ho hT hv hfs (Nat.le_trans hbw HBW.out.size)
      obtain ⟨A4, c4, hv4, -⟩ := own_slice ho
      subst hv4
      have d1 := cell_of t1 0
      have f1 := frozen_of t1 0
      simp at d1
      have hfl : (es.take p ++ [((⟨nm, b⟩ : Fl), Value.slice A2 b.length c2)] ++ es.drop p).length = es.length + 1 := by simp only [List.length_append, List.length_take, List.length_drop, List.length_cons, List.length_nil]; omega
      have HFX := Lib.hid (show fls (es.take p ++ [((⟨nm, b⟩ : Fl), Value.slice A2 b.length c2)] ++ es.drop p) = putF (fls es) nm b by rw [HD.out]; simp [fls])
      generalize es.take p ++ [((⟨nm, b⟩ : Fl), Value.slice A2 b.length c2)] ++ es.drop p = fs at *
      have T2 := Lib.hid t2
      have T3 := Lib.hid t3
      have T4 := Lib.hid (((Upd.of_below HBW.out : Upd _ _ _).trans t4 (fun b _ h => h)) : Upd _ _ _)
      clear ho hv hfs t1 t2 t3 t4 hT hfl
      go_wp2
      exact bodyPost_ret (v := .tuple #[]) (by simp [results, Try.results60, go_sem]) rfl ⟨rfl, _, fs, T2.out, HFX.out, (HBW.out.mono hbw).trans T3.out, T4.out⟩
  · have hpl := there_lt ht
    rw [fls_len] at hpl
    have HD := Lib.hid (show putF (fls es) nm b = (fls es).set (place (fls es) nm) ⟨nm, b⟩ by unfold putF; rw [if_pos ht])
    rw [ht] at HF
    clear ht
    obtain ⟨p, hp⟩ : ∃ p, place (fls es) nm = p := ⟨_, rfl⟩
    rw [hp] at HF HD hpl
    clear hp
    go_enter Try.func60, Try.ntmps60
    go_wp2_with fail
    refine HF.out.mono ?_
    rintro e w1 ⟨rfl, hb1⟩
    have HS1 := Lib.hid (HS.out.next hb1)
    have HB1 := Lib.hid hb1
    have HC := Lib.hid (clone_any vb b w1 F (HV.out.below hb1) (by omega))
    have hs1 := hb1.size
    clear hb1
    go_wp2_with fail
    refine HC.out.mono ?_
    rintro e w2 ⟨v2, rfl, ho2, hb2⟩
    have HS2 := Lib.hid (HS1.out.next hb2)
    have HB2 := Lib.hid (below_tr HB1.out hb2)
    have hbs := ho2.bs
    have HO2 := Lib.hid hbs
    obtain ⟨A2, c2, rfl, -⟩ := hbs.open_
    have hs2 := hb2.size
    have hlt1 := HS1.out.lt
    clear hbs ho2 hb2
    obtain ⟨W, hW⟩ : ∃ W, w2.alloc (.cells #[.string ⟨nm.toArray⟩, .slice A2 b.length c2] 40) = W := ⟨_, rfl⟩
    have hBW : Below w2.heap.size w2 W := by rw [← hW]; exact below_al (Below.refl _ _) _
    have hx5 : W.heap[w2.heap.size]? = some (.cells #[.string ⟨nm.toArray⟩, .slice A2 b.length c2] 40 (0, 0)) := by rw [← hW]; exact heap_alloc_new _ _
    have HSW := Lib.hid (HS2.out.next hBW)
    have HBW := Lib.hid (below_tr HB2.out hBW)
    have HOW := Lib.hid (HO2.out.below hBW)
    have HX5 := Lib.hid hx5
    have hsW := hBW.size
    clear hBW hx5
    go_wp2
    try rw [hW]
    clear hW
    refine G.region_split 7 (by kernel_rfl) (by kernel_rfl) (G.any_inv (by kernel_rfl) (fun w w' => Below w.heap.size w w') (fun _ _ _ h k => below_tr h k) (fun w _ => Below.refl _ _) (Below.refl _ _)
      (G.of [(fun (_ : World) (v : Value) => v = .pointer (some ⟨sb, 0, none⟩)), (fun (_ : World) (v : Value) => v = .pointer (some ⟨sb, 0, none⟩)), (fun (_ : World) (v : Value) => v = .pointer (some ⟨sb, 0, none⟩)), (fun (_ : World) (v : Value) => v = .pointer (some ⟨sb, 0, none⟩)), (fun (_ : World) (v : Value) => v = .slice A es.length c), (fun (_ : World) (v : Value) => v = .int .i64 (p : Nat)), (fun (_ : World) (v : Value) => v = .agg #[.string ⟨nm.toArray⟩, .slice A2 b.length c2])])
      (G.of_stays _ ?_) ?_ (G.each_ops ?_) ?_)
    · exact ⟨(fun w w' v h k => h), (fun w w' v h k => h), (fun w w' v h k => h), (fun w w' v h k => h), (fun w w' v h k => h), (fun w w' v h k => h), (fun w w' v h k => h), trivial⟩
    · intro i o hi hd; exact absurd hd (G.no_none (by kernel_rfl) hi)
    · refine ⟨?_, ?_, ?_, ?_, ?_, ?_, ?_, trivial⟩
      all_goals intro a wq hT hS hp
      all_goals (have hT' : Below W.heap.size W wq := below_tr (Below.refl _ _).drew hT; have k0 := cell_of (HSW.out.next hT').cell 0; have kx := heap_bl hT' HX5.out; have k1 := cell_of kx 0; have k2 := cell_of kx 1; clear kx; simp at k0 k1 k2)
      · refine G.wanted_yes (G.wanted_plain rfl) ?_
        have e0 : a.tmps[0]?.getD undef = .pointer (some ⟨sb, 0, none⟩) := hS.at_ 0 rfl
        exact G.st_val (v := .pointer (some ⟨sb, 0, none⟩)) (w' := wq) (by simp [execOp, go_sem, e0, k0, k1, k2] <;> omega) ⟨_, rfl, Below.refl _ _, rfl⟩
      · refine G.wanted_yes (G.wanted_plain rfl) ?_
        have e24 : a.tmps[24]?.getD undef = .pointer (some ⟨sb, 0, none⟩) := hp ⟨0, .data⟩ (by simp) rfl _ rfl
        exact G.st_val (v := .pointer (some ⟨sb, 0, none⟩)) (w' := wq) (by simp [execOp, go_sem, e24, k0, k1, k2] <;> omega) ⟨_, rfl, Below.refl _ _, rfl⟩
      · refine G.wanted_yes (G.wanted_plain rfl) ?_
        have e25 : a.tmps[25]?.getD undef = .pointer (some ⟨sb, 0, none⟩) := hp ⟨1, .data⟩ (by simp) rfl _ rfl
        exact G.st_val (v := .pointer (some ⟨sb, 0, none⟩)) (w' := wq) (by simp [execOp, go_sem, e25, k0, k1, k2] <;> omega) ⟨_, rfl, Below.refl _ _, rfl⟩
      · refine G.wanted_yes (G.wanted_plain rfl) ?_
        have e26 : a.tmps[26]?.getD undef = .pointer (some ⟨sb, 0, none⟩) := hp ⟨2, .data⟩ (by simp) rfl _ rfl
        exact G.st_val (v := .pointer (some ⟨sb, 0, none⟩)) (w' := wq) (by simp [execOp, go_sem, e26, k0, k1, k2] <;> omega) ⟨_, rfl, Below.refl _ _, rfl⟩
      · refine G.wanted_yes (G.wanted_plain rfl) ?_
        have e27 : a.tmps[27]?.getD undef = .pointer (some ⟨sb, 0, none⟩) := hp ⟨3, .data⟩ (by simp) rfl _ rfl
        exact G.st_val (v := .slice A es.length c) (w' := wq) (by simp [execOp, go_sem, e27, k0, k1, k2] <;> omega) ⟨_, rfl, Below.refl _ _, rfl⟩
      · refine G.wanted_yes (G.wanted_plain rfl) ?_
        have e6 : a.tmps[6]?.getD undef = .int .i64 (p : Nat) := hS.at_ 6 rfl
        exact G.st_val (v := .int .i64 (p : Nat)) (w' := wq) (by simp [execOp, go_sem, e6, k0, k1, k2] <;> omega) ⟨_, rfl, Below.refl _ _, rfl⟩
      · refine G.wanted_yes (G.wanted_plain rfl) ?_
        have e8 : a.tmps[8]?.getD undef = .pointer (some ⟨w2.heap.size, 0, none⟩) := hS.at_ 8 rfl
        exact G.st_val (v := .agg #[.string ⟨nm.toArray⟩, .slice A2 b.length c2]) (w' := wq) (by simp [execOp, go_sem, e8, k0, k1, k2] <;> omega) ⟨_, rfl, Below.refl _ _, rfl⟩
    · intro a wq hT hS hp
      have e24 : G.slot a (some 24) = .pointer (some ⟨sb, 0, none⟩) := hp 0 _ rfl
      have e25 : G.slot a (some 25) = .pointer (some ⟨sb, 0, none⟩) := hp 1 _ rfl
      have e26 : G.slot a (some 26) = .pointer (some ⟨sb, 0, none⟩) := hp 2 _ rfl
      have e27 : G.slot a (some 27) = .pointer (some ⟨sb, 0, none⟩) := hp 3 _ rfl
      have e28 : G.slot a (some 28) = .slice A es.length c := hp 4 _ rfl
      have e29 : G.slot a (some 29) = .int .i64 (p : Nat) := hp 5 _ rfl
      have e30 : G.slot a (some 30) = .agg #[.string ⟨nm.toArray⟩, .slice A2 b.length c2] := hp 6 _ rfl
      have ha := G.act_of hS
      simp only [List.take_succ_cons, List.take_zero, List.foldl_cons, List.foldl_nil, Act.put, List.setIfInBounds_toArray, List.set_cons_succ, List.set_cons_zero, e24, e25, e26, e27, e28, e29, e30] at ha
      clear hp hS e24 e25 e26 e27 e28 e29 e30
      subst ha
      show wpList _ _ _ _ _ _
      simp only [List.drop_succ_cons, List.drop_zero]
      have hT2 : Below W.heap.size W wq := below_tr (Below.refl _ _).drew hT
      have hSq := HSW.out.next hT2
      obtain ⟨g, k, hv, m1, m2, m3, m4⟩ := own_form hSq.own (by omega)
      cases hv
      obtain ⟨b', o', hA, hbb, e0, e1⟩ := fs_at hSq.fs p hpl
      cases hA
      have f0 := hSq.own.frozenAt (p * 2)
      have f1 := hSq.own.frozenAt (p * 2 + 1)
      have hgs : g ≠ sb := fun e => hSq.ne (by rw [e]; rfl)
      obtain ⟨t2, t3, t4⟩ := hSq.set (x := ⟨nm, b⟩) hpl ((HOW.out.below hT2).imp fun b' _ hb' => ⟨by omega, fun e => by have := (HS1.out.own.lt b' (by rw [e]; rfl)).2; omega, by omega⟩)
      have HFX := Lib.hid (show fls (es.set p ((⟨nm, b⟩ : Fl), .slice A2 b.length c2)) = putF (fls es) nm b by rw [HD.out]; simp [fls])
      have T2 := Lib.hid t2
      have T3 := Lib.hid ((HBW.out.mono hbw).trans ((hT2.mono (Nat.le_trans hbw HBW.out.size)).trans t3))
      have T4 := Lib.hid (((Upd.of_below (below_tr HBW.out hT2) : Upd (fun b => (Value.ownBlock (.slice (some ⟨g, 0, none⟩) es.length c)) = some b ∨ b = sb) _ _).trans t4 (fun b _ h => .inl (by rw [h]; rfl))) : Upd _ _ _)
      rw [Nat.zero_add] at e0 e1
      clear t2 t3 t4 hSq hT2 hT
      go_wp2
      exact bodyPost_ret (v := .tuple #[]) (by simp [results, Try.results60, go_sem]) rfl ⟨rfl, _, _, T2.out, HFX.out, T3.out, T4.out⟩

end Go.Proofs.Ytjgobljclodpfaa
