/- Layer 5's walks: files in memory of their own. No condition beyond sizes. -/
import Derived.Test.YtjgobljclodpfaaFi2
import Derived.Test.YtjgobljclodpfaaG4
namespace Go.Proofs.Ytjgobljclodpfaa
open Go.RowKit Go.Shelf K L
set_option linter.unusedVariables false
set_option linter.unusedSimpArgs false

theorem Try.elF : Elem Try.prog 22 40 2 40 (.agg #[.string ⟨#[]⟩, .slice none 0 0]) := ⟨Try.underlying22, by kernel_rfl, rfl, by decide⟩

/-- Files in memory of the call's own; the bytes lie in other blocks than the row. -/
def OFs (w : World) (base : Nat) (v : Value) (es : List FE) : Prop :=
  w.ownsRow base 40 2 v es.length (es.flatMap FE.cells) ∧ ∀ e ∈ es, Bs w (fun b => base ≤ b ∧ v.ownBlock ≠ some b) e.2 e.1.bytes

theorem OFs.keep {w w' : World} {base : Nat} {v : Value} {es : List FE} (h : OFs w base v es) (hb : ∀ b, base ≤ b → b < w.heap.size → w'.heap[b]? = w.heap[b]?) : OFs w' base v es :=
  ⟨own_keep h.1 fun g hg => hb g (h.1.lt g hg).1 (h.1.lt g hg).2, fun e he => Sl.keep (h.2 e he) (by omega) fun b hl hf => hb b hf.1 hl⟩
theorem OFs.below {w w' : World} {base : Nat} {v : Value} {es : List FE} (h : OFs w base v es) (hb : Below w.heap.size w w') : OFs w' base v es := h.keep fun b _ hl => hb.block b hl
theorem OFs.nil (w : World) (base : Nat) : OFs w base (.slice none 0 0) [] := ⟨World.ownsRow_nil w base _ 2, fun e he => by cases he⟩
theorem OFs.fs {w : World} {base : Nat} {v : Value} {es : List FE} (h : OFs w base v es) : Fs w (base ≤ ·) v es := ⟨Sl.of_own h.1, fun e he => (h.2 e he).lt⟩
theorem OFs.low {w : World} {base B : Nat} {v : Value} {es : List FE} (h : OFs w base v es) (hB : B ≤ base) : OFs w B v es := ⟨own_low h.1 hB, fun e he => (h.2 e he).imp fun _ _ hf => ⟨Nat.le_trans hB hf.1, hf.2⟩⟩

theorem OFs.push {w w' : World} {base : Nat} {v v' : Value} {es : List FE} {x : Fl} {vb : Value} (h : OFs w base v es) (hb : Bs w (fun b => base ≤ b ∧ v.ownBlock ≠ some b) vb x.bytes)
    (ho : w'.ownsRow base 40 2 v' (es.length + 1) (es.flatMap FE.cells ++ [.string ⟨x.name.toArray⟩, vb])) (hg : w.grownBy w' v.ownBlock) (hv : v'.ownBlock = v.ownBlock ∨ ∀ g, v'.ownBlock = some g → w.heap.size ≤ g) : OFs w' base v' (es ++ [(x, vb)]) := by
  have hin : ∀ (u : Value) (bs : List UInt8), Bs w (fun b => base ≤ b ∧ v.ownBlock ≠ some b) u bs → Bs w' (fun b => base ≤ b ∧ v'.ownBlock ≠ some b) u bs := by
    intro u bs hu
    have h1 : Bs w' (fun b => base ≤ b ∧ v.ownBlock ≠ some b) u bs := Sl.keep hu (by omega) fun b hl hf => hg.block b hl (fun e => hf.2 e.symm)
    have h2 : Bs w (fun b => base ≤ b ∧ v'.ownBlock ≠ some b) u bs := hu.imp fun b hl hf => ⟨hf.1, fun e => by
      rcases hv with hv | hv
      · exact hf.2 (by rw [← hv]; exact e)
      · have := hv b e; omega⟩
    refine Sl.keep (w := w) (F := fun b => (base ≤ b ∧ v.ownBlock ≠ some b) ∧ (base ≤ b ∧ v'.ownBlock ≠ some b)) ?_ (by omega) (fun b hl hf => hg.block b hl (fun e => hf.1.2 e.symm)) |>.imp (fun b hl hf => hf.2) (by omega)
    exact hu.imp fun b hl hf => ⟨hf, hf.1, fun e => by
      rcases hv with hv | hv
      · exact hf.2 (by rw [← hv]; exact e)
      · have := hv b e; omega⟩
  refine ⟨?_, fun e he => ?_⟩
  · rw [List.length_append, List.flatMap_append]; exact ho
  · rcases List.mem_append.1 he with he | he
    · exact hin _ _ (h.2 e he)
    · obtain rfl := List.mem_singleton.1 he
      exact hin _ _ hb

/-- An element built: a name, bytes in memory from block B on. -/
def AggP (B : Nat) (nm bs : List UInt8) (w : World) (v : Value) : Prop := ∃ u, v = .agg #[.string ⟨nm.toArray⟩, u] ∧ u.oneCell' = true ∧ Bs w (B ≤ ·) u bs
def SrcP (B : Nat) (nm bs : List UInt8) (w : World) (v : Value) : Prop := ∃ u, Sl w (fun _ => True) 2 v 1 [.string ⟨nm.toArray⟩, u] ∧ u.oneCell' = true ∧ Bs w (B ≤ ·) u bs
def ClP (B : Nat) (bs : List UInt8) (w : World) (v : Value) : Prop := Bs w (B ≤ ·) v bs
theorem AggP.fresh {B : Nat} {nm bs : List UInt8} {w w' : World} {v : Value} (h : AggP B nm bs w v) (hb : Below w.heap.size w w') : AggP B nm bs w' v := by obtain ⟨u, h1, h2, h3⟩ := h; exact ⟨u, h1, h2, h3.below hb⟩
theorem SrcP.fresh {B : Nat} {nm bs : List UInt8} {w w' : World} {v : Value} (h : SrcP B nm bs w v) (hb : Below w.heap.size w w') : SrcP B nm bs w' v := by obtain ⟨u, h1, h2, h3⟩ := h; exact ⟨u, Sl.below h1 (by decide) hb, h2, h3.below hb⟩
theorem ClP.fresh {B : Nat} {bs : List UInt8} {w w' : World} {v : Value} (h : ClP B bs w v) (hb : Below w.heap.size w w') : ClP B bs w' v := Bs.below h hb
theorem ClP.agg {B : Nat} {bs nm : List UInt8} {w : World} {v : Value} (h : ClP B bs w v) : ∃ A c, v = .slice A bs.length c := by obtain ⟨A, c, hv, -⟩ := Bs.open_ h; exact ⟨A, c, hv⟩

/-- A slice without room. -/
def Emp (w : World) (v : Value) : Prop := ∃ b, v = .slice (some ⟨b, 0, none⟩) 0 0
theorem Emp.fresh {w w' : World} {v : Value} (h : Emp w v) (hb : Below w.heap.size w w') : Emp w' v := h

/-- What a round of a loop that copies files finds and leaves: the box of the list, the list. -/
def Copying (w : World) (q base : Nat) (l : List Fl) (wr : World) : Prop :=
  ∃ vo eo, wr.heap[q]? = some (.cells #[vo] 24 (0, 0)) ∧ OFs wr base vo eo ∧ fls eo = l ∧ Below w.heap.size w wr

set_option maxRecDepth 100000 in
set_option maxHeartbeats 4000000 in
theorem own_any (v : Value) (es : List FE) (w : World) (F : Nat → Prop) (h : Fs w F v es) (hl : es.length ≤ 10000000) (hx : ∀ e ∈ es, e.1.bytes.length ≤ 10000000) :
    Calls Try.prog 34 #[.agg #[v]] w fun e w' => ∃ v' es', e = .returned (.agg #[v']) ∧ fls es' = fls es ∧ OFs w' w.heap.size v' es' ∧ Below w.heap.size w w' := by
  have hs := h
  obtain ⟨A, c, rfl, l1, l2⟩ := fs_form h
  clear h
  have h1 := heap_alloc_new w (.cells #[.slice A es.length c] 24)
  have h2 := heap_alloc_new (w.alloc (.cells #[.slice A es.length c] 24)) (.cells #[.slice none 0 0] 24)
  have h3 := heap_alloc_new ((w.alloc (.cells #[.slice A es.length c] 24)).alloc (.cells #[.slice none 0 0] 24)) (.cells #[.slice none 0 0] 24)
  rw [World.size_alloc] at h2
  rw [World.size_alloc, World.size_alloc] at h3
  have h2' := heap_al h2 (.cells #[.slice none 0 0] 24)
  have hB0 := below_al (below_al (below_al (Below.refl w.heap.size w) (.cells #[.slice A es.length c] 24)) (.cells #[.slice none 0 0] 24)) (.cells #[.slice none 0 0] 24)
  have hst : Copying w (w.heap.size + 1 + 1) (w.heap.size + 1 + 1 + 1) (fls (es.take 0)) (((w.alloc (.cells #[.slice A es.length c] 24)).alloc (.cells #[.slice none 0 0] 24)).alloc (.cells #[.slice none 0 0] 24)) := ⟨_, [], h3, OFs.nil _ _, rfl, hB0⟩
  have HST := Lib.hid hst
  have H2 := Lib.hid h2'
  clear h1 h2 h2' h3 hB0 hst
  go_enter Try.func34, Try.ntmps34
  go_wp2
  go_loopw [9] (fun i wr => ∃ k : Nat, k ≤ es.length ∧ i = .int .i64 k ∧ wr.heap[w.heap.size + 1]? = some (.cells #[.slice none 0 0] 24 (0, 0)) ∧ Copying w (w.heap.size + 1 + 1) (w.heap.size + 1 + 1 + 1) (fls (es.take k)) wr) (fun i _ => es.length - (intOf i).toNat)
  case atStart => exact ⟨0, Nat.zero_le _, rfl, H2.out, HST.out⟩
  case round =>
    clear HST H2
    obtain ⟨k, hk, rfl, h2, vo, eo, h3, hof, hfl, hB⟩ := hrel
    have HB := Lib.hid hB
    have H2 := Lib.hid h2
    have H3 := Lib.hid h3
    have HOF := Lib.hid hof
    have hwl : w.heap.size + 1 + 1 < wr.heap.size := (Array.getElem?_eq_some_iff.1 h3).1
    have hel : eo.length ≤ es.length := by have := congrArg List.length hfl; simp only [fls_len, List.length_take] at this; omega
    by_cases hlt : k < es.length
    · obtain ⟨b, o, hA, hb, c0, c1⟩ := fs_at (hs.below hB) k hlt
      subst hA
      have hvb := (hs.below hB).2 es[k] (List.getElem_mem hlt)
      have hyl := hx es[k] (List.getElem_mem hlt)
      have hsn := fls_take_snoc es k hlt
      rw [← hfl] at hsn
      generalize es[k] = y at *
      obtain ⟨y, vb⟩ := y
      dsimp only at c0 c1 hvb hyl hsn
      have HSN := Lib.hid hsn
      have HVB := Lib.hid hvb
      obtain ⟨A', c', rfl, -, -, -, -⟩ := hvb.open_
      obtain ⟨W, hW⟩ : ∃ W, wr.alloc (.cells #[.string ⟨y.name.toArray⟩, .slice A' y.bytes.length c'] 40) = W := ⟨_, rfl⟩
      have hB1 : Below wr.heap.size wr W := by rw [← hW]; exact below_al (Below.refl _ _) _
      have h5 : W.heap[wr.heap.size]? = some (.cells #[.string ⟨y.name.toArray⟩, .slice A' y.bytes.length c'] 40 (0, 0)) := by rw [← hW]; exact heap_alloc_new _ _
      have HB1 := Lib.hid hB1
      have H5 := Lib.hid h5
      clear hvb hsn hof hfl h3 h2 hB h5 hB1
      go_wp2
      try rw [hW]
      have HW := Lib.hid hW
      clear hW c0 c1
      refine G.region_split 9 (by kernel_rfl) (by kernel_rfl) (G.any_inv (by kernel_rfl) (fun w w' => Below w.heap.size w w') (fun _ _ _ h k => below_tr h k) (fun w _ => Below.refl _ _) (Below.refl _ _)
        (G.of [(fun (_ : World) (v : Value) => v = .pointer (some ⟨w.heap.size + 1 + 1, 0, none⟩)), (fun (_ : World) (v : Value) => v = vo), (fun (_ : World) (v : Value) => v = .pointer (some ⟨wr.heap.size, 0, none⟩)), (fun (_ : World) (v : Value) => v = .string ⟨y.name.toArray⟩), (fun (_ : World) (v : Value) => v = .pointer (some ⟨wr.heap.size, 1, none⟩)), (fun (_ : World) (v : Value) => v = .slice A' y.bytes.length c'), (ClP wr.heap.size y.bytes), (AggP wr.heap.size y.name y.bytes), (SrcP wr.heap.size y.name y.bytes)])
        (G.of_stays _ ?_) ?_ (G.each_ops ?_) ?_)
      · exact ⟨(fun w w' v h k => h), (fun w w' v h k => h), (fun w w' v h k => h), (fun w w' v h k => h), (fun w w' v h k => h), (fun w w' v h k => h), (fun w w' v h k => by first | exact h | exact G.keep_bs h k | exact Ls.below h k | exact CopP.fresh h k | exact AggP.fresh h k | exact SrcP.fresh h k | exact Bs.below h k | exact ClP.fresh h k | exact Emp.fresh h k | exact LitF.fresh h k | exact ObP.fresh h k | exact CpF.fresh h k | (obtain ⟨x1, x2, F', hb⟩ := h; exact ⟨x1, x2, F', hb.below k⟩)), (fun w w' v h k => by first | exact h | exact G.keep_bs h k | exact Ls.below h k | exact CopP.fresh h k | exact AggP.fresh h k | exact SrcP.fresh h k | exact Bs.below h k | exact ClP.fresh h k | exact Emp.fresh h k | exact LitF.fresh h k | exact ObP.fresh h k | exact CpF.fresh h k | (obtain ⟨x1, x2, F', hb⟩ := h; exact ⟨x1, x2, F', hb.below k⟩)), (fun w w' v h k => by first | exact h | exact G.keep_bs h k | exact Ls.below h k | exact CopP.fresh h k | exact AggP.fresh h k | exact SrcP.fresh h k | exact Bs.below h k | exact ClP.fresh h k | exact Emp.fresh h k | exact LitF.fresh h k | exact ObP.fresh h k | exact CpF.fresh h k | (obtain ⟨x1, x2, F', hb⟩ := h; exact ⟨x1, x2, F', hb.below k⟩)), trivial⟩
      · intro i o hi hd; exact absurd hd (G.no_none (by kernel_rfl) hi)
      · refine ⟨?_, ?_, ?_, ?_, ?_, ?_, ?_, ?_, ?_, trivial⟩
        all_goals intro a wq hT hS hp
        all_goals (have hT' : Below W.heap.size W wq := below_tr (Below.refl _ _).drew hT; have d0 := cell_of (heap_bl hT' (heap_bl HB1.out H3.out)) 0; have d1 := cell_of (heap_bl hT' H5.out) 0; have d2 := cell_of (heap_bl hT' H5.out) 1; simp at d0 d1 d2)
        · refine G.wanted_yes (G.wanted_plain rfl) ?_
          have e3 : a.tmps[3]?.getD undef = .pointer (some ⟨w.heap.size + 1 + 1, 0, none⟩) := hS.at_ 3 rfl
          exact G.st_val (v := .pointer (some ⟨w.heap.size + 1 + 1, 0, none⟩)) (w' := wq) (by simp [execOp, go_sem, e3, d0, d1, d2] <;> omega) ⟨_, rfl, Below.refl _ _, rfl⟩
        · refine G.wanted_yes (G.wanted_plain rfl) ?_
          have e13 : a.tmps[13]?.getD undef = .pointer (some ⟨w.heap.size + 1 + 1, 0, none⟩) := hp ⟨0, .data⟩ (by simp) rfl _ rfl
          exact G.st_val (v := vo) (w' := wq) (by simp [execOp, go_sem, e13, d0, d1, d2] <;> omega) ⟨_, rfl, Below.refl _ _, rfl⟩
        · refine G.wanted_yes (G.wanted_plain rfl) ?_
          have e5 : a.tmps[5]?.getD undef = .pointer (some ⟨wr.heap.size, 0, none⟩) := hS.at_ 5 rfl
          exact G.st_val (v := .pointer (some ⟨wr.heap.size, 0, none⟩)) (w' := wq) (by simp [execOp, go_sem, e5, d0, d1, d2] <;> omega) ⟨_, rfl, Below.refl _ _, rfl⟩
        · refine G.wanted_yes (G.wanted_plain rfl) ?_
          have e15 : a.tmps[15]?.getD undef = .pointer (some ⟨wr.heap.size, 0, none⟩) := hp ⟨2, .data⟩ (by simp) rfl _ rfl
          exact G.st_val (v := .string ⟨y.name.toArray⟩) (w' := wq) (by simp [execOp, go_sem, e15, d0, d1, d2] <;> omega) ⟨_, rfl, Below.refl _ _, rfl⟩
        · refine G.wanted_yes (G.wanted_plain rfl) ?_
          have e5 : a.tmps[5]?.getD undef = .pointer (some ⟨wr.heap.size, 0, none⟩) := hS.at_ 5 rfl
          exact G.st_val (v := .pointer (some ⟨wr.heap.size, 1, none⟩)) (w' := wq) (by simp [execOp, go_sem, e5, d0, d1, d2] <;> omega) ⟨_, rfl, Below.refl _ _, rfl⟩
        · refine G.wanted_yes (G.wanted_plain rfl) ?_
          have e17 : a.tmps[17]?.getD undef = .pointer (some ⟨wr.heap.size, 1, none⟩) := hp ⟨4, .data⟩ (by simp) rfl _ rfl
          exact G.st_val (v := .slice A' y.bytes.length c') (w' := wq) (by simp [execOp, go_sem, e17, d0, d1, d2] <;> omega) ⟨_, rfl, Below.refl _ _, rfl⟩
        · refine G.wanted_yes (G.wanted_plain rfl) ?_
          have e18 : a.tmps[18]?.getD undef = .slice A' y.bytes.length c' := hp ⟨5, .data⟩ (by simp) rfl _ rfl
          refine G.st_call (f := 40) (args := #[.slice A' y.bytes.length c']) (by simp [execOp, go_sem, e18]) ((clone_any _ y.bytes wq _ ((HVB.out.below HB1.out).below hT') (by omega)).mono ?_); rintro e w2 ⟨v2, rfl, ho2, hb2⟩; exact ⟨v2, rfl, v2, rfl, hb2, (ho2.low (Nat.le_trans HB1.out.size hT'.size)).bs⟩
        · refine G.wanted_yes (G.wanted_plain rfl) ?_
          have e16 : a.tmps[16]?.getD undef = .string ⟨y.name.toArray⟩ := hp ⟨3, .data⟩ (by simp) rfl _ rfl
          have q19 : (ClP wr.heap.size y.bytes) wq (G.slot a (some 19)) := hp ⟨6, .data⟩ (by simp) rfl _ rfl
          obtain ⟨A2, c2, hv⟩ := ClP.agg (nm := y.name) q19; have e19 : a.tmps[19]?.getD undef = .slice A2 y.bytes.length c2 := hv; exact G.st_val (v := .agg #[.string ⟨y.name.toArray⟩, .slice A2 y.bytes.length c2]) (w' := wq) (by simp [execOp, go_sem, e16, e19]) ⟨_, rfl, Below.refl _ _, ⟨_, rfl, rfl, by rw [← hv]; exact q19⟩⟩
        · refine G.wanted_yes (G.wanted_plain rfl) ?_
          have q20 : (AggP wr.heap.size y.name y.bytes) wq (G.slot a (some 20)) := hp ⟨7, .data⟩ (by simp) rfl _ rfl
          obtain ⟨u, hv, h1, hu⟩ := q20; have e20 : a.tmps[20]?.getD undef = .agg #[.string ⟨y.name.toArray⟩, u] := hv; exact G.st_val (v := .slice (some ⟨wq.heap.size, 0, none⟩) 1 1) (w' := wq.alloc (.cells #[.string ⟨y.name.toArray⟩, u] 40)) (by simp [execOp, go_sem, e20]) ⟨_, rfl, below_al (Below.refl _ _) _, ⟨u, (Sl.lit wq [.string ⟨y.name.toArray⟩, u] _ 2 1 rfl (by simp [maxLen])).imp (fun _ _ _ => trivial) (by decide), h1, hu.below (below_al (Below.refl _ _) _)⟩⟩
      · intro a wq hT hS hp
        have e13 : G.slot a (some 13) = .pointer (some ⟨w.heap.size + 1 + 1, 0, none⟩) := hp 0 _ rfl
        have e14 : G.slot a (some 14) = vo := hp 1 _ rfl
        have e15 : G.slot a (some 15) = .pointer (some ⟨wr.heap.size, 0, none⟩) := hp 2 _ rfl
        have e16 : G.slot a (some 16) = .string ⟨y.name.toArray⟩ := hp 3 _ rfl
        have e17 : G.slot a (some 17) = .pointer (some ⟨wr.heap.size, 1, none⟩) := hp 4 _ rfl
        have e18 : G.slot a (some 18) = .slice A' y.bytes.length c' := hp 5 _ rfl
        have q19 : (ClP wr.heap.size y.bytes) wq (G.slot a (some 19)) := hp 6 _ rfl
        have q20 : (AggP wr.heap.size y.name y.bytes) wq (G.slot a (some 20)) := hp 7 _ rfl
        have q21 : (SrcP wr.heap.size y.name y.bytes) wq (G.slot a (some 21)) := hp 8 _ rfl
        have ha := G.act_of hS
        simp only [List.take_succ_cons, List.take_zero, List.foldl_cons, List.foldl_nil, Act.put, List.setIfInBounds_toArray, List.set_cons_succ, List.set_cons_zero, e13, e14, e15, e16, e17, e18] at ha
        generalize G.slot a (some 19) = s19 at q19 ha
        generalize G.slot a (some 20) = s20 at q20 ha
        generalize G.slot a (some 21) = s21 at q21 ha
        clear hp hS e13 e14 e15 e16 e17 e18
        subst ha
        show wpList _ _ _ _ _ _
        simp only [List.drop_succ_cons, List.drop_zero]
        obtain ⟨u, hsrc, h1, hu⟩ := q21
        have hT2 : Below wr.heap.size wr wq := below_tr HB1.out (below_tr (Below.refl _ _).drew hT)
        have hof := HOF.out.below hT2
        have hm1 := heap_bl hT2 H3.out
        have hm2 := heap_bl hT2 H2.out
        have hbs : Bs wq (fun b => w.heap.size + 1 + 1 + 1 ≤ b ∧ vo.ownBlock ≠ some b) u y.bytes := hu.imp fun b _ hb => ⟨by omega, fun e => by have := (HOF.out.1.lt b e).2; omega⟩
        have hsz2 := hT2.size
        have hle : eo.length + 1 ≤ 1073741824 := by omega
        have HF := Lib.hid hof
        have HM1 := Lib.hid hm1
        have HM2 := Lib.hid hm2
        have HBS := Lib.hid hbs
        have HT := Lib.hid (below_tr HB.out hT2)
        have HU := Lib.hid h1
        have HSRC := Lib.hid hsrc
        clear hof hm1 hm2 hbs hT2 hT hu h1 hsrc
        go_wp2_with (at_builtin; go_must (refine app2 Try.elF rfl _ _ rfl (w.heap.size + 1 + 1 + 1) HF.out.1 HSRC.out rfl rfl (by intro z hz; simp at hz; rcases hz with rfl | rfl; rfl; exact HU.out) hle (by decide) (by omega) ?_); intro v' w' ho hg hv; have HO := Lib.hid (OFs.push (x := y) HF.out HBS.out ho hg hv); have HB6 := Lib.hid (own_below HT.out (own_low HF.out.1 (by omega : w.heap.size ≤ w.heap.size + 1 + 1 + 1)) hg (Nat.le_refl _)); have hne : ∀ q, q < w.heap.size + 1 + 1 + 1 → some q ≠ vo.ownBlock := (fun q hq e => by have := (HF.out.1.lt q e.symm).1; omega); have hm3 := (hg.block _ (by omega) (hne _ (by omega))).trans HM1.out; have HM4 := Lib.hid ((hg.block _ (by omega) (hne _ (by omega))).trans HM2.out); obtain ⟨A4, c4, rfl, -⟩ := own_slice ho; have e0 := cell_of hm3 0; have f0 := frozen_of hm3 0; simp at e0; have HM3 := Lib.hid hm3; clear ho hg hv hne hm3)
        refine ⟨⟨k + 1, by omega, by go_num, heap_sc HM4.out _ _ (by simp), _, _, heap_setCell_same _ _ 0 _ _ _ HM3.out, HO.out.keep (fun b hb _ => heap_setCell_other _ ⟨w.heap.size + 1 + 1, 0, none⟩ b _ (by simp; omega)), ?_, below_sc HB6.out (by simp; omega) _⟩, by simp only [intOf]; omega⟩
        rw [HSN.out]
        simp [fls]
    · obtain rfl : k = es.length := by omega
      rw [List.take_length] at hfl
      have HFL := Lib.hid hfl
      have c3 := cell_of h3 0
      have d2 := cell_of h2 0
      have f2 := frozen_of h2 0
      simp at c3 d2
      obtain ⟨A4, c4, rfl, -⟩ := own_slice hof.1
      clear hof hfl h3 h2 hB
      go_wp2
      have hz := heap_setCell_same _ _ 0 _ _ (.slice A4 eo.length c4) H2.out
      have hB7 := below_sc HB.out (p := ⟨w.heap.size + 1, 0, none⟩) (by simp) (.slice A4 eo.length c4)
      have hO7 : OFs (wr.setCell ⟨w.heap.size + 1, 0, none⟩ (.slice A4 eo.length c4)) (w.heap.size + 1 + 1 + 1) _ eo := HOF.out.keep (fun b hb _ => heap_setCell_other _ ⟨w.heap.size + 1, 0, none⟩ b _ (by simp; omega))
      generalize wr.setCell ⟨w.heap.size + 1, 0, none⟩ (.slice A4 eo.length c4) = wf at *
      have d := cell_of hz 0
      simp at d
      exact bodyPost_ret (v := .agg #[.slice A4 eo.length c4]) (by simp [results, Try.results34, go_sem, d]) rfl ⟨_, eo, rfl, HFL.out, hO7.low (by omega), hB7⟩

set_option maxRecDepth 100000 in
set_option maxHeartbeats 4000000 in
theorem copied_any (v : Value) (es : List FE) (w : World) (F : Nat → Prop) (h : Fs w F v es) (hl : es.length ≤ 10000000) (hx : ∀ e ∈ es, e.1.bytes.length ≤ 10000000) :
    Calls Try.prog 13 #[.agg #[v]] w fun e w' => ∃ v' es', e = .returned (.agg #[v']) ∧ fls es' = fls es ∧ OFs w' w.heap.size v' es' ∧ Below w.heap.size w w' := by
  have hs := h
  obtain ⟨A, c, rfl, l1, l2⟩ := fs_form h
  clear h
  have h1 := heap_alloc_new w (.cells #[.slice A es.length c] 24)
  have h2 := heap_alloc_new (w.alloc (.cells #[.slice A es.length c] 24)) (.cells #[.slice none 0 0] 24)
  have h3 := heap_alloc_new ((w.alloc (.cells #[.slice A es.length c] 24)).alloc (.cells #[.slice none 0 0] 24)) (.cells #[.slice none 0 0] 24)
  rw [World.size_alloc] at h2
  rw [World.size_alloc, World.size_alloc] at h3
  have h2' := heap_al h2 (.cells #[.slice none 0 0] 24)
  have hB0 := below_al (below_al (below_al (Below.refl w.heap.size w) (.cells #[.slice A es.length c] 24)) (.cells #[.slice none 0 0] 24)) (.cells #[.slice none 0 0] 24)
  have hst : Copying w (w.heap.size + 1 + 1) (w.heap.size + 1 + 1 + 1) (fls (es.take 0)) (((w.alloc (.cells #[.slice A es.length c] 24)).alloc (.cells #[.slice none 0 0] 24)).alloc (.cells #[.slice none 0 0] 24)) := ⟨_, [], h3, OFs.nil _ _, rfl, hB0⟩
  have HST := Lib.hid hst
  have H2 := Lib.hid h2'
  clear h1 h2 h2' h3 hB0 hst
  go_enter Try.func13, Try.ntmps13
  go_wp2
  go_loopw [9] (fun i wr => ∃ k : Nat, k ≤ es.length ∧ i = .int .i64 k ∧ wr.heap[w.heap.size + 1]? = some (.cells #[.slice none 0 0] 24 (0, 0)) ∧ Copying w (w.heap.size + 1 + 1) (w.heap.size + 1 + 1 + 1) (fls (es.take k)) wr) (fun i _ => es.length - (intOf i).toNat)
  case atStart => exact ⟨0, Nat.zero_le _, rfl, H2.out, HST.out⟩
  case round =>
    clear HST H2
    obtain ⟨k, hk, rfl, h2, vo, eo, h3, hof, hfl, hB⟩ := hrel
    have HB := Lib.hid hB
    have H2 := Lib.hid h2
    have H3 := Lib.hid h3
    have HOF := Lib.hid hof
    have hwl : w.heap.size + 1 + 1 < wr.heap.size := (Array.getElem?_eq_some_iff.1 h3).1
    have hel : eo.length ≤ es.length := by have := congrArg List.length hfl; simp only [fls_len, List.length_take] at this; omega
    by_cases hlt : k < es.length
    · obtain ⟨b, o, hA, hb, c0, c1⟩ := fs_at (hs.below hB) k hlt
      subst hA
      have hvb := (hs.below hB).2 es[k] (List.getElem_mem hlt)
      have hyl := hx es[k] (List.getElem_mem hlt)
      have hsn := fls_take_snoc es k hlt
      rw [← hfl] at hsn
      generalize es[k] = y at *
      obtain ⟨y, vb⟩ := y
      dsimp only at c0 c1 hvb hyl hsn
      have HSN := Lib.hid hsn
      have HVB := Lib.hid hvb
      obtain ⟨A', c', rfl, -, -, -, -⟩ := hvb.open_
      obtain ⟨W, hW⟩ : ∃ W, wr.alloc (.cells #[.string ⟨y.name.toArray⟩, .slice A' y.bytes.length c'] 40) = W := ⟨_, rfl⟩
      have hB1 : Below wr.heap.size wr W := by rw [← hW]; exact below_al (Below.refl _ _) _
      have h5 : W.heap[wr.heap.size]? = some (.cells #[.string ⟨y.name.toArray⟩, .slice A' y.bytes.length c'] 40 (0, 0)) := by rw [← hW]; exact heap_alloc_new _ _
      have HB1 := Lib.hid hB1
      have H5 := Lib.hid h5
      clear hvb hsn hof hfl h3 h2 hB h5 hB1
      go_wp2
      try rw [hW]
      have HW := Lib.hid hW
      clear hW c0 c1
      refine G.region_split 10 (by kernel_rfl) (by kernel_rfl) (G.any_inv (by kernel_rfl) (fun w w' => Below w.heap.size w w') (fun _ _ _ h k => below_tr h k) (fun w _ => Below.refl _ _) (Below.refl _ _)
        (G.of [(fun (_ : World) (v : Value) => v = .pointer (some ⟨w.heap.size + 1 + 1, 0, none⟩)), (fun (_ : World) (v : Value) => v = vo), (fun (_ : World) (v : Value) => v = .pointer (some ⟨wr.heap.size, 0, none⟩)), (fun (_ : World) (v : Value) => v = .string ⟨y.name.toArray⟩), (Emp), (fun (_ : World) (v : Value) => v = .pointer (some ⟨wr.heap.size, 1, none⟩)), (fun (_ : World) (v : Value) => v = .slice A' y.bytes.length c'), (ClP wr.heap.size y.bytes), (AggP wr.heap.size y.name y.bytes), (SrcP wr.heap.size y.name y.bytes)])
        (G.of_stays _ ?_) ?_ (G.each_ops ?_) ?_)
      · exact ⟨(fun w w' v h k => h), (fun w w' v h k => h), (fun w w' v h k => h), (fun w w' v h k => h), (fun w w' v h k => by first | exact h | exact G.keep_bs h k | exact Ls.below h k | exact CopP.fresh h k | exact AggP.fresh h k | exact SrcP.fresh h k | exact Bs.below h k | exact ClP.fresh h k | exact Emp.fresh h k | exact LitF.fresh h k | exact ObP.fresh h k | exact CpF.fresh h k | (obtain ⟨x1, x2, F', hb⟩ := h; exact ⟨x1, x2, F', hb.below k⟩)), (fun w w' v h k => h), (fun w w' v h k => h), (fun w w' v h k => by first | exact h | exact G.keep_bs h k | exact Ls.below h k | exact CopP.fresh h k | exact AggP.fresh h k | exact SrcP.fresh h k | exact Bs.below h k | exact ClP.fresh h k | exact Emp.fresh h k | exact LitF.fresh h k | exact ObP.fresh h k | exact CpF.fresh h k | (obtain ⟨x1, x2, F', hb⟩ := h; exact ⟨x1, x2, F', hb.below k⟩)), (fun w w' v h k => by first | exact h | exact G.keep_bs h k | exact Ls.below h k | exact CopP.fresh h k | exact AggP.fresh h k | exact SrcP.fresh h k | exact Bs.below h k | exact ClP.fresh h k | exact Emp.fresh h k | exact LitF.fresh h k | exact ObP.fresh h k | exact CpF.fresh h k | (obtain ⟨x1, x2, F', hb⟩ := h; exact ⟨x1, x2, F', hb.below k⟩)), (fun w w' v h k => by first | exact h | exact G.keep_bs h k | exact Ls.below h k | exact CopP.fresh h k | exact AggP.fresh h k | exact SrcP.fresh h k | exact Bs.below h k | exact ClP.fresh h k | exact Emp.fresh h k | exact LitF.fresh h k | exact ObP.fresh h k | exact CpF.fresh h k | (obtain ⟨x1, x2, F', hb⟩ := h; exact ⟨x1, x2, F', hb.below k⟩)), trivial⟩
      · intro i o hi hd; exact absurd hd (G.no_none (by kernel_rfl) hi)
      · refine ⟨?_, ?_, ?_, ?_, ?_, ?_, ?_, ?_, ?_, ?_, trivial⟩
        all_goals intro a wq hT hS hp
        all_goals (have hT' : Below W.heap.size W wq := below_tr (Below.refl _ _).drew hT; have d0 := cell_of (heap_bl hT' (heap_bl HB1.out H3.out)) 0; have d1 := cell_of (heap_bl hT' H5.out) 0; have d2 := cell_of (heap_bl hT' H5.out) 1; simp at d0 d1 d2)
        · refine G.wanted_yes (G.wanted_plain rfl) ?_
          have e3 : a.tmps[3]?.getD undef = .pointer (some ⟨w.heap.size + 1 + 1, 0, none⟩) := hS.at_ 3 rfl
          exact G.st_val (v := .pointer (some ⟨w.heap.size + 1 + 1, 0, none⟩)) (w' := wq) (by simp [execOp, go_sem, e3, d0, d1, d2] <;> omega) ⟨_, rfl, Below.refl _ _, rfl⟩
        · refine G.wanted_yes (G.wanted_plain rfl) ?_
          have e13 : a.tmps[13]?.getD undef = .pointer (some ⟨w.heap.size + 1 + 1, 0, none⟩) := hp ⟨0, .data⟩ (by simp) rfl _ rfl
          exact G.st_val (v := vo) (w' := wq) (by simp [execOp, go_sem, e13, d0, d1, d2] <;> omega) ⟨_, rfl, Below.refl _ _, rfl⟩
        · refine G.wanted_yes (G.wanted_plain rfl) ?_
          have e5 : a.tmps[5]?.getD undef = .pointer (some ⟨wr.heap.size, 0, none⟩) := hS.at_ 5 rfl
          exact G.st_val (v := .pointer (some ⟨wr.heap.size, 0, none⟩)) (w' := wq) (by simp [execOp, go_sem, e5, d0, d1, d2] <;> omega) ⟨_, rfl, Below.refl _ _, rfl⟩
        · refine G.wanted_yes (G.wanted_plain rfl) ?_
          have e15 : a.tmps[15]?.getD undef = .pointer (some ⟨wr.heap.size, 0, none⟩) := hp ⟨2, .data⟩ (by simp) rfl _ rfl
          exact G.st_val (v := .string ⟨y.name.toArray⟩) (w' := wq) (by simp [execOp, go_sem, e15, d0, d1, d2] <;> omega) ⟨_, rfl, Below.refl _ _, rfl⟩
        · refine G.wanted_yes (G.wanted_plain rfl) ?_
          exact G.st_val (v := .slice (some ⟨wq.heap.size, 0, none⟩) 0 0) (w' := wq.alloc (.cells #[] 5)) (by simp [execOp, go_sem]) ⟨_, rfl, below_al (Below.refl _ _) _, ⟨_, rfl⟩⟩
        · refine G.wanted_yes (G.wanted_plain rfl) ?_
          have e5 : a.tmps[5]?.getD undef = .pointer (some ⟨wr.heap.size, 0, none⟩) := hS.at_ 5 rfl
          exact G.st_val (v := .pointer (some ⟨wr.heap.size, 1, none⟩)) (w' := wq) (by simp [execOp, go_sem, e5, d0, d1, d2] <;> omega) ⟨_, rfl, Below.refl _ _, rfl⟩
        · refine G.wanted_yes (G.wanted_plain rfl) ?_
          have e18 : a.tmps[18]?.getD undef = .pointer (some ⟨wr.heap.size, 1, none⟩) := hp ⟨5, .data⟩ (by simp) rfl _ rfl
          exact G.st_val (v := .slice A' y.bytes.length c') (w' := wq) (by simp [execOp, go_sem, e18, d0, d1, d2] <;> omega) ⟨_, rfl, Below.refl _ _, rfl⟩
        · refine G.wanted_yes (G.wanted_plain rfl) ?_
          have q17 : (Emp) wq (G.slot a (some 17)) := hp ⟨4, .data⟩ (by simp) rfl _ rfl
          have e19 : a.tmps[19]?.getD undef = .slice A' y.bytes.length c' := hp ⟨6, .data⟩ (by simp) rfl _ rfl
          obtain ⟨bq, hq⟩ := q17; refine st_app0 Try.el8 (.tmp 17) (.tmp 19) rfl bq 0 ((HVB.out.below HB1.out).below hT') (by rw [G.eval_tmp]; exact hq) (by rw [G.eval_tmp]; exact e19) (one_bvs _) (by omega) (by decide) ?_; intro v2 w2 ho2 hb2; exact ⟨v2, rfl, hb2, Sl.imp ho2 (fun b _ hb => Nat.le_trans (Nat.le_trans HB1.out.size hT'.size) hb) (by decide)⟩
        · refine G.wanted_yes (G.wanted_plain rfl) ?_
          have e16 : a.tmps[16]?.getD undef = .string ⟨y.name.toArray⟩ := hp ⟨3, .data⟩ (by simp) rfl _ rfl
          have q20 : (ClP wr.heap.size y.bytes) wq (G.slot a (some 20)) := hp ⟨7, .data⟩ (by simp) rfl _ rfl
          obtain ⟨A2, c2, hv⟩ := ClP.agg (nm := y.name) q20; have e20 : a.tmps[20]?.getD undef = .slice A2 y.bytes.length c2 := hv; exact G.st_val (v := .agg #[.string ⟨y.name.toArray⟩, .slice A2 y.bytes.length c2]) (w' := wq) (by simp [execOp, go_sem, e16, e20]) ⟨_, rfl, Below.refl _ _, ⟨_, rfl, rfl, by rw [← hv]; exact q20⟩⟩
        · refine G.wanted_yes (G.wanted_plain rfl) ?_
          have q21 : (AggP wr.heap.size y.name y.bytes) wq (G.slot a (some 21)) := hp ⟨8, .data⟩ (by simp) rfl _ rfl
          obtain ⟨u, hv, h1, hu⟩ := q21; have e21 : a.tmps[21]?.getD undef = .agg #[.string ⟨y.name.toArray⟩, u] := hv; exact G.st_val (v := .slice (some ⟨wq.heap.size, 0, none⟩) 1 1) (w' := wq.alloc (.cells #[.string ⟨y.name.toArray⟩, u] 40)) (by simp [execOp, go_sem, e21]) ⟨_, rfl, below_al (Below.refl _ _) _, ⟨u, (Sl.lit wq [.string ⟨y.name.toArray⟩, u] _ 2 1 rfl (by simp [maxLen])).imp (fun _ _ _ => trivial) (by decide), h1, hu.below (below_al (Below.refl _ _) _)⟩⟩
      · intro a wq hT hS hp
        have e13 : G.slot a (some 13) = .pointer (some ⟨w.heap.size + 1 + 1, 0, none⟩) := hp 0 _ rfl
        have e14 : G.slot a (some 14) = vo := hp 1 _ rfl
        have e15 : G.slot a (some 15) = .pointer (some ⟨wr.heap.size, 0, none⟩) := hp 2 _ rfl
        have e16 : G.slot a (some 16) = .string ⟨y.name.toArray⟩ := hp 3 _ rfl
        have q17 : (Emp) wq (G.slot a (some 17)) := hp 4 _ rfl
        have e18 : G.slot a (some 18) = .pointer (some ⟨wr.heap.size, 1, none⟩) := hp 5 _ rfl
        have e19 : G.slot a (some 19) = .slice A' y.bytes.length c' := hp 6 _ rfl
        have q20 : (ClP wr.heap.size y.bytes) wq (G.slot a (some 20)) := hp 7 _ rfl
        have q21 : (AggP wr.heap.size y.name y.bytes) wq (G.slot a (some 21)) := hp 8 _ rfl
        have q22 : (SrcP wr.heap.size y.name y.bytes) wq (G.slot a (some 22)) := hp 9 _ rfl
        have ha := G.act_of hS
        simp only [List.take_succ_cons, List.take_zero, List.foldl_cons, List.foldl_nil, Act.put, List.setIfInBounds_toArray, List.set_cons_succ, List.set_cons_zero, e13, e14, e15, e16, e18, e19] at ha
        generalize G.slot a (some 17) = s17 at q17 ha
        generalize G.slot a (some 20) = s20 at q20 ha
        generalize G.slot a (some 21) = s21 at q21 ha
        generalize G.slot a (some 22) = s22 at q22 ha
        clear hp hS e13 e14 e15 e16 e18 e19
        subst ha
        show wpList _ _ _ _ _ _
        simp only [List.drop_succ_cons, List.drop_zero]
        obtain ⟨u, hsrc, h1, hu⟩ := q22
        have hT2 : Below wr.heap.size wr wq := below_tr HB1.out (below_tr (Below.refl _ _).drew hT)
        have hof := HOF.out.below hT2
        have hm1 := heap_bl hT2 H3.out
        have hm2 := heap_bl hT2 H2.out
        have hbs : Bs wq (fun b => w.heap.size + 1 + 1 + 1 ≤ b ∧ vo.ownBlock ≠ some b) u y.bytes := hu.imp fun b _ hb => ⟨by omega, fun e => by have := (HOF.out.1.lt b e).2; omega⟩
        have hsz2 := hT2.size
        have hle : eo.length + 1 ≤ 1073741824 := by omega
        have HF := Lib.hid hof
        have HM1 := Lib.hid hm1
        have HM2 := Lib.hid hm2
        have HBS := Lib.hid hbs
        have HT := Lib.hid (below_tr HB.out hT2)
        have HU := Lib.hid h1
        have HSRC := Lib.hid hsrc
        clear hof hm1 hm2 hbs hT2 hT hu h1 hsrc
        go_wp2_with (at_builtin; go_must (refine app2 Try.elF rfl _ _ rfl (w.heap.size + 1 + 1 + 1) HF.out.1 HSRC.out rfl rfl (by intro z hz; simp at hz; rcases hz with rfl | rfl; rfl; exact HU.out) hle (by decide) (by omega) ?_); intro v' w' ho hg hv; have HO := Lib.hid (OFs.push (x := y) HF.out HBS.out ho hg hv); have HB6 := Lib.hid (own_below HT.out (own_low HF.out.1 (by omega : w.heap.size ≤ w.heap.size + 1 + 1 + 1)) hg (Nat.le_refl _)); have hne : ∀ q, q < w.heap.size + 1 + 1 + 1 → some q ≠ vo.ownBlock := (fun q hq e => by have := (HF.out.1.lt q e.symm).1; omega); have hm3 := (hg.block _ (by omega) (hne _ (by omega))).trans HM1.out; have HM4 := Lib.hid ((hg.block _ (by omega) (hne _ (by omega))).trans HM2.out); obtain ⟨A4, c4, rfl, -⟩ := own_slice ho; have e0 := cell_of hm3 0; have f0 := frozen_of hm3 0; simp at e0; have HM3 := Lib.hid hm3; clear ho hg hv hne hm3)
        refine ⟨⟨k + 1, by omega, by go_num, heap_sc HM4.out _ _ (by simp), _, _, heap_setCell_same _ _ 0 _ _ _ HM3.out, HO.out.keep (fun b hb _ => heap_setCell_other _ ⟨w.heap.size + 1 + 1, 0, none⟩ b _ (by simp; omega)), ?_, below_sc HB6.out (by simp; omega) _⟩, by simp only [intOf]; omega⟩
        rw [HSN.out]
        simp [fls]
    · obtain rfl : k = es.length := by omega
      rw [List.take_length] at hfl
      have HFL := Lib.hid hfl
      have c3 := cell_of h3 0
      have d2 := cell_of h2 0
      have f2 := frozen_of h2 0
      simp at c3 d2
      obtain ⟨A4, c4, rfl, -⟩ := own_slice hof.1
      clear hof hfl h3 h2 hB
      go_wp2
      have hz := heap_setCell_same _ _ 0 _ _ (.slice A4 eo.length c4) H2.out
      have hB7 := below_sc HB.out (p := ⟨w.heap.size + 1, 0, none⟩) (by simp) (.slice A4 eo.length c4)
      have hO7 : OFs (wr.setCell ⟨w.heap.size + 1, 0, none⟩ (.slice A4 eo.length c4)) (w.heap.size + 1 + 1 + 1) _ eo := HOF.out.keep (fun b hb _ => heap_setCell_other _ ⟨w.heap.size + 1, 0, none⟩ b _ (by simp; omega))
      generalize wr.setCell ⟨w.heap.size + 1, 0, none⟩ (.slice A4 eo.length c4) = wf at *
      have d := cell_of hz 0
      simp at d
      exact bodyPost_ret (v := .agg #[.slice A4 eo.length c4]) (by simp [results, Try.results13, go_sem, d]) rfl ⟨_, eo, rfl, HFL.out, hO7.low (by omega), hB7⟩

end Go.Proofs.Ytjgobljclodpfaa
