/- A copy goes on by itself: LinkCopies' walk. No condition beyond sizes. -/
import Derived.Test.YtibmcpbkialbnaaLkY
namespace Go.Proofs.Ytibmcpbkialbnaa
open Go.RowKit K L E
open Go.Maps (Keyed)
set_option linter.unusedVariables false
set_option linter.unusedSimpArgs false

theorem three_ops {w : World} {v0 v1 v2 : Value} {e0 e1 e2 : List OE} {F0 F1 F2 : Nat → Prop} (h0 : OpsF w F0 v0 e0) (h1 : OpsF w F1 v1 e1) (h2 : OpsF w F2 v2 e2) : Mem w [] [zOps v0 e0, zOps v1 e1, zOps v2 e2, zPre w] := by
  have key : ∀ {v : Value} {es : List OE} {F : Nat → Prop}, OpsF w F v es → (zOps v es).p w (fun b => F b ∧ b < w.heap.size) := fun {v es F} hs => ⟨⟨Sl.imp hs.1 (fun b hb hF => ⟨hF, hb⟩) (by decide), fun e he => ⟨Sl.imp (hs.2.1 e he).1 (fun b hb hF => ⟨hF, hb⟩) (by decide), (hs.2.1 e he).2⟩, hs.2.2⟩, fun b hb => hb.2⟩
  exact (((Mem.start w).part (a := zOps v2 e2) 0 rfl fun G hG => ⟨_, key h2, fun b hb => (hG.1 b).2 hb.2⟩).part (a := zOps v1 e1) 1 rfl fun G hG => ⟨_, key h1, fun b hb => (hG.1 b).2 hb.2⟩).part (a := zOps v0 e0) 2 rfl fun G hG => ⟨_, key h0, fun b hb => (hG.1 b).2 hb.2⟩
theorem few_mem {w : World} {F : Nat → Prop} {v : Value} {es : List OE} (h : OpsF w F v es) : ∀ e ∈ fewF es, e.1.okk ∧ ∃ A c, e.2 = .slice A e.1.fl.bytes.length c := by
  intro e he
  obtain ⟨x, hx, rfl⟩ := List.mem_map.1 he
  obtain ⟨hb, hk⟩ := cut_ok (h.2.1 _ (List.mem_of_mem_take hx))
  obtain ⟨A, c, h, -⟩ := hb.open_
  exact ⟨hk, A, c, h⟩
theorem all_one {l : List OE} (h : ∀ e ∈ l, e.1.okk ∧ ∃ A c, e.2 = .slice A e.1.fl.bytes.length c) : ∀ u ∈ l.flatMap OE.cells, u.oneCell' = true := by
  intro u hu
  obtain ⟨e, he, hu⟩ := List.mem_flatMap.1 hu
  obtain ⟨-, A, c, hv⟩ := h e he
  exact OE.one e (by rw [hv]; rfl) u hu
theorem all_at {w : World} {A : Option Addr} {c j n k : Nat} {l : List OE} {Os Zs : List Ass} (hl : ∀ e ∈ l, e.1.okk ∧ ∃ A c, e.2 = .slice A e.1.fl.bytes.length c) (hn : l.length = n) (M : Mem w Os Zs) (hk : Zs[k]? = some (aLr 48 8 (.slice A n c) n (l.flatMap OE.cells))) (hj : j < n) :
    ∃ (o : PO) (B : Option Addr) (cp a : Nat), A = some ⟨a, 0, none⟩ ∧ w.rangeAt a (0 + j * 8) (OE.cells (o, .slice B o.fl.bytes.length cp)) ∧ o.okk := by
  obtain ⟨F5, h5⟩ := M.z k hk
  obtain ⟨a5, rfl⟩ : ∃ a, A = some ⟨a, 0, none⟩ := by
    obtain ⟨_, ⟨h0, h1⟩ | ⟨a, _, _, h0, _⟩⟩ := h5.2
    · omega
    · cases h0; exact ⟨a, rfl⟩
  have hg : l[j]? = some (l[j]'(by omega)) := List.getElem?_eq_getElem (by omega)
  have hrng := range_get (css := l.map OE.cells) (i := j) (k := 8) (by rw [← List.flatMap_def]; exact At.lit (h5.2.cells (g := a5) rfl)) (fun c hc => by obtain ⟨x, _, rfl⟩ := List.mem_map.1 hc; rfl) (by rw [List.getElem?_map, hg]; rfl)
  obtain ⟨hok, B, cp, hv⟩ := hl _ (List.mem_of_getElem? hg)
  generalize l[j]'(by omega) = e at hrng hok hv
  obtain ⟨o, vb⟩ := e
  dsimp only at hok hv
  subst hv
  exact ⟨o, B, cp, a5, rfl, hrng, hok⟩
set_option maxRecDepth 100000 in
set_option maxHeartbeats 4000000 in
theorem linkCopies_walk (p0 p1 p2 : Value) (e0 e1 e2 : List OE) (w : World) (F0 F1 F2 : Nat → Prop) (g0 : OpsF w F0 p0 e0) (g1 : OpsF w F1 p1 e1) (g2 : OpsF w F2 p2 e2) :
    Calls Try.prog 8 #[p0, p1, p2] w fun r w' => r = .returned (.bool true) ∧ Below w.heap.size w w' := by
  have M := three_ops g0 g1 g2
  have n0 := few_len' e0
  have n1 := few_len' e1
  have n2 := few_len' e2
  refine enter Try.func8 rfl Try.ntmps8 rfl rfl ?_
  (repeat (first | (refine WR.id ?_; first | refine WR.nil ?_ | refine WR.s ?_ | refine WR.g ?_) | (refine W.id ?_; first | refine W.seq fun _ _ => ?_ | refine W.region ?_ | refine W.s ?_ | refine W.e ?_) | (refine Ends.id ?_; first | refine Ends.seq (by assumption) ?_ | refine Ends.s ?_)))
  refine WR.call rfl rfl (wakes_M M) ?_
  rintro _ w2 ⟨rfl, M⟩
  refine ⟨_, rfl, ?_⟩
  (repeat (first | (refine WR.id ?_; first | refine WR.nil ?_ | refine WR.s ?_ | refine WR.g ?_) | (refine W.id ?_; first | refine W.seq fun _ _ => ?_ | refine W.region ?_ | refine W.s ?_ | refine W.e ?_) | (refine Ends.id ?_; first | refine Ends.seq (by assumption) ?_ | refine Ends.s ?_)))
  refine WR.call rfl rfl (new_M M) ?_
  rintro _ w3 ⟨bl, rfl, M⟩
  refine ⟨_, rfl, ?_⟩
  (repeat (first | (refine WR.id ?_; first | refine WR.nil ?_ | refine WR.s ?_ | refine WR.g ?_) | (refine W.id ?_; first | refine W.seq fun _ _ => ?_ | refine W.region ?_ | refine W.s ?_ | refine W.e ?_) | (refine Ends.id ?_; first | refine Ends.seq (by assumption) ?_ | refine Ends.s ?_)))
  refine WR.buildRun (vs := #[]) (fun a ha => by simp) rfl (build_links0 _) ?_
  refine WR.allocStore (c := #[.slice none 0 0]) (by rfl) (by rfl) rfl (by rfl) (by rfl) (all_oneCell_toArray (fun u hu => by obtain rfl := List.mem_singleton.1 hu; rfl)) (by rfl) fun w4 hb4 hx4 hs4 => ?_
  replace M := M.newBox (cs := [.slice none 0 0]) hb4 hx4
  generalize w3.heap.size = yb at M ⊢
  replace M := ((M.new (Below.refl _ _) (aFl_nil w4) (fun x h => h.elim)).freeze).swap
  obtain ⟨Fo, hFo, -⟩ := M.z 1 rfl
  (repeat (first | (refine WR.id ?_; first | refine WR.nil ?_ | refine WR.s ?_ | refine WR.g ?_) | (refine W.id ?_; first | refine W.seq fun _ _ => ?_ | refine W.region ?_ | refine W.s ?_ | refine W.e ?_) | (refine Ends.id ?_; first | refine Ends.seq (by assumption) ?_ | refine Ends.s ?_)))
  refine WR.call rfl rfl (few_any _ _ _ _ hFo) ?_
  rintro _ wf0 ⟨vf0, rfl, hf⟩
  refine ⟨_, rfl, ?_⟩
  replace M := (M.add hf).freeze
  obtain ⟨A0, c0, rfl⟩ : ∃ A c, vf0 = .slice A (fewF e0).length c := by obtain ⟨F5, h5⟩ := M.z 0 rfl; obtain ⟨_, A, c, h, _⟩ := h5.2.sl; exact ⟨A, c, h⟩
  clear hf hFo
  replace M : Mem wf0 [aLk bl PL.none, aBox yb [.slice none 0 0]] [aFl (.slice none 0 0) [], aLr 48 8 (.slice A0 (fewF e0).length c0) (fewF e0).length ((fewF e0).flatMap OE.cells), zOps p0 e0, zOps p1 e1, zOps p2 e2, zPre w] := M.subz (by intro z hz; simp only [List.mem_cons, List.not_mem_nil, or_false] at hz ⊢; grind)
  (repeat (first | (refine WR.id ?_; first | refine WR.nil ?_ | refine WR.s ?_ | refine WR.g ?_) | (refine W.id ?_; first | refine W.seq fun _ _ => ?_ | refine W.region ?_ | refine W.s ?_ | refine W.e ?_) | (refine Ends.id ?_; first | refine Ends.seq (by assumption) ?_ | refine Ends.s ?_)))
  refine W.loop (X := Nat × PL × RF × Value) (fun x => [(0, p0), (1, p1), (2, p2), (7, .pointer (some ⟨bl, 0, none⟩)), (8, .pointer (some ⟨yb, 0, none⟩)), (24, .slice A0 (fewF e0).length c0), (25, .int .i64 ((fewF e0).length : Nat)), (26, .int .i64 (x.1 : Nat))])
    (fun x wr => x.1 ≤ (fewF e0).length ∧ TieL x.2.1 x.2.2.1 ∧ Mem wr [aLk bl x.2.1, aBox yb [x.2.2.2]] [aFl x.2.2.2 x.2.2.1, aLr 48 8 (.slice A0 (fewF e0).length c0) (fewF e0).length ((fewF e0).flatMap OE.cells), zOps p0 e0, zOps p1 e1, zOps p2 e2, zPre w]) (fun x => (fewF e0).length - x.1)
    (0, PL.none, [], .slice none 0 0) (by repeat (first | exact .nil | refine .cons rfl ?_)) ⟨Nat.zero_le _, TieL.none, M⟩ ?_
  clear M
  rintro ⟨j, l, fs, v⟩ wr ⟨hj, hT, M⟩ K hK
  dsimp only at hj hT M
  dsimp only
  (repeat (first | (refine WR.id ?_; first | refine WR.nil ?_ | refine WR.s ?_ | refine WR.g ?_) | (refine W.id ?_; first | refine W.seq fun _ _ => ?_ | refine W.region ?_ | refine W.s ?_ | refine W.e ?_) | (refine Ends.id ?_; first | refine Ends.seq (by assumption) ?_ | refine Ends.s ?_)))
  refine W.condP (by rfl) (fun hlt => ?_) (fun hlt => ?_)
  · obtain ⟨o, A, cp, a5, rfl, hrng, hok, hzb, -⟩ := few_at (j := j) M (k := 1) (ko := 2) rfl rfl (by omega)
    (repeat (first | (refine WR.id ?_; first | refine WR.nil ?_ | refine WR.s ?_ | refine WR.g ?_) | (refine W.id ?_; first | refine W.seq fun _ _ => ?_ | refine W.region ?_ | refine W.s ?_ | refine W.e ?_) | (refine Ends.id ?_; first | refine Ends.seq (by assumption) ?_ | refine Ends.s ?_)))
    refine WR.indexAddr (j := j) (by rfl) (by rfl) (by rfl) (by omega) ?_
    refine WR.loadRow (by rfl) hrng (by rfl) (by rfl) ?_
    refine WR.allocStore (c := (OE.cells (o, .slice A o.fl.bytes.length cp)).toArray) (by rfl) (by rfl) rfl (by rfl) (by rfl) (all_oneCell_toArray (OE.one _ rfl)) (by rfl) fun w6 hb6 hx6 hs6 => ?_
    replace M := (M.newBox (cs := OE.cells (o, .slice A o.fl.bytes.length cp)) hb6 hx6).freeze
    generalize wr.heap.size = b9 at M ⊢
    have hB9 := M.zbox 0 rfl
    (repeat (first | (refine WR.id ?_; first | refine WR.nil ?_ | refine WR.s ?_ | refine WR.g ?_) | (refine W.id ?_; first | refine W.seq fun _ _ => ?_ | refine W.region ?_ | refine W.s ?_ | refine W.e ?_) | (refine Ends.id ?_; first | refine Ends.seq (by assumption) ?_ | refine Ends.s ?_)))
    refine WR.call rfl rfl (does_M fs v o (.slice A o.fl.bytes.length cp) 1 3 M hT rfl rfl hzb hok) ?_
    clear hB9 hrng
    rintro _ w7 ⟨rfl, v', M⟩
    refine ⟨_, rfl, ?_⟩
    (repeat (first | (refine WR.id ?_; first | refine WR.nil ?_ | refine WR.s ?_ | refine WR.g ?_) | (refine W.id ?_; first | refine W.seq fun _ _ => ?_ | refine W.region ?_ | refine W.s ?_ | refine W.e ?_) | (refine Ends.id ?_; first | refine Ends.seq (by assumption) ?_ | refine Ends.s ?_)))
    exact Ends.round hK (j + 1, (l.act o).2, (RF.act fs o).2, v') (by repeat (first | exact .nil | refine .cons rfl ?_)) ⟨by dsimp only; omega, (hT.act o).2, M.subz (by intro z hz; simp only [List.mem_cons, List.not_mem_nil, or_false] at hz ⊢; grind)⟩ (by dsimp only; omega)
  (repeat (first | (refine WR.id ?_; first | refine WR.nil ?_ | refine WR.s ?_ | refine WR.g ?_) | (refine W.id ?_; first | refine W.seq fun _ _ => ?_ | refine W.region ?_ | refine W.s ?_ | refine W.e ?_) | (refine Ends.id ?_; first | refine Ends.seq (by assumption) ?_ | refine Ends.s ?_)))
  obtain ⟨Av, cv, rfl⟩ : ∃ A c, v = .slice A fs.length c := by obtain ⟨F5, q⟩ := M.z 0 rfl; exact aFl_sl q
  have hB := M.swap.box
  obtain ⟨Fl, hFl⟩ := M.get
  apply W.drawsTo 5 [[], [0], [], [], [1]]
    [is _, (fun u v => ∃ b2, v = .pointer (some ⟨b2, 0, none⟩) ∧ ∃ F', (aLk b2 l).p u F' ∧ ∀ x, F' x → wr.heap.size ≤ x), is _, (fun u v => ∃ g, v = .pointer (some ⟨g, 0, none⟩) ∧ wr.heap.size ≤ g ∧ u.heap[g]? = some (.cells #[.slice none 0 0] 45 (0, 0))), (fun u v => ∃ b2, v = .pointer (some ⟨b2, 0, none⟩) ∧ ∃ F', (aLk b2 l).p u F' ∧ ∀ x, F' x → wr.heap.size ≤ x)] (by kernel_rfl) (by kernel_rfl) (by rfl) (by kernel_rfl) (by kernel_rfl) ⟨stab_is _, (fun _ _ _ ⟨b2, e, F', q1, q2⟩ hb => ⟨b2, e, F', (aLk b2 l).stab q1 ((Stays.of_below hb).mono fun x hx => (aLk b2 l).bnd q1 x hx), q2⟩), stab_is _, (fun _ _ _ ⟨g, e, q1, q2⟩ hb => ⟨g, e, q1, (hb.block g (Array.getElem?_eq_some_iff.1 q2).1).trans q2⟩), (fun _ _ _ ⟨b2, e, F', q1, q2⟩ hb => ⟨b2, e, F', (aLk b2 l).stab q1 ((Stays.of_below hb).mono fun x hx => (aLk b2 l).bnd q1 x hx), q2⟩), trivial⟩ ?step1 ?fin1
  case step1 =>
    refine ⟨fun wq hbq Kq hKq => ?_, fun wq hbq Kq hKq => ?_, fun wq hbq Kq hKq => ?_, fun wq hbq Kq hKq => ?_, fun wq hbq Kq hKq => ?_, trivial⟩
    · have Mq := M.below hbq; have hB := Mq.swap.box
      refine WR.s ?_; refine WR.nil ?_; exact Ends.one hKq rfl rfl (Below.refl _ _)
    · rintro _ rfl
      have Mq := M.below hbq; have hB := Mq.swap.box
      refine WR.call (by rfl) (by rfl) (copy_any hT.lok ((aLk bl l).stab hFl ((Stays.of_below hbq).mono fun x hx => (aLk bl l).bnd hFl x hx))) ?_; rintro _ wy ⟨b2, rfl, hf⟩; refine ⟨_, rfl, ?_⟩; refine WR.nil ?_; exact Ends.one hKq rfl ⟨b2, rfl, hf.2.choose, hf.2.choose_spec.1, fun x hx => Nat.le_trans hbq.size (hf.2.choose_spec.2 x hx)⟩ hf.1 
    · have Mq := M.below hbq; have hB := Mq.swap.box
      refine WR.s ?_; refine WR.nil ?_; exact Ends.one hKq rfl rfl (Below.refl _ _)
    · have Mq := M.below hbq; have hB := Mq.swap.box
      refine WR.allocT (by rfl) fun wy hby hxy => ?_; refine WR.nil ?_; exact Ends.one hKq rfl ⟨_, rfl, hbq.size, hxy⟩ hby 
    · rintro v1 h1
      have Mq := M.below hbq; have hB := Mq.swap.box
      refine WR.assign rfl rfl ?_; refine WR.nil ?_; exact Ends.one hKq rfl h1 (Below.refl _ _) 
  intro wq hbq
  rintro _ rfl v1 h1 _ rfl v3 h3 v4 h4
  refine WR.id ?_
  have Mq := M.below hbq; have hB := Mq.swap.box
  obtain ⟨b2, rfl, F', q1, q2⟩ := h4
  obtain ⟨gz, rfl, gz1, gx⟩ := h3
  have hgF : ∀ x, F' x → x ≠ gz := fun x hx e => lk_not q1 hx (by rw [e]; exact gx)
  replace M := (M.new hbq (a := aSep (aBox gz [.slice none 0 0]) (aLk b2 l)) (F := fun x => x = gz ∨ F' x) ⟨fun x => x = gz, F', ⟨fun _ => Iff.rfl, _, gx⟩, q1, fun x hF hx => hgF x hF hx, fun _ => Iff.rfl⟩ (fun x hx => hx.elim (fun h => by omega) (q2 x))).split
  clear hB gx q1 hFl
  refine WR.storeAgg (cs' := [.slice Av fs.length cv]) M.box (by rfl) (by rfl) (by rfl) (by rfl) (by intro u hu; obtain rfl := List.mem_singleton.1 hu; rfl) fun w6 hu6 hx6 hs6 => ?_
  replace M := M.setBox hu6 hx6
  clear hx6
  (repeat (first | (refine WR.id ?_; first | refine WR.nil ?_ | refine WR.s ?_ | refine WR.g ?_) | (refine W.id ?_; first | refine W.seq fun _ _ => ?_ | refine W.region ?_ | refine W.s ?_ | refine W.e ?_) | (refine Ends.id ?_; first | refine Ends.seq (by assumption) ?_ | refine Ends.s ?_)))
  obtain ⟨Fo, hFo, -⟩ := M.z 3 rfl
  (repeat (first | (refine WR.id ?_; first | refine WR.nil ?_ | refine WR.s ?_ | refine WR.g ?_) | (refine W.id ?_; first | refine W.seq fun _ _ => ?_ | refine W.region ?_ | refine W.s ?_ | refine W.e ?_) | (refine Ends.id ?_; first | refine Ends.seq (by assumption) ?_ | refine Ends.s ?_)))
  refine WR.call rfl rfl (few_any _ _ _ _ hFo) ?_
  rintro _ wf1 ⟨vf1, rfl, hf⟩
  refine ⟨_, rfl, ?_⟩
  replace M := (M.add hf).freeze
  obtain ⟨A1, c1, rfl⟩ : ∃ A c, vf1 = .slice A (fewF e1).length c := by obtain ⟨F5, h5⟩ := M.z 0 rfl; obtain ⟨_, A, c, h, _⟩ := h5.2.sl; exact ⟨A, c, h⟩
  clear hf hFo
  replace M : Mem wf1 [aLk bl l, aBox yb [.slice Av fs.length cv], aLk b2 l, aBox gz [.slice Av fs.length cv]] [aFl (.slice Av fs.length cv) fs, aFl (.slice Av fs.length cv) fs, aLr 48 8 (.slice A1 (fewF e1).length c1) (fewF e1).length ((fewF e1).flatMap OE.cells), zOps p0 e0, zOps p1 e1, zOps p2 e2, zPre w] := (M.third.under1 fun M => M.third.under1 fun M => M.swap).subz (by intro z hz; simp only [List.mem_cons, List.not_mem_nil, or_false] at hz ⊢; grind)
  (repeat (first | (refine WR.id ?_; first | refine WR.nil ?_ | refine WR.s ?_ | refine WR.g ?_) | (refine W.id ?_; first | refine W.seq fun _ _ => ?_ | refine W.region ?_ | refine W.s ?_ | refine W.e ?_) | (refine Ends.id ?_; first | refine Ends.seq (by assumption) ?_ | refine Ends.s ?_)))
  refine W.loop (X := Nat × PL × RF × Value) (fun x => [(0, p0), (1, p1), (2, p2), (7, .pointer (some ⟨bl, 0, none⟩)), (8, .pointer (some ⟨yb, 0, none⟩)), (11, .pointer (some ⟨b2, 0, none⟩)), (12, .pointer (some ⟨gz, 0, none⟩)), (41, .slice A1 (fewF e1).length c1), (42, .int .i64 ((fewF e1).length : Nat)), (43, .int .i64 (x.1 : Nat))])
    (fun x wr => x.1 ≤ (fewF e1).length ∧ TieL x.2.1 x.2.2.1 ∧ Mem wr [aLk bl x.2.1, aBox yb [x.2.2.2], aLk b2 l, aBox gz [.slice Av fs.length cv]] [aFl x.2.2.2 x.2.2.1, aFl (.slice Av fs.length cv) fs, aLr 48 8 (.slice A1 (fewF e1).length c1) (fewF e1).length ((fewF e1).flatMap OE.cells), zOps p0 e0, zOps p1 e1, zOps p2 e2, zPre w]) (fun x => (fewF e1).length - x.1)
    (0, l, fs, .slice Av fs.length cv) (by repeat (first | exact .nil | refine .cons rfl ?_)) ⟨Nat.zero_le _, hT, M⟩ ?_
  clear M
  rintro ⟨j1, l1, fs1, v1⟩ wr ⟨hj1, hT1, M⟩ K1 hK1
  dsimp only at hj1 hT1 M
  dsimp only
  (repeat (first | (refine WR.id ?_; first | refine WR.nil ?_ | refine WR.s ?_ | refine WR.g ?_) | (refine W.id ?_; first | refine W.seq fun _ _ => ?_ | refine W.region ?_ | refine W.s ?_ | refine W.e ?_) | (refine Ends.id ?_; first | refine Ends.seq (by assumption) ?_ | refine Ends.s ?_)))
  refine W.condP (by rfl) (fun hlt1 => ?_) (fun hlt1 => ?_)
  · obtain ⟨o, A, cp, a5, rfl, hrng, hok, hzb, -⟩ := few_at (j := j1) M (k := 2) (ko := 4) rfl rfl (by omega)
    (repeat (first | (refine WR.id ?_; first | refine WR.nil ?_ | refine WR.s ?_ | refine WR.g ?_) | (refine W.id ?_; first | refine W.seq fun _ _ => ?_ | refine W.region ?_ | refine W.s ?_ | refine W.e ?_) | (refine Ends.id ?_; first | refine Ends.seq (by assumption) ?_ | refine Ends.s ?_)))
    refine WR.indexAddr (j := j1) (by rfl) (by rfl) (by rfl) (by omega) ?_
    refine WR.loadRow (by rfl) hrng (by rfl) (by rfl) ?_
    refine WR.allocStore (c := (OE.cells (o, .slice A o.fl.bytes.length cp)).toArray) (by rfl) (by rfl) rfl (by rfl) (by rfl) (all_oneCell_toArray (OE.one _ rfl)) (by rfl) fun w6 hb6 hx6 hs6 => ?_
    replace M := (M.newBox (cs := OE.cells (o, .slice A o.fl.bytes.length cp)) hb6 hx6).freeze
    generalize wr.heap.size = b9 at M ⊢
    have hB9 := M.zbox 0 rfl
    (repeat (first | (refine WR.id ?_; first | refine WR.nil ?_ | refine WR.s ?_ | refine WR.g ?_) | (refine W.id ?_; first | refine W.seq fun _ _ => ?_ | refine W.region ?_ | refine W.s ?_ | refine W.e ?_) | (refine Ends.id ?_; first | refine Ends.seq (by assumption) ?_ | refine Ends.s ?_)))
    refine WR.call rfl rfl (does_M fs1 v1 o (.slice A o.fl.bytes.length cp) 1 5 M hT1 rfl rfl hzb hok) ?_
    clear hB9 hrng
    rintro _ w7 ⟨rfl, v', M⟩
    refine ⟨_, rfl, ?_⟩
    (repeat (first | (refine WR.id ?_; first | refine WR.nil ?_ | refine WR.s ?_ | refine WR.g ?_) | (refine W.id ?_; first | refine W.seq fun _ _ => ?_ | refine W.region ?_ | refine W.s ?_ | refine W.e ?_) | (refine Ends.id ?_; first | refine Ends.seq (by assumption) ?_ | refine Ends.s ?_)))
    exact Ends.round hK1 (j1 + 1, (l1.act o).2, (RF.act fs1 o).2, v') (by repeat (first | exact .nil | refine .cons rfl ?_)) ⟨by dsimp only; omega, (hT1.act o).2, M.subz (by intro z hz; simp only [List.mem_cons, List.not_mem_nil, or_false] at hz ⊢; grind)⟩ (by dsimp only; omega)
  obtain ⟨Fo, hFo, -⟩ := M.z 5 rfl
  (repeat (first | (refine WR.id ?_; first | refine WR.nil ?_ | refine WR.s ?_ | refine WR.g ?_) | (refine W.id ?_; first | refine W.seq fun _ _ => ?_ | refine W.region ?_ | refine W.s ?_ | refine W.e ?_) | (refine Ends.id ?_; first | refine Ends.seq (by assumption) ?_ | refine Ends.s ?_)))
  refine WR.call rfl rfl (few_any _ _ _ _ hFo) ?_
  rintro _ wf2 ⟨vf2, rfl, hf⟩
  refine ⟨_, rfl, ?_⟩
  replace M := (M.add hf).freeze
  obtain ⟨A2, c2, rfl⟩ : ∃ A c, vf2 = .slice A (fewF e2).length c := by obtain ⟨F5, h5⟩ := M.z 0 rfl; obtain ⟨_, A, c, h, _⟩ := h5.2.sl; exact ⟨A, c, h⟩
  clear hf hFo
  replace M : Mem wf2 [aLk b2 l, aBox gz [.slice Av fs.length cv], aLk bl l1, aBox yb [v1]] [aFl (.slice Av fs.length cv) fs, aFl v1 fs1, aLr 48 8 (.slice A2 (fewF e2).length c2) (fewF e2).length ((fewF e2).flatMap OE.cells), zOps p0 e0, zOps p1 e1, zOps p2 e2, zPre w] := (M.third.under1 fun M => M.third).subz (by intro z hz; simp only [List.mem_cons, List.not_mem_nil, or_false] at hz ⊢; grind)
  (repeat (first | (refine WR.id ?_; first | refine WR.nil ?_ | refine WR.s ?_ | refine WR.g ?_) | (refine W.id ?_; first | refine W.seq fun _ _ => ?_ | refine W.region ?_ | refine W.s ?_ | refine W.e ?_) | (refine Ends.id ?_; first | refine Ends.seq (by assumption) ?_ | refine Ends.s ?_)))
  refine W.loop (X := Nat × PL × RF × Value) (fun x => [(0, p0), (1, p1), (2, p2), (7, .pointer (some ⟨bl, 0, none⟩)), (8, .pointer (some ⟨yb, 0, none⟩)), (11, .pointer (some ⟨b2, 0, none⟩)), (12, .pointer (some ⟨gz, 0, none⟩)), (53, .slice A2 (fewF e2).length c2), (54, .int .i64 ((fewF e2).length : Nat)), (55, .int .i64 (x.1 : Nat))])
    (fun x wr => x.1 ≤ (fewF e2).length ∧ TieL x.2.1 x.2.2.1 ∧ Mem wr [aLk b2 x.2.1, aBox gz [x.2.2.2], aLk bl l1, aBox yb [v1]] [aFl x.2.2.2 x.2.2.1, aFl v1 fs1, aLr 48 8 (.slice A2 (fewF e2).length c2) (fewF e2).length ((fewF e2).flatMap OE.cells), zOps p0 e0, zOps p1 e1, zOps p2 e2, zPre w]) (fun x => (fewF e2).length - x.1)
    (0, l, fs, .slice Av fs.length cv) (by repeat (first | exact .nil | refine .cons rfl ?_)) ⟨Nat.zero_le _, hT, M⟩ ?_
  clear M
  rintro ⟨j2, l2, fs2, v2⟩ wr ⟨hj2, hT2, M⟩ K2 hK2
  dsimp only at hj2 hT2 M
  dsimp only
  (repeat (first | (refine WR.id ?_; first | refine WR.nil ?_ | refine WR.s ?_ | refine WR.g ?_) | (refine W.id ?_; first | refine W.seq fun _ _ => ?_ | refine W.region ?_ | refine W.s ?_ | refine W.e ?_) | (refine Ends.id ?_; first | refine Ends.seq (by assumption) ?_ | refine Ends.s ?_)))
  refine W.condP (by rfl) (fun hlt2 => ?_) (fun hlt2 => ?_)
  · obtain ⟨o, A, cp, a5, rfl, hrng, hok, hzb, -⟩ := few_at (j := j2) M (k := 2) (ko := 5) rfl rfl (by omega)
    (repeat (first | (refine WR.id ?_; first | refine WR.nil ?_ | refine WR.s ?_ | refine WR.g ?_) | (refine W.id ?_; first | refine W.seq fun _ _ => ?_ | refine W.region ?_ | refine W.s ?_ | refine W.e ?_) | (refine Ends.id ?_; first | refine Ends.seq (by assumption) ?_ | refine Ends.s ?_)))
    refine WR.indexAddr (j := j2) (by rfl) (by rfl) (by rfl) (by omega) ?_
    refine WR.loadRow (by rfl) hrng (by rfl) (by rfl) ?_
    refine WR.allocStore (c := (OE.cells (o, .slice A o.fl.bytes.length cp)).toArray) (by rfl) (by rfl) rfl (by rfl) (by rfl) (all_oneCell_toArray (OE.one _ rfl)) (by rfl) fun w6 hb6 hx6 hs6 => ?_
    replace M := (M.newBox (cs := OE.cells (o, .slice A o.fl.bytes.length cp)) hb6 hx6).freeze
    generalize wr.heap.size = b9 at M ⊢
    have hB9 := M.zbox 0 rfl
    (repeat (first | (refine WR.id ?_; first | refine WR.nil ?_ | refine WR.s ?_ | refine WR.g ?_) | (refine W.id ?_; first | refine W.seq fun _ _ => ?_ | refine W.region ?_ | refine W.s ?_ | refine W.e ?_) | (refine Ends.id ?_; first | refine Ends.seq (by assumption) ?_ | refine Ends.s ?_)))
    refine WR.call rfl rfl (does_M fs2 v2 o (.slice A o.fl.bytes.length cp) 1 6 M hT2 rfl rfl hzb hok) ?_
    clear hB9 hrng
    rintro _ w7 ⟨rfl, v', M⟩
    refine ⟨_, rfl, ?_⟩
    (repeat (first | (refine WR.id ?_; first | refine WR.nil ?_ | refine WR.s ?_ | refine WR.g ?_) | (refine W.id ?_; first | refine W.seq fun _ _ => ?_ | refine W.region ?_ | refine W.s ?_ | refine W.e ?_) | (refine Ends.id ?_; first | refine Ends.seq (by assumption) ?_ | refine Ends.s ?_)))
    exact Ends.round hK2 (j2 + 1, (l2.act o).2, (RF.act fs2 o).2, v') (by repeat (first | exact .nil | refine .cons rfl ?_)) ⟨by dsimp only; omega, (hT2.act o).2, M.subz (by intro z hz; simp only [List.mem_cons, List.not_mem_nil, or_false] at hz ⊢; grind)⟩ (by dsimp only; omega)
  obtain ⟨Fo, hFo, -⟩ := M.z 3 rfl
  (repeat (first | (refine WR.id ?_; first | refine WR.nil ?_ | refine WR.s ?_ | refine WR.g ?_) | (refine W.id ?_; first | refine W.seq fun _ _ => ?_ | refine W.region ?_ | refine W.s ?_ | refine W.e ?_) | (refine Ends.id ?_; first | refine Ends.seq (by assumption) ?_ | refine Ends.s ?_)))
  refine WR.call rfl rfl (few_any _ _ _ _ hFo) ?_
  rintro _ wg0 ⟨vg0, rfl, hf⟩
  refine ⟨_, rfl, ?_⟩
  have m0 := few_mem hFo
  replace M := M.add hf
  obtain ⟨B0, d0, rfl⟩ : ∃ A c, vg0 = .slice A (fewF e0).length c := by obtain ⟨_, A, c, h, _⟩ := M.lrow.sl; exact ⟨A, c, h⟩
  clear hf hFo
  obtain ⟨Fo, hFo, -⟩ := M.z 4 rfl
  (repeat (first | (refine WR.id ?_; first | refine WR.nil ?_ | refine WR.s ?_ | refine WR.g ?_) | (refine W.id ?_; first | refine W.seq fun _ _ => ?_ | refine W.region ?_ | refine W.s ?_ | refine W.e ?_) | (refine Ends.id ?_; first | refine Ends.seq (by assumption) ?_ | refine Ends.s ?_)))
  refine WR.call rfl rfl (few_any _ _ _ _ hFo) ?_
  rintro _ wg1 ⟨vg1, rfl, hf⟩
  refine ⟨_, rfl, ?_⟩
  have m1 := few_mem hFo
  replace M := (M.add hf).freeze
  obtain ⟨F5, h5⟩ := M.z 0 rfl
  clear hf hFo
  (repeat (first | (refine WR.id ?_; first | refine WR.nil ?_ | refine WR.s ?_ | refine WR.g ?_) | (refine W.id ?_; first | refine W.seq fun _ _ => ?_ | refine W.region ?_ | refine W.s ?_ | refine W.e ?_) | (refine Ends.id ?_; first | refine Ends.seq (by assumption) ?_ | refine Ends.s ?_)))
  refine WR.lapp Try.elOp M (by rfl) (by rfl) (by rfl) h5.2.sl (all_one m1) (by omega) (by decide) fun B1 d1 wg2 M => ?_
  clear h5
  obtain ⟨Fo, hFo, -⟩ := M.z 6 rfl
  (repeat (first | (refine WR.id ?_; first | refine WR.nil ?_ | refine WR.s ?_ | refine WR.g ?_) | (refine W.id ?_; first | refine W.seq fun _ _ => ?_ | refine W.region ?_ | refine W.s ?_ | refine W.e ?_) | (refine Ends.id ?_; first | refine Ends.seq (by assumption) ?_ | refine Ends.s ?_)))
  refine WR.call rfl rfl (few_any _ _ _ _ hFo) ?_
  rintro _ wg3 ⟨vg2, rfl, hf⟩
  refine ⟨_, rfl, ?_⟩
  have m2 := few_mem hFo
  replace M := (M.add hf).freeze
  obtain ⟨F5, h5⟩ := M.z 0 rfl
  clear hf hFo
  (repeat (first | (refine WR.id ?_; first | refine WR.nil ?_ | refine WR.s ?_ | refine WR.g ?_) | (refine W.id ?_; first | refine W.seq fun _ _ => ?_ | refine W.region ?_ | refine W.s ?_ | refine W.e ?_) | (refine Ends.id ?_; first | refine Ends.seq (by assumption) ?_ | refine Ends.s ?_)))
  refine WR.lapp Try.elOp M (by rfl) (by rfl) (by rfl) h5.2.sl (all_one m2) (by omega) (by decide) fun B2 d2 wg4 M => ?_
  clear h5
  obtain ⟨all, ha⟩ : ∃ l, fewF e0 ++ fewF e1 ++ fewF e2 = l := ⟨_, rfl⟩
  have hall : ∀ e ∈ all, e.1.okk ∧ ∃ A c, e.2 = .slice A e.1.fl.bytes.length c := by
    intro e he
    rw [← ha] at he
    rcases List.mem_append.1 he with he | he
    · rcases List.mem_append.1 he with he | he
      · exact m0 e he
      · exact m1 e he
    · exact m2 e he
  obtain ⟨N, hN⟩ : ∃ N, (fewF e0).length + (fewF e1).length + (fewF e2).length = N := ⟨_, rfl⟩
  have hNl : all.length = N := by rw [← ha, ← hN, List.length_append, List.length_append]
  rw [← List.flatMap_append, ← List.flatMap_append, ha, hN] at M
  rw [hN]
  have hN2 : N ≤ 240 := by omega
  replace M : Mem wg4 [aLk bl l1, aLk b2 l2, aBox gz [v2], aBox yb [v1]] [aFl v1 fs1, aFl v2 fs2, aLr 48 8 (.slice B2 N d2) N (all.flatMap OE.cells), zPre w] := M.freeze.third.subz (by intro z hz; simp only [List.mem_cons, List.not_mem_nil, or_false] at hz ⊢; grind)
  clear m0 m1 m2 ha hN
  (repeat (first | (refine WR.id ?_; first | refine WR.nil ?_ | refine WR.s ?_ | refine WR.g ?_) | (refine W.id ?_; first | refine W.seq fun _ _ => ?_ | refine W.region ?_ | refine W.s ?_ | refine W.e ?_) | (refine Ends.id ?_; first | refine Ends.seq (by assumption) ?_ | refine Ends.s ?_)))
  refine W.loop (X := Nat) (fun x => [(7, .pointer (some ⟨bl, 0, none⟩)), (8, .pointer (some ⟨yb, 0, none⟩)), (11, .pointer (some ⟨b2, 0, none⟩)), (12, .pointer (some ⟨gz, 0, none⟩)), (71, .slice B2 N d2), (72, .int .i64 (N : Nat)), (73, .int .i64 (x : Nat))])
    (fun x wr => x ≤ N ∧ Mem wr [aLk bl l1, aLk b2 l2, aBox gz [v2], aBox yb [v1]] [aFl v1 fs1, aFl v2 fs2, aLr 48 8 (.slice B2 N d2) N (all.flatMap OE.cells), zPre w]) (fun x => N - x)
    0 (by repeat (first | exact .nil | refine .cons rfl ?_)) ⟨Nat.zero_le _, M⟩ ?_
  clear M
  rintro i wr ⟨hi, M⟩ K3 hK3
  (repeat (first | (refine WR.id ?_; first | refine WR.nil ?_ | refine WR.s ?_ | refine WR.g ?_) | (refine W.id ?_; first | refine W.seq fun _ _ => ?_ | refine W.region ?_ | refine W.s ?_ | refine W.e ?_) | (refine Ends.id ?_; first | refine Ends.seq (by assumption) ?_ | refine Ends.s ?_)))
  refine W.condP (by rfl) (fun hlt3 => ?_) (fun hlt3 => ?_)
  · obtain ⟨o, A, cp, a5, rfl, hrng, hok⟩ := all_at (j := i) hall hNl M (k := 2) rfl (by omega)
    obtain ⟨⟨k1, k2, k3, k4, k5, k6, k7⟩, hbl⟩ := id hok
    (repeat (first | (refine WR.id ?_; first | refine WR.nil ?_ | refine WR.s ?_ | refine WR.g ?_) | (refine W.id ?_; first | refine W.seq fun _ _ => ?_ | refine W.region ?_ | refine W.s ?_ | refine W.e ?_) | (refine Ends.id ?_; first | refine Ends.seq (by assumption) ?_ | refine Ends.s ?_)))
    refine WR.indexAddr (j := i) (by rfl) (by rfl) (by rfl) (by omega) ?_
    refine WR.loadRow (by rfl) hrng (by rfl) (by rfl) ?_
    refine WR.allocStore (c := (OE.cells (o, .slice A o.fl.bytes.length cp)).toArray) (by rfl) (by rfl) rfl (by rfl) (by rfl) (all_oneCell_toArray (OE.one _ rfl)) (by rfl) fun w6 hb6 hx6 hs6 => ?_
    replace M := (M.newBox (cs := OE.cells (o, .slice A o.fl.bytes.length cp)) hb6 hx6).freeze
    generalize wr.heap.size = b9 at M ⊢
    have hB9 := M.zbox 0 rfl
    have hY := M.fourth.box
    have hZ := M.third.box
    clear hrng
    (repeat (first | (refine WR.id ?_; first | refine WR.nil ?_ | refine WR.s ?_ | refine WR.g ?_) | (refine W.id ?_; first | refine W.seq fun _ _ => ?_ | refine W.region ?_ | refine W.s ?_ | refine W.e ?_) | (refine Ends.id ?_; first | refine Ends.seq (by assumption) ?_ | refine Ends.s ?_)))
    refine WR.call rfl rfl (agree_M fs1 v1 (o.fl.frm, o.fl.dst) o.now 1 M hT1 rfl k2 k3) ?_
    rintro _ w7 ⟨rfl, M⟩
    refine ⟨_, rfl, ?_⟩
    clear hB9 hY hZ
    have hB9 := M.zbox 0 rfl
    have hZ := M.third.box
    (repeat (first | (refine WR.id ?_; first | refine WR.nil ?_ | refine WR.s ?_ | refine WR.g ?_) | (refine W.id ?_; first | refine W.seq fun _ _ => ?_ | refine W.region ?_ | refine W.s ?_ | refine W.e ?_) | (refine Ends.id ?_; first | refine Ends.seq (by assumption) ?_ | refine Ends.s ?_)))
    refine WR.call rfl rfl (agree_M fs2 v2 (o.fl.frm, o.fl.dst) o.now 2 M.swap hT2 rfl k2 k3) ?_
    rintro _ w8 ⟨rfl, M⟩
    refine ⟨_, rfl, ?_⟩
    clear hB9 hZ
    (repeat (first | (refine WR.id ?_; first | refine WR.nil ?_ | refine WR.s ?_ | refine WR.g ?_) | (refine W.id ?_; first | refine W.seq fun _ _ => ?_ | refine W.region ?_ | refine W.s ?_ | refine W.e ?_) | (refine Ends.id ?_; first | refine Ends.seq (by assumption) ?_ | refine Ends.s ?_)))
    exact Ends.round hK3 (i + 1) (by repeat (first | exact .nil | refine .cons rfl ?_)) ⟨by omega, M.swap.dropz⟩ (by omega)
  · (repeat (first | (refine WR.id ?_; first | refine WR.nil ?_ | refine WR.s ?_ | refine WR.g ?_) | (refine W.id ?_; first | refine W.seq fun _ _ => ?_ | refine W.region ?_ | refine W.s ?_ | refine W.e ?_) | (refine Ends.id ?_; first | refine Ends.seq (by assumption) ?_ | refine Ends.s ?_)))
    exact Ends.ret1 rfl rfl ⟨rfl, M.pre 3 rfl⟩
end Go.Proofs.Ytibmcpbkialbnaa
