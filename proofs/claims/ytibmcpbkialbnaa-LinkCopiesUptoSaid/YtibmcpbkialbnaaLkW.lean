/- Flights are sent, delivered, lost, doubled and spoilt as the document says: LinkDoes' walk. No condition beyond sizes. -/
import Derived.Test.YtibmcpbkialbnaaLkV
namespace Go.Proofs.Ytibmcpbkialbnaa
open Go.RowKit K L E
open Go.Maps (Keyed)
set_option linter.unusedVariables false
set_option linter.unusedSimpArgs false

theorem few_get' {es : List OE} {j : Nat} (hj : j < (fewF es).length) : ∃ e, es[j]? = some e ∧ (fewF es)[j]? = some (cut401 e) := by
  unfold fewF at hj ⊢
  rw [List.length_map, List.length_take] at hj
  refine ⟨es[j], List.getElem?_eq_getElem (by omega), ?_⟩
  rw [List.getElem?_map, List.getElem?_take_of_lt (by omega), List.getElem?_eq_getElem (by omega)]; rfl
theorem few_len' (es : List OE) : (fewF es).length ≤ 80 := by unfold fewF; simp; omega
theorem build_links0 (w : World) : (Instr.build 45 #[]).run Try.prog w = .ok (.agg #[.slice none 0 0]) w := by kernel_rfl
/-- The op at j of a row of few. -/
theorem few_at {w : World} {A : Option Addr} {c j : Nat} {v0 : Value} {es : List OE} {k ko : Nat} {Os Zs : List Ass} (M : Mem w Os Zs) (hk : Zs[k]? = some (aLr 48 8 (.slice A (fewF es).length c) (fewF es).length ((fewF es).flatMap OE.cells))) (hko : Zs[ko]? = some (zOps v0 es)) (hj : j < (fewF es).length) :
    ∃ (o : PO) (B : Option Addr) (cp a : Nat), A = some ⟨a, 0, none⟩ ∧ w.rangeAt a (0 + j * 8) (OE.cells (o, .slice B o.fl.bytes.length cp)) ∧ o.okk ∧ (∀ {u : World} {F : Nat → Prop}, (zOps v0 es).p u F → ∃ F, Bs u F (.slice B o.fl.bytes.length cp) o.fl.bytes) ∧ (fewF es)[j]?.map (·.1) = some o := by
  obtain ⟨⟨o0, vb0⟩, he, he2⟩ := few_get' hj
  obtain ⟨F5, h5⟩ := M.z k hk
  obtain ⟨a5, rfl⟩ : ∃ a, A = some ⟨a, 0, none⟩ := by
    obtain ⟨_, ⟨h0, h1⟩ | ⟨a, _, _, h0, _⟩⟩ := h5.2
    · omega
    · cases h0; exact ⟨a, rfl⟩
  have hrng := range_get (css := (fewF es).map OE.cells) (i := j) (k := 8) (by rw [← List.flatMap_def]; exact At.lit (h5.2.cells (g := a5) rfl)) (fun c hc => by obtain ⟨x, _, rfl⟩ := List.mem_map.1 hc; rfl) (by rw [List.getElem?_map, he2]; rfl)
  obtain ⟨Fo, hFo, -⟩ := M.z ko hko
  obtain ⟨hbs, hok⟩ := cut_ok (hFo.2.1 _ (List.mem_of_getElem? he))
  have hzb : ∀ {u : World} {F : Nat → Prop}, (zOps v0 es).p u F → ∃ F, Bs u F (cut401 (o0, vb0)).2 (cut401 (o0, vb0)).1.fl.bytes := fun h => ⟨_, (cut_ok (h.1.2.1 _ (List.mem_of_getElem? he))).1⟩
  rw [he2]
  generalize cut401 (o0, vb0) = e at *
  obtain ⟨o, vb⟩ := e
  obtain ⟨B, cp, h, -⟩ := hbs.open_
  dsimp only at h
  subst h
  exact ⟨o, B, cp, a5, rfl, hrng, hok, hzb, rfl⟩
set_option maxRecDepth 100000 in
set_option maxHeartbeats 4000000 in
theorem linkDoes_walk (v0 : Value) (es : List OE) (w : World) (F : Nat → Prop) (hs : OpsF w F v0 es) :
    Calls Try.prog 5 #[v0] w fun r w' => r = .returned (.bool true) ∧ Below w.heap.size w w' := by
  have M : Mem w [] [zOps v0 es, zPre w] := Mem.src (F := fun b => F b ∧ b < w.heap.size) ⟨⟨Sl.imp hs.1 (fun b hb hF => ⟨hF, hb⟩) (by decide), fun e he => ⟨Sl.imp (hs.2.1 e he).1 (fun b hb hF => ⟨hF, hb⟩) (by decide), (hs.2.1 e he).2⟩, hs.2.2⟩, fun b hb => hb.2⟩
  refine enter Try.func5 rfl Try.ntmps5 rfl rfl ?_
  (repeat (first | (refine WR.id ?_; first | refine WR.nil ?_ | refine WR.s ?_ | refine WR.g ?_) | (refine W.id ?_; first | refine W.seq fun _ _ => ?_ | refine W.region ?_ | refine W.s ?_ | refine W.e ?_) | (refine Ends.id ?_; first | refine Ends.seq (by assumption) ?_ | refine Ends.s ?_)))
  refine WR.call rfl rfl (wakes_M M) ?_
  rintro _ w2 ⟨rfl, M⟩
  refine ⟨_, rfl, ?_⟩
  (repeat (first | (refine WR.id ?_; first | refine WR.nil ?_ | refine WR.s ?_ | refine WR.g ?_) | (refine W.id ?_; first | refine W.seq fun _ _ => ?_ | refine W.region ?_ | refine W.s ?_ | refine W.e ?_) | (refine Ends.id ?_; first | refine Ends.seq (by assumption) ?_ | refine Ends.s ?_)))
  refine WR.call rfl rfl (new_M M) ?_
  rintro _ w3 ⟨bl, rfl, M⟩
  refine ⟨_, rfl, ?_⟩
  (repeat (first | (refine WR.id ?_; first | refine WR.nil ?_ | refine WR.s ?_ | refine WR.g ?_) | (refine W.id ?_; first | refine W.seq fun _ _ => ?_ | refine W.region ?_ | refine W.s ?_ | refine W.e ?_) | (refine Ends.id ?_; first | refine Ends.seq (by assumption) ?_ | refine Ends.s ?_)))
  refine WR.buildRun (vs := #[]) (fun a ha => by simp) rfl (build_links0 _) ?_
  refine WR.allocStore (c := #[.slice none 0 0]) (by rfl) (by rfl) rfl (by rfl) (by rfl) (all_oneCell_toArray (fun u hu => by obtain rfl := List.mem_singleton.1 hu; rfl)) (by rfl) fun w4 hb4 hx4 hs4 => ?_
  replace M := M.newBox (cs := [.slice none 0 0]) hb4 hx4
  generalize w3.heap.size = yb at M ⊢
  replace M := ((M.new (Below.refl _ _) (aFl_nil w4) (fun x h => h.elim)).freeze).swap
  obtain ⟨Fo, hFo, -⟩ := M.z 1 rfl
  (repeat (first | (refine WR.id ?_; first | refine WR.nil ?_ | refine WR.s ?_ | refine WR.g ?_) | (refine W.id ?_; first | refine W.seq fun _ _ => ?_ | refine W.region ?_ | refine W.s ?_ | refine W.e ?_) | (refine Ends.id ?_; first | refine Ends.seq (by assumption) ?_ | refine Ends.s ?_)))
  refine WR.call rfl rfl (few_any _ _ _ _ hFo) ?_
  rintro _ w5 ⟨v5, rfl, hf5⟩
  refine ⟨_, rfl, ?_⟩
  replace M := (M.add hf5).freeze
  have hn80 := few_len' es
  obtain ⟨A5, c5, rfl⟩ : ∃ A c, v5 = .slice A (fewF es).length c := by obtain ⟨F5, h5⟩ := M.z 0 rfl; obtain ⟨_, A, c, h, _⟩ := h5.2.sl; exact ⟨A, c, h⟩
  clear hf5 hFo
  replace M : Mem w5 [aLk bl PL.none, aBox yb [.slice none 0 0]] [aFl (.slice none 0 0) [], aLr 48 8 (.slice A5 (fewF es).length c5) (fewF es).length ((fewF es).flatMap OE.cells), zOps v0 es, zPre w] := M.subz (by intro z hz; simp only [List.mem_cons, List.not_mem_nil, or_false] at hz ⊢; rcases hz with rfl | rfl | rfl | rfl <;> simp)
  (repeat (first | (refine WR.id ?_; first | refine WR.nil ?_ | refine WR.s ?_ | refine WR.g ?_) | (refine W.id ?_; first | refine W.seq fun _ _ => ?_ | refine W.region ?_ | refine W.s ?_ | refine W.e ?_) | (refine Ends.id ?_; first | refine Ends.seq (by assumption) ?_ | refine Ends.s ?_)))
  refine W.loop (X := Nat × PL × RF × Value) (fun x => [(3, .pointer (some ⟨bl, 0, none⟩)), (4, .pointer (some ⟨yb, 0, none⟩)), (14, .slice A5 (fewF es).length c5), (15, .int .i64 ((fewF es).length : Nat)), (16, .int .i64 (x.1 : Nat))])
    (fun x wr => x.1 ≤ (fewF es).length ∧ TieL x.2.1 x.2.2.1 ∧ Mem wr [aLk bl x.2.1, aBox yb [x.2.2.2]] [aFl x.2.2.2 x.2.2.1, aLr 48 8 (.slice A5 (fewF es).length c5) (fewF es).length ((fewF es).flatMap OE.cells), zOps v0 es, zPre w]) (fun x => (fewF es).length - x.1)
    (0, PL.none, [], .slice none 0 0) (by repeat (first | exact .nil | refine .cons rfl ?_)) ⟨Nat.zero_le _, TieL.none, M⟩ ?_
  clear M
  rintro ⟨j, l, fs, v⟩ wr ⟨hj, hT, M⟩ K hK
  dsimp only at hj hT M
  dsimp only
  (repeat (first | (refine WR.id ?_; first | refine WR.nil ?_ | refine WR.s ?_ | refine WR.g ?_) | (refine W.id ?_; first | refine W.seq fun _ _ => ?_ | refine W.region ?_ | refine W.s ?_ | refine W.e ?_) | (refine Ends.id ?_; first | refine Ends.seq (by assumption) ?_ | refine Ends.s ?_)))
  refine W.condP (by rfl) (fun hlt => ?_) (fun hlt => ?_)
  · obtain ⟨o, A, cp, a5, rfl, hrng, hok, hzb, -⟩ := few_at (j := j) M (k := 1) (ko := 2) rfl rfl (by omega)
    obtain ⟨⟨k1, k2, k3, k4, k5, k6, k7⟩, hbl⟩ := id hok
    (repeat (first | (refine WR.id ?_; first | refine WR.nil ?_ | refine WR.s ?_ | refine WR.g ?_) | (refine W.id ?_; first | refine W.seq fun _ _ => ?_ | refine W.region ?_ | refine W.s ?_ | refine W.e ?_) | (refine Ends.id ?_; first | refine Ends.seq (by assumption) ?_ | refine Ends.s ?_)))
    refine WR.indexAddr (j := j) (by rfl) (by rfl) (by rfl) (by omega) ?_
    refine WR.loadRow (by rfl) hrng (by rfl) (by rfl) ?_
    refine WR.allocStore (c := (OE.cells (o, .slice A o.fl.bytes.length cp)).toArray) (by rfl) (by rfl) rfl (by rfl) (by rfl) (all_oneCell_toArray (OE.one _ rfl)) (by rfl) fun w6 hb6 hx6 hs6 => ?_
    replace M := (M.newBox (cs := OE.cells (o, .slice A o.fl.bytes.length cp)) hb6 hx6).freeze
    generalize wr.heap.size = b9 at M ⊢
    have hB9 := M.zbox 0 rfl
    (repeat (first | (refine WR.id ?_; first | refine WR.nil ?_ | refine WR.s ?_ | refine WR.g ?_) | (refine W.id ?_; first | refine W.seq fun _ _ => ?_ | refine W.region ?_ | refine W.s ?_ | refine W.e ?_) | (refine Ends.id ?_; first | refine Ends.seq (by assumption) ?_ | refine Ends.s ?_)))
    refine WR.call rfl rfl (does_M fs v o (.slice A o.fl.bytes.length cp) 1 3 M hT rfl rfl hzb hok) ?_
    clear hB9 hrng
    rintro _ w7 ⟨rfl, v', M⟩
    refine ⟨_, rfl, ?_⟩
    have hB9 := M.zbox 1 rfl
    have hB := M.swap.box
    have hT' := (hT.act o).2
    (repeat (first | (refine WR.id ?_; first | refine WR.nil ?_ | refine WR.s ?_ | refine WR.g ?_) | (refine W.id ?_; first | refine W.seq fun _ _ => ?_ | refine W.region ?_ | refine W.s ?_ | refine W.e ?_) | (refine Ends.id ?_; first | refine Ends.seq (by assumption) ?_ | refine Ends.s ?_)))
    refine WR.call rfl rfl (agree_M (RF.act fs o).2 v' (o.fl.frm, o.fl.dst) o.now 0 M hT' rfl k2 k3) ?_
    clear hB9 hB
    rintro _ w8 ⟨rfl, M⟩
    refine ⟨_, rfl, ?_⟩
    (repeat (first | (refine WR.id ?_; first | refine WR.nil ?_ | refine WR.s ?_ | refine WR.g ?_) | (refine W.id ?_; first | refine W.seq fun _ _ => ?_ | refine W.region ?_ | refine W.s ?_ | refine W.e ?_) | (refine Ends.id ?_; first | refine Ends.seq (by assumption) ?_ | refine Ends.s ?_)))
    exact Ends.round hK (j + 1, (l.act o).2, (RF.act fs o).2, v') (by repeat (first | exact .nil | refine .cons rfl ?_)) ⟨by dsimp only; omega, hT', M.subz (by intro z hz; simp only [List.mem_cons, List.not_mem_nil, or_false] at hz ⊢; rcases hz with rfl | rfl | rfl | rfl <;> simp)⟩ (by dsimp only; omega)
  · (repeat (first | (refine WR.id ?_; first | refine WR.nil ?_ | refine WR.s ?_ | refine WR.g ?_) | (refine W.id ?_; first | refine W.seq fun _ _ => ?_ | refine W.region ?_ | refine W.s ?_ | refine W.e ?_) | (refine Ends.id ?_; first | refine Ends.seq (by assumption) ?_ | refine Ends.s ?_)))
    refine W.loop (X := Nat) (fun i => [(3, .pointer (some ⟨bl, 0, none⟩)), (4, .pointer (some ⟨yb, 0, none⟩)), (39, .int .i64 (i : Nat))])
      (fun i wr => i ≤ 8 ∧ Mem wr [aLk bl l, aBox yb [v]] [aFl v fs, aLr 48 8 (.slice A5 (fewF es).length c5) (fewF es).length ((fewF es).flatMap OE.cells), zOps v0 es, zPre w]) (fun i => 8 - i) 0 (by repeat (first | exact .nil | refine .cons rfl ?_)) ⟨Nat.zero_le _, M⟩ ?_
    clear M
    rintro i wi ⟨hi, M⟩ K2 hK2
    (repeat (first | (refine WR.id ?_; first | refine WR.nil ?_ | refine WR.s ?_ | refine WR.g ?_) | (refine W.id ?_; first | refine W.seq fun _ _ => ?_ | refine W.region ?_ | refine W.s ?_ | refine W.e ?_) | (refine Ends.id ?_; first | refine Ends.seq (by assumption) ?_ | refine Ends.s ?_)))
    refine W.condP (by rfl) (fun hlt2 => ?_) (fun hlt2 => ?_)
    · (repeat (first | (refine WR.id ?_; first | refine WR.nil ?_ | refine WR.s ?_ | refine WR.g ?_) | (refine W.id ?_; first | refine W.seq fun _ _ => ?_ | refine W.region ?_ | refine W.s ?_ | refine W.e ?_) | (refine Ends.id ?_; first | refine Ends.seq (by assumption) ?_ | refine Ends.s ?_)))
      refine W.loop (X := Nat) (fun t => [(3, .pointer (some ⟨bl, 0, none⟩)), (4, .pointer (some ⟨yb, 0, none⟩)), (7, .int .i64 (i : Nat)), (39, .int .i64 (i : Nat)), (42, .int .i64 (t : Nat))])
        (fun t wr => t ≤ 8 ∧ Mem wr [aLk bl l, aBox yb [v]] [aFl v fs, aLr 48 8 (.slice A5 (fewF es).length c5) (fewF es).length ((fewF es).flatMap OE.cells), zOps v0 es, zPre w]) (fun t => 8 - t) 0 (by repeat (first | exact .nil | refine .cons rfl ?_)) ⟨Nat.zero_le _, M⟩ ?_
      clear M
      rintro t wt ⟨ht, M⟩ K3 hK3
      have hB := M.swap.box
      (repeat (first | (refine WR.id ?_; first | refine WR.nil ?_ | refine WR.s ?_ | refine WR.g ?_) | (refine W.id ?_; first | refine W.seq fun _ _ => ?_ | refine W.region ?_ | refine W.s ?_ | refine W.e ?_) | (refine Ends.id ?_; first | refine Ends.seq (by assumption) ?_ | refine Ends.s ?_)))
      refine W.condP (by rfl) (fun hlt3 => ?_) (fun hlt3 => ?_)
      · (repeat (first | (refine WR.id ?_; first | refine WR.nil ?_ | refine WR.s ?_ | refine WR.g ?_) | (refine W.id ?_; first | refine W.seq fun _ _ => ?_ | refine W.region ?_ | refine W.s ?_ | refine W.e ?_) | (refine Ends.id ?_; first | refine Ends.seq (by assumption) ?_ | refine Ends.s ?_)))
        refine WR.call rfl rfl (agree_M fs v ((i : Nat), (t : Nat)) 5 0 M hT rfl (by dsimp only [i64]; omega) (by dsimp only [i64]; omega)) ?_
        clear hB
        rintro _ w8 ⟨rfl, M⟩
        refine ⟨_, rfl, ?_⟩
        (repeat (first | (refine WR.id ?_; first | refine WR.nil ?_ | refine WR.s ?_ | refine WR.g ?_) | (refine W.id ?_; first | refine W.seq fun _ _ => ?_ | refine W.region ?_ | refine W.s ?_ | refine W.e ?_) | (refine Ends.id ?_; first | refine Ends.seq (by assumption) ?_ | refine Ends.s ?_)))
        exact Ends.round hK3 (t + 1) (by repeat (first | exact .nil | refine .cons rfl ?_)) ⟨by omega, M⟩ (by omega)
      · clear hB
        (repeat (first | (refine WR.id ?_; first | refine WR.nil ?_ | refine WR.s ?_ | refine WR.g ?_) | (refine W.id ?_; first | refine W.seq fun _ _ => ?_ | refine W.region ?_ | refine W.s ?_ | refine W.e ?_) | (refine Ends.id ?_; first | refine Ends.seq (by assumption) ?_ | refine Ends.s ?_)))
        exact Ends.round hK2 (i + 1) (by repeat (first | exact .nil | refine .cons rfl ?_)) ⟨by omega, M⟩ (by omega)
    · (repeat (first | (refine WR.id ?_; first | refine WR.nil ?_ | refine WR.s ?_ | refine WR.g ?_) | (refine W.id ?_; first | refine W.seq fun _ _ => ?_ | refine W.region ?_ | refine W.s ?_ | refine W.e ?_) | (refine Ends.id ?_; first | refine Ends.seq (by assumption) ?_ | refine Ends.s ?_)))
      exact Ends.ret1 rfl rfl ⟨rfl, M.pre 3 rfl⟩

end Go.Proofs.Ytibmcpbkialbnaa
