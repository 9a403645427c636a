/- Layer 12's laws: ops; what kind; few of them. No condition beyond sizes. -/
import Derived.Test.YtibmcpbkialbnaaLkE
namespace Go.Proofs.Ytibmcpbkialbnaa
open Go.RowKit K L E
open Go.Maps (Keyed)
set_option linter.unusedVariables false
set_option linter.unusedSimpArgs false

/-- An op. -/
structure PO where
  kind : Int
  fl : PF
  n : Int
  bit : Int
  now : Int
/-- An op as it lies: with its bytes' value. -/
abbrev OE := PO × Value
def OE.cells (e : OE) : List Value := [.int .i64 e.1.kind, .int .i64 e.1.fl.frm, .int .i64 e.1.fl.dst, .int .i64 e.1.fl.tick, e.2, .int .i64 e.1.n, .int .i64 e.1.bit, .int .i64 e.1.now]
def PO.i64s (o : PO) : Prop := i64 o.kind ∧ i64 o.fl.frm ∧ i64 o.fl.dst ∧ i64 o.fl.tick ∧ i64 o.n ∧ i64 o.bit ∧ i64 o.now
def PO.okk (o : PO) : Prop := o.i64s ∧ o.fl.bytes.length ≤ 1048576
def OpsF (w : World) (F : Nat → Prop) (v : Value) (es : List OE) : Prop := Sl w F 8 v es.length (es.flatMap OE.cells) ∧ (∀ e ∈ es, Bs w F e.2 e.1.fl.bytes ∧ e.1.okk) ∧ es.length ≤ 1048576
theorem OpsF.below {w w' : World} {F : Nat → Prop} {v : Value} {es : List OE} (h : OpsF w F v es) (hb : Below w.heap.size w w') : OpsF w' F v es :=
  ⟨Sl.below h.1 (by decide) hb, fun e he => ⟨Sl.below (h.2.1 e he).1 (by decide) hb, (h.2.1 e he).2⟩, h.2.2⟩
def cut401 (e : OE) : OE := ({ e.1 with fl := { e.1.fl with bytes := e.1.fl.bytes.take 401 } }, match e.2 with | .slice A n c => .slice A (min n 401) c | v => v)
def fewF (es : List OE) : List OE := (es.take 80).map cut401
/-- Ops that nobody writes. -/
def zOps (v : Value) (es : List OE) : Ass := ⟨fun w F => OpsF w F v es ∧ ∀ b, F b → b < w.heap.size, fun h b hb => h.2 b hb, fun {w w' F} h hs => ⟨⟨h.1.1.keep (by decide) fun b _ hF => hs.block b hF, fun e he => ⟨(h.1.2.1 e he).1.keep (by decide) fun b _ hF => hs.block b hF, (h.1.2.1 e he).2⟩, h.1.2.2⟩, fun b hb => Nat.lt_of_lt_of_le (h.2 b hb) hs.size⟩⟩
theorem OpsF.at_ {w : World} {F : Nat → Prop} {v : Value} {es : List OE} (h : OpsF w F v es) {j : Nat} {e : OE} (hj : es[j]? = some e) : ∃ b o c, v = .slice (some ⟨b, o, none⟩) es.length c ∧ w.rangeAt b (o + j * 8) e.cells ∧ Bs w F e.2 e.1.fl.bytes ∧ e.1.okk := by
  have hlt := (List.getElem?_eq_some_iff.1 hj).1
  obtain ⟨hs, hb, hl⟩ := h
  have hs2 := hs
  obtain ⟨_, A, c, rfl, -⟩ := hs
  obtain ⟨b, o, rfl, -, -, hc⟩ := Sl.cells hs2 (by omega) (by decide)
  refine ⟨b, o, c, rfl, ?_, hb e (List.mem_of_getElem? hj)⟩
  refine range_get (css := es.map OE.cells) (fun j u hu => hc j u (by rw [List.flatMap_def]; exact hu)) (fun c hc => ?_) (by rw [List.getElem?_map, hj]; rfl)
  obtain ⟨e, _, rfl⟩ := List.mem_map.1 hc
  rfl
theorem Bs.cut {w : World} {F : Nat → Prop} {A : Option Addr} {n c : Nat} {xs : List UInt8} (h : Bs w F (.slice A n c) xs) (k : Nat) : Bs w F (.slice A (min n k) c) (xs.take k) := by
  obtain ⟨A', c', he, -⟩ := h.open_
  have hn : n = xs.length := by cases he; rfl
  subst hn
  have := Bs.sub h 0 (min xs.length k) (by omega)
  rw [List.drop_zero] at this
  rw [show xs.take k = xs.take (min xs.length k) by rw [List.take_eq_take_iff]; omega]
  have e : (if c = 0 then A else A.map (·.add 0)) = A := by
    split
    · rfl
    · cases A <;> simp [Addr.add]
  rw [e, Nat.sub_zero] at this
  exact this
theorem cut_ok {w : World} {F : Nat → Prop} {e : OE} (h : Bs w F e.2 e.1.fl.bytes ∧ e.1.okk) : Bs w F (cut401 e).2 (cut401 e).1.fl.bytes ∧ (cut401 e).1.okk := by
  obtain ⟨o, v⟩ := e
  obtain ⟨hb, h1, h2⟩ := h
  obtain ⟨A, c, hv, -⟩ := Bs.open_ hb
  dsimp only at hv h2
  subst hv
  refine ⟨Bs.cut hb 401, h1, ?_⟩
  show (o.fl.bytes.take 401).length ≤ _
  rw [List.length_take]; omega
theorem Try.elOp : Elem Try.prog 42 48 8 80 (.agg #[.int .i64 0, .int .i64 0, .int .i64 0, .int .i64 0, .slice none 0 0, .int .i64 0, .int .i64 0, .int .i64 0]) := ⟨Try.underlying42, by kernel_rfl, rfl, by decide⟩
theorem OE.one (e : OE) (h : e.2.oneCell' = true) : ∀ u ∈ e.cells, u.oneCell' = true := by
  intro u hu
  simp [OE.cells] at hu
  rcases hu with rfl | rfl | rfl | rfl | rfl | rfl | rfl | rfl <;> first | rfl | exact h
theorem bs_one {w : World} {F : Nat → Prop} {v : Value} {xs : List UInt8} (h : Bs w F v xs) : v.oneCell' = true := by obtain ⟨A, c, rfl, -⟩ := h.open_; rfl
set_option maxHeartbeats 1000000 in
theorem few_any (v : Value) (es : List OE) (w : World) (F : Nat → Prop) (h : OpsF w F v es) :
    Calls Try.prog 20 #[v] w fun r w' => ∃ v', r = .returned v' ∧ Fresh w w' (aLr 48 8 v' (fewF es).length ((fewF es).flatMap OE.cells)) := by
  have hs := h
  obtain ⟨⟨_, A, cp, rfl, -⟩, -, hlen⟩ := h
  have M : Mem w [] [zOps (.slice A es.length cp) es, zPre w] := Mem.src (F := fun b => F b ∧ b < w.heap.size) ⟨⟨Sl.imp hs.1 (fun b hb hF => ⟨hF, hb⟩) (by decide), fun e he => ⟨Sl.imp (hs.2.1 e he).1 (fun b hb hF => ⟨hF, hb⟩) (by decide), (hs.2.1 e he).2⟩, hlen⟩, fun b hb => hb.2⟩
  refine enter Try.func20 rfl Try.ntmps20 rfl rfl ?_
  (repeat (first | (refine WR.id ?_; first | refine WR.nil ?_ | refine WR.s ?_ | refine WR.g ?_) | (refine W.id ?_; first | refine W.seq fun _ _ => ?_ | refine W.region ?_ | refine W.s ?_ | refine W.e ?_) | (refine Ends.id ?_; first | refine Ends.seq (by assumption) ?_ | refine Ends.s ?_)))
  replace M : Mem w [aLr 48 8 (.slice none 0 0) 0 []] _ := M.new (Below.refl _ _) (F := fun _ => False) ⟨fun x => ⟨fun h => h.elim, fun h => by cases h⟩, rfl, .inl ⟨rfl, rfl⟩⟩ (fun x h => h.elim)
  refine W.loop (X := Nat × Option Addr × Nat) (fun x => [(3, .slice x.2.1 x.1 x.2.2), (6, .slice A es.length cp), (7, .int .i64 (es.length : Nat)), (8, .int .i64 (x.1 : Nat))])
    (fun x wr => x.1 ≤ es.length ∧ x.1 ≤ 80 ∧ Mem wr [aLr 48 8 (.slice x.2.1 x.1 x.2.2) x.1 (((es.take x.1).map cut401).flatMap OE.cells)] [zOps (.slice A es.length cp) es, zPre w]) (fun x => es.length - x.1)
    (0, none, 0) (by repeat (first | exact .nil | refine .cons rfl ?_)) ⟨Nat.zero_le _, by decide, by simpa using M⟩ ?_
  clear M
  rintro ⟨j, Ar, cr⟩ wr ⟨hj, hj8, M⟩ K hK
  dsimp only at hj hj8 M
  dsimp only
  (repeat (first | (refine WR.id ?_; first | refine WR.nil ?_ | refine WR.s ?_ | refine WR.g ?_) | (refine W.id ?_; first | refine W.seq fun _ _ => ?_ | refine W.region ?_ | refine W.s ?_ | refine W.e ?_) | (refine Ends.id ?_; first | refine Ends.seq (by assumption) ?_ | refine Ends.s ?_)))
  refine W.condP (by rfl) (fun hlt => ?_) (fun hlt => ?_)
  · have hlt' : j < es.length := by omega
    obtain ⟨e, he⟩ : ∃ e, es[j]? = some e := ⟨_, List.getElem?_eq_getElem hlt'⟩
    obtain ⟨Fz, hz, -⟩ := M.z 0 rfl
    obtain ⟨b, o, c, hA, hr, hbs, hok⟩ := hz.at_ he
    cases hA
    have h1b := bs_one hbs
    (repeat (first | (refine WR.id ?_; first | refine WR.nil ?_ | refine WR.s ?_ | refine WR.g ?_) | (refine W.id ?_; first | refine W.seq fun _ _ => ?_ | refine W.region ?_ | refine W.s ?_ | refine W.e ?_) | (refine Ends.id ?_; first | refine Ends.seq (by assumption) ?_ | refine Ends.s ?_)))
    refine WR.indexAddr (j := j) (by rfl) (by rfl) (by rfl) hlt' ?_
    refine WR.loadRow (by rfl) hr (by rfl) (by rfl) ?_
    refine WR.alloc (by rfl) fun w1 hb1 hx1 hs1 => ?_
    replace M := M.newBox hb1 hx1
    refine WR.assign rfl rfl ?_
    refine WR.storeAgg (cs' := e.cells) M.box (by rfl) (by rfl) (by rfl) (by rfl) (OE.one e h1b) fun w2 hu2 hx2 hs2 => ?_
    replace M := M.setBox hu2 hx2
    have hB := M.box
    by_cases h80 : j = 80
    · subst h80
      (repeat (first | (refine WR.id ?_; first | refine WR.nil ?_ | refine WR.s ?_ | refine WR.g ?_) | (refine W.id ?_; first | refine W.seq fun _ _ => ?_ | refine W.region ?_ | refine W.s ?_ | refine W.e ?_) | (refine Ends.id ?_; first | refine Ends.seq (by assumption) ?_ | refine Ends.s ?_)))
      refine Ends.ret1 rfl rfl ⟨_, rfl, ?_⟩
      have hf : fewF es = (es.take 80).map cut401 := rfl
      rw [hf, show ((es.take 80).map cut401).length = 80 by simp; omega]
      exact M.drop.fresh 1 rfl
    · obtain ⟨oo, vb⟩ := e
      obtain ⟨Ab, cb, hvb, hcb, -⟩ := Bs.open_ hbs
      dsimp only at hvb hcb
      subst hvb
      (repeat (first | (refine WR.id ?_; first | refine WR.nil ?_ | refine WR.s ?_ | refine WR.g ?_) | (refine W.id ?_; first | refine W.seq fun _ _ => ?_ | refine W.region ?_ | refine W.s ?_ | refine W.e ?_) | (refine Ends.id ?_; first | refine Ends.seq (by assumption) ?_ | refine Ends.s ?_)))
      rw [show min ((oo.fl.bytes.length : Nat) : Int) 401 = ((min oo.fl.bytes.length 401 : Nat) : Int) from by omega]
      refine WR.slice_h (by rfl) (by rfl) (by rfl) (by omega) ?_
      (repeat (first | (refine WR.id ?_; first | refine WR.nil ?_ | refine WR.s ?_ | refine WR.g ?_) | (refine W.id ?_; first | refine W.seq fun _ _ => ?_ | refine W.region ?_ | refine W.s ?_ | refine W.e ?_) | (refine Ends.id ?_; first | refine Ends.seq (by assumption) ?_ | refine Ends.s ?_)))
      refine WR.storeBox hB (by rfl) (by rfl) rfl rfl (by simp [OE.cells]) fun w3 hu3 hx3 hs3 => ?_
      replace M : Mem w3 (aBox wr.heap.size (cut401 (oo, .slice Ab oo.fl.bytes.length cb)).cells :: _) _ := M.setBox hu3 hx3
      have hB := M.box
      (repeat (first | (refine WR.id ?_; first | refine WR.nil ?_ | refine WR.s ?_ | refine WR.g ?_) | (refine W.id ?_; first | refine W.seq fun _ _ => ?_ | refine W.region ?_ | refine W.s ?_ | refine W.e ?_) | (refine Ends.id ?_; first | refine Ends.seq (by assumption) ?_ | refine Ends.s ?_)))
      refine WR.row1 Try.elOp (by decide) (by rfl) (by rfl) (by rfl) fun w4 hb4 hs4 => ?_
      replace M := (M.below hb4).drop
      refine WR.lapp Try.elOp M (by rfl) (by rfl) (by rfl) hs4 (OE.one (cut401 (oo, .slice Ab oo.fl.bytes.length cb)) rfl) (by omega) (by decide) fun A5 c5 w5 M => ?_
      (repeat (first | (refine WR.id ?_; first | refine WR.nil ?_ | refine WR.s ?_ | refine WR.g ?_) | (refine W.id ?_; first | refine W.seq fun _ _ => ?_ | refine W.region ?_ | refine W.s ?_ | refine W.e ?_) | (refine Ends.id ?_; first | refine Ends.seq (by assumption) ?_ | refine Ends.s ?_)))
      refine Ends.round hK (j + 1, A5, c5) (by repeat (first | exact .nil | refine .cons rfl ?_)) ⟨by dsimp only; omega, by dsimp only; omega, ?_⟩ (by dsimp only; omega)
      dsimp only
      have e1 : es.take (j + 1) = es.take j ++ [(oo, .slice Ab oo.fl.bytes.length cb)] := by
        rw [List.take_add_one, he]; rfl
      rw [e1, List.map_append, List.flatMap_append, show ([(oo, .slice Ab oo.fl.bytes.length cb)].map cut401).flatMap OE.cells = (cut401 (oo, .slice Ab oo.fl.bytes.length cb)).cells from by simp]
      exact M
  · obtain rfl : j = es.length := by omega
    (repeat (first | (refine WR.id ?_; first | refine WR.nil ?_ | refine WR.s ?_ | refine WR.g ?_) | (refine W.id ?_; first | refine W.seq fun _ _ => ?_ | refine W.region ?_ | refine W.s ?_ | refine W.e ?_) | (refine Ends.id ?_; first | refine Ends.seq (by assumption) ?_ | refine Ends.s ?_)))
    refine Ends.ret1 rfl rfl ⟨_, rfl, ?_⟩
    have hf : fewF es = (es.take es.length).map cut401 := by unfold fewF; rw [List.take_of_length_le hj8, List.take_length]
    rw [hf, show ((es.take es.length).map cut401).length = es.length by simp]
    exact M.fresh 1 rfl

end Go.Proofs.Ytibmcpbkialbnaa
