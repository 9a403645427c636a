/- Layer 12's laws: an op done to links and to the reference. No condition beyond sizes. -/
import Derived.Test.YtibmcpbkialbnaaLkT
import Derived.Test.YtibmcpbkialbnaaEd4
import Derived.Test.YtibmcpbkialbnaaLkK
namespace Go.Proofs.Ytibmcpbkialbnaa
open Go.RowKit K L E
open Go.Maps (Keyed)
set_option linter.unusedVariables false
set_option linter.unusedSimpArgs false

theorem xor_u8n (x : UInt8) (k : Nat) (h : k < 256) : bits .xor .u8 (x.toNat : Int) (k : Int) = ((x ^^^ UInt8.ofNat k).toNat : Int) := by
  have hx := x.toNat_lt
  have e : (UInt8.ofNat k).toNat = k := by rw [UInt8.toNat_ofNat']; exact Nat.mod_eq_of_lt h
  rw [u8_xor_nat x.toNat _ (by simpa using hx) h, UInt8.toNat_xor, e]
theorem xor_run238 {P : Program} {t : TypeId} {w : World} (x : UInt8) : (binOp .xor t (.int .u8 (x.toNat : Int)) (.int .u8 238)).run P w = .ok (.int .u8 ((x ^^^ 238).toNat : Int)) w := by
  have h := xor_u8n x 238 (by decide)
  rw [show (x ^^^ (238 : UInt8)) = x ^^^ UInt8.ofNat 238 from rfl, ← h, binOp_xor]; rfl
theorem E.GotZ.on {w u u' : World} {a : Ass} {F : Nat → Prop} (h : GotZ w u F a) (hb : Below u.heap.size u u') : GotZ w u' F a :=
  ⟨h.1.trans (hb.mono h.1.size), h.2.elim fun F' h2 => ⟨F', a.stab h2.1 ((Stays.of_below hb).mono fun b hb => a.bnd h2.1 b hb), h2.2⟩⟩
theorem set_by {v : Value} {bs : List UInt8} {j : Nat} {y : UInt8} {n : Nat} (hn : n = bs.length) : aRow 5 1 v n ((bvs bs).set j (.int .u8 (y.toNat : Int))) = aBy v (bs.set j y) := by
  unfold aBy
  rw [List.length_set, hn]
  congr 1
  simp [bvs, List.map_set, bv]
variable {w : World} {b yb : Nat} {l : PL} {Os Zs : List Ass}
theorem E.Mem.gotBox {s : Ass} (M : Mem w Os Zs) (k : Nat) (hz : Zs[k]? = some s) : ∃ F, s.p w F ∧ (∀ b, F b → b < w.heap.size) ∧ ∀ (w' : World) (a1 a2 : Ass) (F1 F2 : Nat → Prop) (g : Nat) (cs : List Value), Below w.heap.size w w' → a1.p w' F1 → (∀ b, F1 b → F b ∨ (w.heap.size ≤ b ∧ b ≠ g)) → a2.p w' F2 → (∀ b, F2 b → F b ∨ (w.heap.size ≤ b ∧ b ≠ g)) → w.heap.size ≤ g → Box w' g cs → Mem w' (aBox g cs :: Os) (a1 :: a2 :: Zs) := by
  obtain ⟨G, h1, h2, h3⟩ := M
  obtain ⟨F, hF, hs⟩ := h2 s (List.mem_of_getElem? hz)
  refine ⟨F, hF, fun b hb => h1 b (hs b hb), fun w' a1 a2 F1 F2 g cs hb p1 c1 p2 c2 hg hx => ⟨fun b => G b ∨ F1 b ∨ F2 b, fun b hb' => hb'.elim (fun h => Nat.lt_of_lt_of_le (h1 b h) hb.size) (fun h => h.elim (a1.bnd p1 b) (a2.bnd p2 b)), fun z hz => ?_, (· = g), ⟨fun _ => Iff.rfl, hx⟩, fun b hbg hh => ?_, ?_⟩⟩
  · rcases List.mem_cons.1 hz with rfl | hz
    · exact ⟨F1, p1, fun b hb => .inr (.inl hb)⟩
    · rcases List.mem_cons.1 hz with rfl | hz
      · exact ⟨F2, p2, fun b hb => .inr (.inr hb)⟩
      · obtain ⟨E, hE, hs⟩ := h2 z hz
        exact ⟨E, z.stab hE ((Stays.of_below hb).mono fun b hb => z.bnd hE b hb), fun b hb => .inl (hs b hb)⟩
  · subst hbg
    rcases hh with h | h | h
    · have := h1 b h; omega
    · rcases c1 b h with h | h
      · have := h1 b (hs b h); omega
      · exact h.2 rfl
    · rcases c2 b h with h | h
      · have := h1 b (hs b h); omega
      · exact h.2 rfl
  · refine (h3.fresh (Upd.of_below hb)).imp fun b hb' => ?_
    rcases hb' with (h | h | h) | h
    · exact .inl h
    · exact (c1 b h).imp (hs b) (·.1)
    · exact (c2 b h).imp (hs b) (·.1)
    · exact .inr (by rw [h]; exact hg)
theorem row_type {e k n : Nat} {v : Value} {xs : List Value} {F : Nat → Prop} (h : (aLr e k v n xs).p w F) {b : Nat} (hb : F b) : ∃ cs, w.heap[b]? = some (.cells cs e (0, 0)) := by
  obtain ⟨h1, _, ⟨rfl, _⟩ | ⟨g, cap, cur, rfl, h2, _⟩⟩ := h
  · cases (h1 b).1 hb
  · cases (h1 b).1 hb; exact ⟨_, h2⟩
theorem by_type {v : Value} {bs : List UInt8} {F : Nat → Prop} (h : (aBy v bs).p w F) {b : Nat} (hb : F b) : ∃ cs, w.heap[b]? = some (.cells cs 5 (0, 0)) := by
  obtain ⟨h1, _, ⟨rfl, _⟩ | ⟨g, cap, cur, rfl, _, h2, _⟩⟩ := h
  · cases (h1 b).1 hb
  · cases (h1 b).1 hb; exact ⟨_, h2⟩
theorem all_of {b : Nat} : ∀ {l : List Ass} {F : Nat → Prop}, (aAll l).p w F → F b → ∃ a ∈ l, ∃ F', a.p w F' ∧ F' b
  | [], F, h, hb => (h b hb).elim
  | a :: l, F, ⟨F1, F2, h1, h2, _, h4⟩, hb => by
    rcases (h4 b).1 hb with h | h
    · exact ⟨a, List.mem_cons_self .., F1, h1, h⟩
    · obtain ⟨a', hm, r⟩ := all_of h2 h
      exact ⟨a', List.mem_cons_of_mem _ hm, r⟩
theorem fl_type {v : Value} {fs : List PF} {F : Nat → Prop} (h : (aFl v fs).p w F) {b : Nat} (hb : F b) : ∃ cs, w.heap[b]? = some (.cells cs 24 (0, 0)) ∨ w.heap[b]? = some (.cells cs 5 (0, 0)) := by
  obtain ⟨vs, hl, F1, F2, h1, h2, _, h4⟩ := h
  rcases (h4 b).1 hb with h | h
  · obtain ⟨cs, h⟩ := row_type h1 h; exact ⟨cs, .inl h⟩
  · obtain ⟨a, hm, F', h5, h6⟩ := all_of h2 h
    obtain ⟨j, hj⟩ := List.mem_iff_getElem?.1 hm
    rw [List.getElem?_zipWith] at hj
    cases hv : vs[j]? with
    | none => rw [hv] at hj; cases hj
    | some v' =>
      cases hf : fs[j]? with
      | none => rw [hv, hf] at hj; cases hj
      | some f =>
        rw [hv, hf] at hj
        cases hj
        obtain ⟨cs, h⟩ := by_type h5 h6; exact ⟨cs, .inr h⟩
set_option maxRecDepth 100000 in
set_option maxHeartbeats 4000000 in
theorem does_M (fs : List PF) (v : Value) (o : PO) (vb : Value) {s : Ass} (k ko : Nat) (M : Mem w (aLk b l :: aBox yb [v] :: Os) Zs) (hT : TieL l fs) (hz : Zs[k]? = some (aFl v fs)) (hs : Zs[ko]? = some s) (hzb : ∀ {u : World} {F : Nat → Prop}, s.p u F → ∃ F, Bs u F vb o.fl.bytes) (ho : o.okk) :
    Calls Try.prog 21 #[.pointer (some ⟨b, 0, none⟩), .pointer (some ⟨yb, 0, none⟩), .agg (OE.cells (o, vb)).toArray] w fun r w' => r = .returned (.bool true) ∧ ∃ v', Mem w' (aLk b (l.act o).2 :: aBox yb [v'] :: Os) (aFl v' (RF.act fs o).2 :: Zs) := by
  obtain ⟨⟨k1, k2, k3, k4, k5, k6, k7⟩, hbl⟩ := ho
  obtain ⟨Fs0, hFs0⟩ := M.z ko hs
  obtain ⟨Fb0, hbs⟩ := hzb hFs0
  obtain ⟨A, cp, rfl, -⟩ := hbs.open_
  have htop : l.n ≤ 512 := by obtain ⟨_, _, _, hk, _⟩ := M.lk; exact hk.top
  have hfn : fs.length ≤ 512 := by rw [← hT.n]; exact htop
  have hfb : ∀ f ∈ fs, f.bytes.length ≤ 1048576 := fun f hf => Nat.le_trans (right_i64 (hT.ok f hf)).2.2.2.1 (by decide)
  have hact := hT.act o
  obtain ⟨Ff, hFf, -⟩ := M.gotz k hz
  obtain ⟨A0, c0, rfl⟩ := aFl_sl hFf
  clear hFf hbs hFs0
  refine enter Try.func21 rfl Try.ntmps21 rfl rfl ?_
  (repeat (first | (refine WR.id ?_; first | refine WR.nil ?_ | refine WR.s ?_ | refine WR.g ?_) | (refine W.id ?_; first | refine W.seq fun _ _ => ?_ | refine W.region ?_ | refine W.s ?_ | refine W.e ?_) | (refine Ends.id ?_; first | refine Ends.seq (by assumption) ?_ | refine Ends.s ?_)))
  refine WR.box rfl (cs := (OE.cells (o, .slice A o.fl.bytes.length cp)).toArray) rfl rfl fun w1 hb1 hx1 hs1 => ?_
  replace M := (M.newBox (cs := OE.cells (o, .slice A o.fl.bytes.length cp)) hb1 hx1).freeze
  have hbn := hb1.size
  obtain ⟨b9, hb9⟩ : ∃ b9, b9 = w.heap.size := ⟨_, rfl⟩
  rw [← hb9] at M ⊢
  have hB9 := M.zbox 0 rfl
  (repeat (first | (refine WR.id ?_; first | refine WR.nil ?_ | refine WR.s ?_ | refine WR.g ?_) | (refine W.id ?_; first | refine W.seq fun _ _ => ?_ | refine W.region ?_ | refine W.s ?_ | refine W.e ?_) | (refine Ends.id ?_; first | refine Ends.seq (by assumption) ?_ | refine Ends.s ?_)))
  refine WR.loadRow (cs := o.fl.cells (.slice A o.fl.bytes.length cp)) (by rfl) (hB9.part (o := 1) (xs := o.fl.cells (.slice A o.fl.bytes.length cp)) (fun j u hu => by
    rcases j with _ | _ | _ | _ | j <;> first | exact hu | (simp [PF.cells] at hu))) (by rfl) (by rfl) ?_
  refine WR.allocStore (c := (o.fl.cells (.slice A o.fl.bytes.length cp)).toArray) (by rfl) (by rfl) rfl (by rfl) (by rfl) (all_oneCell_toArray (PF.one _ _ rfl)) (by rfl) fun w2 hb2 hx2 hs2 => ?_
  replace M := (M.newBox (cs := o.fl.cells (.slice A o.fl.bytes.length cp)) hb2 hx2).freeze
  generalize w1.heap.size = b10 at M ⊢
  have hB9 := M.zbox 1 rfl
  have hB10 := M.zbox 0 rfl
  (repeat (first | (refine WR.id ?_; first | refine WR.nil ?_ | refine WR.s ?_ | refine WR.g ?_) | (refine W.id ?_; first | refine W.seq fun _ _ => ?_ | refine W.region ?_ | refine W.s ?_ | refine W.e ?_) | (refine Ends.id ?_; first | refine Ends.seq (by assumption) ?_ | refine Ends.s ?_)))
  refine WR.call rfl rfl (kind_any (o, .slice A o.fl.bytes.length cp) rfl _) ?_
  rintro _ wk ⟨rfl, hbk⟩
  refine ⟨_, rfl, ?_⟩
  replace M := M.below hbk
  have hB9 := M.zbox 1 rfl
  have hB10 := M.zbox 0 rfl
  dsimp only
  rcases kind_cases o.kind with hk | hk | hk | hk | hk
  · have ha : l.act o = l.send o.fl := PL.act0 hk
    have hr : RF.act fs o = RF.send fs o.fl := RF.act0 hk
    rw [ha, hr] at hact
    rw [hk]
    (repeat (first | (refine WR.id ?_; first | refine WR.nil ?_ | refine WR.s ?_ | refine WR.g ?_) | (refine W.id ?_; first | refine W.seq fun _ _ => ?_ | refine W.region ?_ | refine W.s ?_ | refine W.e ?_) | (refine Ends.id ?_; first | refine Ends.seq (by assumption) ?_ | refine Ends.s ?_)))
    refine WR.allocStore (c := (o.fl.cells (.slice A o.fl.bytes.length cp)).toArray) (by rfl) (by rfl) rfl (by rfl) (by rfl) (all_oneCell_toArray (PF.one _ _ rfl)) (by rfl) fun w3 hb3 hx3 hs3 => ?_
    replace M := M.newBox (cs := o.fl.cells (.slice A o.fl.bytes.length cp)) hb3 hx3
    generalize wk.heap.size = b11 at M ⊢
    have hB10 := M.zbox 0 rfl
    have hB11 := M.box
    (repeat (first | (refine WR.id ?_; first | refine WR.nil ?_ | refine WR.s ?_ | refine WR.g ?_) | (refine W.id ?_; first | refine W.seq fun _ _ => ?_ | refine W.region ?_ | refine W.s ?_ | refine W.e ?_) | (refine Ends.id ?_; first | refine Ends.seq (by assumption) ?_ | refine Ends.s ?_)))
    refine WR.row0 Try.elB (by rfl) fun w4 hb4 ho4 hs4 => ?_
    have M4 := M.below hb4
    have hB10 := M4.zbox 0 rfl
    have hB11 := M4.box
    obtain ⟨Fs4, hFs4⟩ := M4.z (ko + 2) hs
    obtain ⟨F4, hF4⟩ := hzb hFs4
    (repeat (first | (refine WR.id ?_; first | refine WR.nil ?_ | refine WR.s ?_ | refine WR.g ?_) | (refine W.id ?_; first | refine W.seq fun _ _ => ?_ | refine W.region ?_ | refine W.s ?_ | refine W.e ?_) | (refine Ends.id ?_; first | refine Ends.seq (by assumption) ?_ | refine Ends.s ?_)))
    refine WR.app0 Try.elB (by rfl) (by rfl) (by rfl) ho4 hF4 (one_bvs _) (by omega) (by decide) hb4.size fun v5 w5 ho5 hb5 => ?_
    replace M := (M.add (by_of_row rfl (hb4.trans (hb5.mono hb4.size)) ho5)).swap
    obtain ⟨-, A5, c5, rfl, -⟩ := Sl.of_row ho5
    clear M4 hB10 hB11 hF4 hFs4 ho5 ho4
    have hB10 := M.zbox 0 rfl
    have hB11 := M.box
    (repeat (first | (refine WR.id ?_; first | refine WR.nil ?_ | refine WR.s ?_ | refine WR.g ?_) | (refine W.id ?_; first | refine W.seq fun _ _ => ?_ | refine W.region ?_ | refine W.s ?_ | refine W.e ?_) | (refine Ends.id ?_; first | refine Ends.seq (by assumption) ?_ | refine Ends.s ?_)))
    refine WR.storeBox M.box (by rfl) (by rfl) rfl rfl (by simp [PF.cells]) fun w6 hu6 hx6 hs6 => ?_
    rw [show (o.fl.cells (.slice A o.fl.bytes.length cp)).set (0 + 3) (.slice A5 o.fl.bytes.length c5) = o.fl.cells (.slice A5 o.fl.bytes.length c5) from rfl] at hx6
    replace M := M.setBox hu6 hx6
    replace M := M.freeze.swap
    have hB11 := M.zbox 0 rfl
    have hB10 := M.zbox 1 rfl
    have hG6 := by_bs M.swap
    (repeat (first | (refine WR.id ?_; first | refine WR.nil ?_ | refine WR.s ?_ | refine WR.g ?_) | (refine W.id ?_; first | refine W.seq fun _ _ => ?_ | refine W.region ?_ | refine W.s ?_ | refine W.e ?_) | (refine Ends.id ?_; first | refine Ends.seq (by assumption) ?_ | refine Ends.s ?_)))
    refine WR.call rfl rfl (send_M M o.fl (.slice A5 o.fl.bytes.length c5) k2 k3 k4 hG6 hbl htop) ?_
    clear hB10 hB11 hB9
    rintro _ wr ⟨rfl, M⟩
    refine ⟨_, rfl, ?_⟩
    obtain ⟨Ff, hFf, hmk⟩ := M.gotz (k + 3) hz
    obtain ⟨Fs0, hFs0⟩ := M.z (ko + 3) hs
    obtain ⟨Fb, hbs⟩ := hzb hFs0
    have hB := M.third.box
    have hB11 := M.zbox 0 rfl
    have hB10 := M.zbox 1 rfl
    (repeat (first | (refine WR.id ?_; first | refine WR.nil ?_ | refine WR.s ?_ | refine WR.g ?_) | (refine W.id ?_; first | refine W.seq fun _ _ => ?_ | refine W.region ?_ | refine W.s ?_ | refine W.e ?_) | (refine Ends.id ?_; first | refine Ends.seq (by assumption) ?_ | refine Ends.s ?_)))
    apply W.drawsLate 10 11 _ [8] [[], [], [1], [2], [], [3, 4], [5], [6], [6], [0]] [] [9, 7]
      [is _, is _, is _, is _, is _, (fun u v => ∃ v', v = .tuple #[.agg #[v'], .int .i64 ((RF.send fs o.fl).1)] ∧ GotZ wr u Ff (aFl v' ((RF.send fs o.fl).2))), (fun u v => ∃ v', v = .tuple #[.agg #[v'], .int .i64 ((RF.send fs o.fl).1)] ∧ GotZ wr u Ff (aFl v' ((RF.send fs o.fl).2))), (fun u v => ∃ v', v = .agg #[v'] ∧ GotZ wr u Ff (aFl v' ((RF.send fs o.fl).2))), is _, is _, fun _ _ => True] (by kernel_rfl) (by rfl) (by kernel_rfl) (by rfl) (by kernel_rfl) (by kernel_rfl) (by kernel_rfl) (by kernel_rfl) (by kernel_rfl) ⟨stab_is _, stab_is _, stab_is _, stab_is _, stab_is _, (fun _ _ _ ⟨v', e, h1⟩ hb => ⟨v', e, h1.on hb⟩), (fun _ _ _ ⟨v', e, h1⟩ hb => ⟨v', e, h1.on hb⟩), (fun _ _ _ ⟨v', e, h1⟩ hb => ⟨v', e, h1.on hb⟩), stab_is _, stab_is _, fun _ _ _ _ _ => trivial, trivial⟩ ?step1 ?stepb1 ?hp1 ?fin1
    case step1 =>
      refine ⟨fun wq hbq Kq hKq => ?_, fun wq hbq Kq hKq => ?_, fun wq hbq Kq hKq => ?_, fun wq hbq Kq hKq => ?_, fun wq hbq Kq hKq => ?_, fun wq hbq Kq hKq => ?_, fun wq hbq Kq hKq => ?_, fun wq hbq Kq hKq => ?_, fun wq hbq Kq hKq => ?_, fun wq hbq Kq hKq => ?_, trivial⟩
      · have Mq := M.below hbq; have hB := Mq.third.box; have hB11 := Mq.zbox 0 rfl; have hB10 := Mq.zbox 1 rfl; have hFq := fl_below hFf hbq; have hbsq : Bs wq Fb (.slice A o.fl.bytes.length cp) o.fl.bytes := Sl.below hbs (by decide) hbq
        refine WR.s ?_; refine WR.nil ?_; exact Ends.one hKq rfl rfl (Below.refl _ _)
      · have Mq := M.below hbq; have hB := Mq.third.box; have hB11 := Mq.zbox 0 rfl; have hB10 := Mq.zbox 1 rfl; have hFq := fl_below hFf hbq; have hbsq : Bs wq Fb (.slice A o.fl.bytes.length cp) o.fl.bytes := Sl.below hbs (by decide) hbq
        refine WR.s ?_; refine WR.nil ?_; exact Ends.one hKq rfl rfl (Below.refl _ _)
      · rintro _ rfl
        have Mq := M.below hbq; have hB := Mq.third.box; have hB11 := Mq.zbox 0 rfl; have hB10 := Mq.zbox 1 rfl; have hFq := fl_below hFf hbq; have hbsq : Bs wq Fb (.slice A o.fl.bytes.length cp) o.fl.bytes := Sl.below hbs (by decide) hbq
        refine WR.s ?_; refine WR.nil ?_; exact Ends.one hKq rfl rfl (Below.refl _ _)
      · rintro _ rfl
        have Mq := M.below hbq; have hB := Mq.third.box; have hB11 := Mq.zbox 0 rfl; have hB10 := Mq.zbox 1 rfl; have hFq := fl_below hFf hbq; have hbsq : Bs wq Fb (.slice A o.fl.bytes.length cp) o.fl.bytes := Sl.below hbs (by decide) hbq
        refine WR.s ?_; refine WR.nil ?_; exact Ends.one hKq rfl rfl (Below.refl _ _)
      · have Mq := M.below hbq; have hB := Mq.third.box; have hB11 := Mq.zbox 0 rfl; have hB10 := Mq.zbox 1 rfl; have hFq := fl_below hFf hbq; have hbsq : Bs wq Fb (.slice A o.fl.bytes.length cp) o.fl.bytes := Sl.below hbs (by decide) hbq
        refine WR.s ?_; refine WR.nil ?_; exact Ends.one hKq rfl rfl (Below.refl _ _)
      · rintro _ rfl _ rfl
        have Mq := M.below hbq; have hB := Mq.third.box; have hB11 := Mq.zbox 0 rfl; have hB10 := Mq.zbox 1 rfl; have hFq := fl_below hFf hbq; have hbsq : Bs wq Fb (.slice A o.fl.bytes.length cp) o.fl.bytes := Sl.below hbs (by decide) hbq
        refine WR.call (by rfl) (by rfl) (rsend_any _ _ fs o.fl _ _ _ hFq hfn hfb hbsq hbl) ?_; rintro _ wy ⟨v', rfl, hg⟩; refine ⟨_, rfl, ?_⟩; refine WR.nil ?_; exact Ends.one hKq rfl ⟨v', rfl, hg.trans hbq⟩ hg.1 
      · rintro v5 h5
        have Mq := M.below hbq; have hB := Mq.third.box; have hB11 := Mq.zbox 0 rfl; have hB10 := Mq.zbox 1 rfl; have hFq := fl_below hFf hbq; have hbsq : Bs wq Fb (.slice A o.fl.bytes.length cp) o.fl.bytes := Sl.below hbs (by decide) hbq
        obtain ⟨v', rfl, hg⟩ := h5; refine WR.move rfl rfl ?_; refine WR.nil ?_; exact Ends.one hKq rfl ⟨v', rfl, hg⟩ (Below.refl _ _) 
      · rintro v6 h6
        have Mq := M.below hbq; have hB := Mq.third.box; have hB11 := Mq.zbox 0 rfl; have hB10 := Mq.zbox 1 rfl; have hFq := fl_below hFf hbq; have hbsq : Bs wq Fb (.slice A o.fl.bytes.length cp) o.fl.bytes := Sl.below hbs (by decide) hbq
        obtain ⟨v', rfl, hg⟩ := h6; refine WR.extract rfl rfl rfl ?_; refine WR.nil ?_; exact Ends.one hKq rfl ⟨v', rfl, hg⟩ (Below.refl _ _) 
      · rintro v6 h6
        have Mq := M.below hbq; have hB := Mq.third.box; have hB11 := Mq.zbox 0 rfl; have hB10 := Mq.zbox 1 rfl; have hFq := fl_below hFf hbq; have hbsq : Bs wq Fb (.slice A o.fl.bytes.length cp) o.fl.bytes := Sl.below hbs (by decide) hbq
        obtain ⟨v', rfl, hg⟩ := h6; refine WR.extract rfl rfl rfl ?_; refine WR.nil ?_; exact Ends.one hKq rfl rfl (Below.refl _ _)
      · rintro _ rfl
        have Mq := M.below hbq; have hB := Mq.third.box; have hB11 := Mq.zbox 0 rfl; have hB10 := Mq.zbox 1 rfl; have hFq := fl_below hFf hbq; have hbsq : Bs wq Fb (.slice A o.fl.bytes.length cp) o.fl.bytes := Sl.below hbs (by decide) hbq
        refine WR.s ?_; refine WR.nil ?_; exact Ends.one hKq rfl rfl (Below.refl _ _)
    case stepb1 =>
      exact trivial
    case hp1 =>
      intro wq hbq
      rintro _ rfl v7 h7
      have Mq := M.below hbq; have hB := Mq.third.box; have hB11 := Mq.zbox 0 rfl; have hB10 := Mq.zbox 1 rfl; have hFq := fl_below hFf hbq; have hbsq : Bs wq Fb (.slice A o.fl.bytes.length cp) o.fl.bytes := Sl.below hbs (by decide) hbq
      obtain ⟨v', rfl, hg⟩ := h7; obtain ⟨A5, c5, rfl⟩ := aFl_sl hg.2.choose_spec.1; exact Sk.agg (cs' := [.slice A5 ((RF.send fs o.fl).2).length c5]) hB (by rfl) (by rfl) (by rfl) (by rfl) (by intro u hu; obtain rfl := List.mem_singleton.1 hu; rfl)
    intro wq hbq
    rintro _ rfl _ rfl _ rfl _ rfl _ rfl v5 h5 v6 h6 v7 h7 _ rfl _ rfl
    have Mq := M.below hbq; have hB := Mq.third.box; have hB11 := Mq.zbox 0 rfl; have hB10 := Mq.zbox 1 rfl; have hFq := fl_below hFf hbq; have hbsq : Bs wq Fb (.slice A o.fl.bytes.length cp) o.fl.bytes := Sl.below hbs (by decide) hbq
    obtain ⟨v', rfl, hg⟩ := h7
    obtain ⟨A7, c7, rfl⟩ := aFl_sl hg.2.choose_spec.1
    replace M := hmk _ _ hg
    refine Sk.storeAgg (cs' := [.slice A7 (RF.send fs o.fl).2.length c7]) M.third.box (by rfl) (by rfl) (by rfl) (by rfl) (by intro u hu; obtain rfl := List.mem_singleton.1 hu; rfl) fun w8 hu8 hx8 hs8 => ?_
    replace M := (M.third.setBox hu8 hx8)
    have hB11 := M.zbox 1 rfl
    have hB10 := M.zbox 2 rfl
    obtain ⟨Fs9, hFs9⟩ := M.z (ko + 4) hs
    obtain ⟨F9, hF9⟩ := hzb hFs9
    obtain ⟨G9, hG9⟩ := by_bs M.third
    (repeat (first | (refine WR.id ?_; first | refine WR.nil ?_ | refine WR.s ?_ | refine WR.g ?_) | (refine W.id ?_; first | refine W.seq fun _ _ => ?_ | refine W.region ?_ | refine W.s ?_ | refine W.e ?_) | (refine Ends.id ?_; first | refine Ends.seq (by assumption) ?_ | refine Ends.s ?_)))
    refine WR.call rfl rfl (beq_any _ _ _ _ _ _ _ hG9 hF9) ?_
    rintro _ _ ⟨rfl, rfl⟩
    refine ⟨_, rfl, ?_⟩
    rw [beq_self_eq_true]
    clear hB11 hB10 hFs9 hF9 hG9 hG6 hx8 hx6
    have hB11 := M.zbox 1 rfl
    (repeat (first | (refine WR.id ?_; first | refine WR.nil ?_ | refine WR.s ?_ | refine WR.g ?_) | (refine W.id ?_; first | refine W.seq fun _ _ => ?_ | refine W.region ?_ | refine W.s ?_ | refine W.e ?_) | (refine Ends.id ?_; first | refine Ends.seq (by assumption) ?_ | refine Ends.s ?_)))
    replace M := M.third
    refine W.loop (X := Nat × List UInt8) (fun x => [(0, .pointer (some ⟨b, 0, none⟩)), (7, .int .i64 (l.send o.fl).1), (8, .int .i64 (RF.send fs o.fl).1), (10, .pointer (some ⟨b11, 0, none⟩)), (77, .int .i64 (o.fl.bytes.length : Nat)), (78, .int .i64 (x.1 : Nat))])
      (fun x wl => x.1 ≤ o.fl.bytes.length ∧ x.2.length = o.fl.bytes.length ∧ Mem wl (aBy (.slice A5 o.fl.bytes.length c5) x.2 :: aBox yb [.slice A7 (RF.send fs o.fl).2.length c7] :: aLk b (l.send o.fl).2 :: Os) (aFl (.slice A7 (RF.send fs o.fl).2.length c7) (RF.send fs o.fl).2 :: aBox b11 (o.fl.cells (.slice A5 o.fl.bytes.length c5)) :: aBox b10 (o.fl.cells (.slice A o.fl.bytes.length cp)) :: aBox b9 (OE.cells (o, .slice A o.fl.bytes.length cp)) :: Zs)) (fun x => o.fl.bytes.length - x.1)
      (0, o.fl.bytes) (by repeat (first | exact .nil | refine .cons rfl ?_)) ⟨Nat.zero_le _, rfl, M⟩ ?_
    clear M hB11
    rintro ⟨j, bs⟩ wl ⟨hj, hbsl, M⟩ K hK
    dsimp only at hj hbsl M
    dsimp only
    have hB11 := M.zbox 1 rfl
    (repeat (first | (refine WR.id ?_; first | refine WR.nil ?_ | refine WR.s ?_ | refine WR.g ?_) | (refine W.id ?_; first | refine W.seq fun _ _ => ?_ | refine W.region ?_ | refine W.s ?_ | refine W.e ?_) | (refine Ends.id ?_; first | refine Ends.seq (by assumption) ?_ | refine Ends.s ?_)))
    refine W.condP (by rfl) (fun hlt => ?_) (fun hlt => ?_)
    · obtain ⟨x, hx⟩ : ∃ x, bs[j]? = some x := ⟨_, List.getElem?_eq_getElem (by omega)⟩
      obtain ⟨g5, rfl⟩ : ∃ g, A5 = some ⟨g, 0, none⟩ := by rw [← hbsl] at M; obtain ⟨g, c, h⟩ := by_load M (by omega); cases h; exact ⟨g, rfl⟩
      have hby := by_cell M hx
      (repeat (first | (refine WR.id ?_; first | refine WR.nil ?_ | refine WR.s ?_ | refine WR.g ?_) | (refine W.id ?_; first | refine W.seq fun _ _ => ?_ | refine W.region ?_ | refine W.s ?_ | refine W.e ?_) | (refine Ends.id ?_; first | refine Ends.seq (by assumption) ?_ | refine Ends.s ?_)))
      refine WR.indexAddr (j := j) (by rfl) (by rfl) (by rfl) (by omega) ?_
      refine WR.load (by rfl) hby (by rfl) ?_
      refine WR.bin (by rfl) (by rfl) (by rfl) guard_int (xor_run238 x) ?_
      refine WR.indexAddr (j := j) (by rfl) (by rfl) (by rfl) (by omega) ?_
      rw [show 0 + j * 1 = j from by omega]
      rw [show aBy (.slice (some ⟨g5, 0, none⟩) o.fl.bytes.length c5) bs = aRow 5 1 (.slice (some ⟨g5, 0, none⟩) o.fl.bytes.length c5) o.fl.bytes.length (bvs bs) from by unfold aBy; rw [hbsl]] at M
      refine WR.storeRow M (by rfl) (by rfl) rfl rfl (by rw [bvs_len]; omega) fun w9 M9 => ?_
      rw [set_by hbsl.symm] at M9
      have hB11 := M9.zbox 1 rfl
      (repeat (first | (refine WR.id ?_; first | refine WR.nil ?_ | refine WR.s ?_ | refine WR.g ?_) | (refine W.id ?_; first | refine W.seq fun _ _ => ?_ | refine W.region ?_ | refine W.s ?_ | refine W.e ?_) | (refine Ends.id ?_; first | refine Ends.seq (by assumption) ?_ | refine Ends.s ?_)))
      exact Ends.round hK (j + 1, bs.set j (x ^^^ 238)) (by repeat (first | exact .nil | refine .cons rfl ?_)) ⟨by dsimp only; omega, by dsimp only; rw [List.length_set]; exact hbsl, M9⟩ (by dsimp only; omega)
    (repeat (first | (refine WR.id ?_; first | refine WR.nil ?_ | refine WR.s ?_ | refine WR.g ?_) | (refine W.id ?_; first | refine W.seq fun _ _ => ?_ | refine W.region ?_ | refine W.s ?_ | refine W.e ?_) | (refine Ends.id ?_; first | refine Ends.seq (by assumption) ?_ | refine Ends.s ?_)))
    rw [hact.1]
    (repeat (first | (refine WR.id ?_; first | refine WR.nil ?_ | refine WR.s ?_ | refine WR.g ?_) | (refine W.id ?_; first | refine W.seq fun _ _ => ?_ | refine W.region ?_ | refine W.s ?_ | refine W.e ?_) | (refine Ends.id ?_; first | refine Ends.seq (by assumption) ?_ | refine Ends.s ?_)))
    exact Ends.ret1 rfl rfl ⟨by simp, _, by rw [ha, hr]; exact M.drop.swap.subz (by intro z hz; rcases List.mem_cons.1 hz with rfl | hz; exact List.mem_cons_self ..; exact List.mem_cons_of_mem _ (List.mem_cons_of_mem _ (List.mem_cons_of_mem _ (List.mem_cons_of_mem _ hz))))⟩
  · have ha : l.act o = ((l.give o.pr o.now o.n).1, (l.give o.pr o.now o.n).2.2) := PL.act1 hk
    have hr : RF.act fs o = ((RF.give fs o.pr o.now o.n).1, (RF.give fs o.pr o.now o.n).2.2) := RF.act1 hk
    rw [ha, hr] at hact
    rw [hk]
    (repeat (first | (refine WR.id ?_; first | refine WR.nil ?_ | refine WR.s ?_ | refine WR.g ?_) | (refine W.id ?_; first | refine W.seq fun _ _ => ?_ | refine W.region ?_ | refine W.s ?_ | refine W.e ?_) | (refine Ends.id ?_; first | refine Ends.seq (by assumption) ?_ | refine Ends.s ?_)))
    refine WR.call rfl rfl (give_M hT.lok M o.pr k2 k3 o.now o.n) ?_
    clear hB9 hB10
    rintro _ wr ⟨vd, rfl, M⟩
    refine ⟨_, rfl, ?_⟩
    obtain ⟨Ff, hFf, hFs, hmk⟩ := M.gotBox (k + 2) hz
    have hB := M.third.box
    have hB9 := M.zbox 1 rfl
    have hB10 := M.zbox 0 rfl
    (repeat (first | (refine WR.id ?_; first | refine WR.nil ?_ | refine WR.s ?_ | refine WR.g ?_) | (refine W.id ?_; first | refine W.seq fun _ _ => ?_ | refine W.region ?_ | refine W.s ?_ | refine W.e ?_) | (refine Ends.id ?_; first | refine Ends.seq (by assumption) ?_ | refine Ends.s ?_)))
    apply W.drawsLate 17 19 _ [14, 15, 18] [[], [0], [1], [], [3], [], [5], [], [7], [], [9], [2, 4, 6, 8, 10], [11], [12], [12], [12], []] [[14]] [16, 13]
      [is _, is _, is _, is _, is _, is _, is _, is _, is _, is _, is _, (fun u v => ∃ v' vb', v = .tuple #[.agg #[v'], vb', .int .i64 (RF.give fs o.pr o.now o.n).1] ∧ GotZ wr u Ff (aFl v' (RF.give fs o.pr o.now o.n).2.2) ∧ GotZ wr u Ff (aBy vb' (RF.give fs o.pr o.now o.n).2.1)), (fun u v => ∃ v' vb', v = .tuple #[.agg #[v'], vb', .int .i64 (RF.give fs o.pr o.now o.n).1] ∧ GotZ wr u Ff (aFl v' (RF.give fs o.pr o.now o.n).2.2) ∧ GotZ wr u Ff (aBy vb' (RF.give fs o.pr o.now o.n).2.1)), (fun u v => ∃ v', v = .agg #[v'] ∧ GotZ wr u Ff (aFl v' (RF.give fs o.pr o.now o.n).2.2)), (fun u v => GotZ wr u Ff (aBy v (RF.give fs o.pr o.now o.n).2.1)), is _, (fun u v => ∃ g, v = .pointer (some ⟨g, 0, none⟩) ∧ wr.heap.size ≤ g ∧ u.heap[g]? = some (.cells #[.slice none 0 0] 45 (0, 0))), fun _ _ => True, (fun u v => GotZ wr u Ff (aBy v (RF.give fs o.pr o.now o.n).2.1))] (by kernel_rfl) (by rfl) (by kernel_rfl) (by rfl) (by kernel_rfl) (by kernel_rfl) (by kernel_rfl) (by kernel_rfl) (by kernel_rfl) ⟨stab_is _, stab_is _, stab_is _, stab_is _, stab_is _, stab_is _, stab_is _, stab_is _, stab_is _, stab_is _, stab_is _, (fun _ _ _ ⟨v', vb', e, h1, h2⟩ hb => ⟨v', vb', e, h1.on hb, h2.on hb⟩), (fun _ _ _ ⟨v', vb', e, h1, h2⟩ hb => ⟨v', vb', e, h1.on hb, h2.on hb⟩), (fun _ _ _ ⟨v', e, h1⟩ hb => ⟨v', e, h1.on hb⟩), (fun _ _ _ h1 hb => h1.on hb), stab_is _, (fun _ _ _ ⟨g, e, h1, h2⟩ hb => ⟨g, e, h1, (hb.block g (Array.getElem?_eq_some_iff.1 h2).1).trans h2⟩), fun _ _ _ _ _ => trivial, (fun _ _ _ h1 hb => h1.on hb), trivial⟩ ?step2 ?stepb2 ?hp2 ?fin2
    case step2 =>
      refine ⟨fun wq hbq Kq hKq => ?_, fun wq hbq Kq hKq => ?_, fun wq hbq Kq hKq => ?_, fun wq hbq Kq hKq => ?_, fun wq hbq Kq hKq => ?_, fun wq hbq Kq hKq => ?_, fun wq hbq Kq hKq => ?_, fun wq hbq Kq hKq => ?_, fun wq hbq Kq hKq => ?_, fun wq hbq Kq hKq => ?_, fun wq hbq Kq hKq => ?_, fun wq hbq Kq hKq => ?_, fun wq hbq Kq hKq => ?_, fun wq hbq Kq hKq => ?_, fun wq hbq Kq hKq => ?_, fun wq hbq Kq hKq => ?_, fun wq hbq Kq hKq => ?_, trivial⟩
      · have Mq := M.below hbq; have hB := Mq.third.box; have hB9 := Mq.zbox 1 rfl; have hB10 := Mq.zbox 0 rfl; have hFq := fl_below hFf hbq
        refine WR.s ?_; refine WR.nil ?_; exact Ends.one hKq rfl rfl (Below.refl _ _)
      · rintro _ rfl
        have Mq := M.below hbq; have hB := Mq.third.box; have hB9 := Mq.zbox 1 rfl; have hB10 := Mq.zbox 0 rfl; have hFq := fl_below hFf hbq
        refine WR.s ?_; refine WR.nil ?_; exact Ends.one hKq rfl rfl (Below.refl _ _)
      · rintro _ rfl
        have Mq := M.below hbq; have hB := Mq.third.box; have hB9 := Mq.zbox 1 rfl; have hB10 := Mq.zbox 0 rfl; have hFq := fl_below hFf hbq
        refine WR.s ?_; refine WR.nil ?_; exact Ends.one hKq rfl rfl (Below.refl _ _)
      · have Mq := M.below hbq; have hB := Mq.third.box; have hB9 := Mq.zbox 1 rfl; have hB10 := Mq.zbox 0 rfl; have hFq := fl_below hFf hbq
        refine WR.s ?_; refine WR.nil ?_; exact Ends.one hKq rfl rfl (Below.refl _ _)
      · rintro _ rfl
        have Mq := M.below hbq; have hB := Mq.third.box; have hB9 := Mq.zbox 1 rfl; have hB10 := Mq.zbox 0 rfl; have hFq := fl_below hFf hbq
        refine WR.s ?_; refine WR.nil ?_; exact Ends.one hKq rfl rfl (Below.refl _ _)
      · have Mq := M.below hbq; have hB := Mq.third.box; have hB9 := Mq.zbox 1 rfl; have hB10 := Mq.zbox 0 rfl; have hFq := fl_below hFf hbq
        refine WR.s ?_; refine WR.nil ?_; exact Ends.one hKq rfl rfl (Below.refl _ _)
      · rintro _ rfl
        have Mq := M.below hbq; have hB := Mq.third.box; have hB9 := Mq.zbox 1 rfl; have hB10 := Mq.zbox 0 rfl; have hFq := fl_below hFf hbq
        refine WR.s ?_; refine WR.nil ?_; exact Ends.one hKq rfl rfl (Below.refl _ _)
      · have Mq := M.below hbq; have hB := Mq.third.box; have hB9 := Mq.zbox 1 rfl; have hB10 := Mq.zbox 0 rfl; have hFq := fl_below hFf hbq
        refine WR.s ?_; refine WR.nil ?_; exact Ends.one hKq rfl rfl (Below.refl _ _)
      · rintro _ rfl
        have Mq := M.below hbq; have hB := Mq.third.box; have hB9 := Mq.zbox 1 rfl; have hB10 := Mq.zbox 0 rfl; have hFq := fl_below hFf hbq
        refine WR.s ?_; refine WR.nil ?_; exact Ends.one hKq rfl rfl (Below.refl _ _)
      · have Mq := M.below hbq; have hB := Mq.third.box; have hB9 := Mq.zbox 1 rfl; have hB10 := Mq.zbox 0 rfl; have hFq := fl_below hFf hbq
        refine WR.s ?_; refine WR.nil ?_; exact Ends.one hKq rfl rfl (Below.refl _ _)
      · rintro _ rfl
        have Mq := M.below hbq; have hB := Mq.third.box; have hB9 := Mq.zbox 1 rfl; have hB10 := Mq.zbox 0 rfl; have hFq := fl_below hFf hbq
        refine WR.s ?_; refine WR.nil ?_; exact Ends.one hKq rfl rfl (Below.refl _ _)
      · rintro _ rfl _ rfl _ rfl _ rfl _ rfl
        have Mq := M.below hbq; have hB := Mq.third.box; have hB9 := Mq.zbox 1 rfl; have hB10 := Mq.zbox 0 rfl; have hFq := fl_below hFf hbq
        refine WR.call (by rfl) (by rfl) (rgive_any _ fs o.pr o.now o.n _ _ hFq hfn hfb) ?_; rintro _ wy ⟨v', vb', rfl, hg, hg2⟩; refine ⟨_, rfl, ?_⟩; refine WR.nil ?_; exact Ends.one hKq rfl ⟨v', vb', rfl, hg.trans hbq, hg2.trans hbq⟩ hg.1 
      · rintro v11 h11
        have Mq := M.below hbq; have hB := Mq.third.box; have hB9 := Mq.zbox 1 rfl; have hB10 := Mq.zbox 0 rfl; have hFq := fl_below hFf hbq
        obtain ⟨v', vb', rfl, hg, hg2⟩ := h11; refine WR.move rfl rfl ?_; refine WR.nil ?_; exact Ends.one hKq rfl ⟨v', vb', rfl, hg, hg2⟩ (Below.refl _ _) 
      · rintro v12 h12
        have Mq := M.below hbq; have hB := Mq.third.box; have hB9 := Mq.zbox 1 rfl; have hB10 := Mq.zbox 0 rfl; have hFq := fl_below hFf hbq
        obtain ⟨v', vb', rfl, hg, hg2⟩ := h12; refine WR.extract rfl rfl rfl ?_; refine WR.nil ?_; exact Ends.one hKq rfl ⟨v', rfl, hg⟩ (Below.refl _ _) 
      · rintro v12 h12
        have Mq := M.below hbq; have hB := Mq.third.box; have hB9 := Mq.zbox 1 rfl; have hB10 := Mq.zbox 0 rfl; have hFq := fl_below hFf hbq
        obtain ⟨v', vb', rfl, hg, hg2⟩ := h12; refine WR.extract rfl rfl rfl ?_; refine WR.nil ?_; exact Ends.one hKq rfl hg2 (Below.refl _ _) 
      · rintro v12 h12
        have Mq := M.below hbq; have hB := Mq.third.box; have hB9 := Mq.zbox 1 rfl; have hB10 := Mq.zbox 0 rfl; have hFq := fl_below hFf hbq
        obtain ⟨v', vb', rfl, hg, hg2⟩ := h12; refine WR.extract rfl rfl rfl ?_; refine WR.nil ?_; exact Ends.one hKq rfl rfl (Below.refl _ _)
      · have Mq := M.below hbq; have hB := Mq.third.box; have hB9 := Mq.zbox 1 rfl; have hB10 := Mq.zbox 0 rfl; have hFq := fl_below hFf hbq
        refine WR.allocT (by rfl) fun wy hby hxy => ?_; refine WR.nil ?_; exact Ends.one hKq rfl ⟨_, rfl, hbq.size, hxy⟩ hby 
    case stepb2 =>
      refine ⟨fun wq hbq Kq hKq => ?_, trivial⟩
      · rintro v14 h14
        have Mq := M.below hbq; have hB := Mq.third.box; have hB9 := Mq.zbox 1 rfl; have hB10 := Mq.zbox 0 rfl; have hFq := fl_below hFf hbq
        refine WR.assign rfl rfl ?_; refine WR.nil ?_; exact Ends.one hKq rfl h14 (Below.refl _ _) 
    case hp2 =>
      intro wq hbq
      rintro v16 h16 v13 h13
      have Mq := M.below hbq; have hB := Mq.third.box; have hB9 := Mq.zbox 1 rfl; have hB10 := Mq.zbox 0 rfl; have hFq := fl_below hFf hbq
      obtain ⟨g, rfl, hg16, hx16⟩ := h16; obtain ⟨v', rfl, hg⟩ := h13; obtain ⟨A5, c5, rfl⟩ := aFl_sl hg.2.choose_spec.1; exact Sk.agg (cs := [.slice none 0 0]) (cs' := [.slice A5 (RF.give fs o.pr o.now o.n).2.2.length c5]) ⟨_, hx16⟩ (by rfl) (by rfl) (by rfl) (by rfl) (by intro u hu; obtain rfl := List.mem_singleton.1 hu; rfl)
    intro wq hbq
    rintro _ rfl _ rfl _ rfl _ rfl _ rfl _ rfl _ rfl _ rfl _ rfl _ rfl _ rfl v11 h11 v12 h12 v13 h13 v14 h14 _ rfl v16 h16 v18 h18
    have Mq := M.below hbq; have hB := Mq.third.box; have hB9 := Mq.zbox 1 rfl; have hB10 := Mq.zbox 0 rfl; have hFq := fl_below hFf hbq
    obtain ⟨g, rfl, hg16, hx16⟩ := h16
    obtain ⟨v', rfl, hg⟩ := h13
    obtain ⟨A5, c5, rfl⟩ := aFl_sl hg.2.choose_spec.1
    obtain ⟨hbx, F1, p1, c1⟩ := hg
    obtain ⟨_, F2, p2, c2⟩ := h18
    have hno : ∀ {cs : Array Value} {t : Nat} {x : Nat}, wq.heap[x]? = some (.cells cs t (0, 0)) → t ≠ 45 → x ≠ g := fun h1 h2 e => by
      rw [e, hx16] at h1; cases h1; exact h2 rfl
    replace M := hmk wq (aFl (.slice A5 (RF.give fs o.pr o.now o.n).2.2.length c5) (RF.give fs o.pr o.now o.n).2.2) (aBy v18 (RF.give fs o.pr o.now o.n).2.1) F1 F2 g [.slice none 0 0] hbq p1 (fun b hb => (c1 b hb).imp id fun h => ⟨h, by
      obtain ⟨cs, h | h⟩ := fl_type p1 hb <;> exact hno h (by decide)⟩) p2 (fun b hb => (c2 b hb).imp id fun h => ⟨h, by
      obtain ⟨cs, h⟩ := by_type p2 hb; exact hno h (by decide)⟩) hg16 ⟨_, hx16⟩
    refine Sk.storeAgg (cs' := [.slice A5 (RF.give fs o.pr o.now o.n).2.2.length c5]) M.box (by rfl) (by rfl) (by rfl) (by rfl) (by intro u hu; obtain rfl := List.mem_singleton.1 hu; rfl) fun w6 hu6 hx6 hs6 => ?_
    replace M := M.setBox hu6 hx6
    clear Mq hB hB9 hB10 hFq hx16 hno hx6 p1 p2 c1 c2
    have hBg := M.box
    (repeat (first | (refine WR.id ?_; first | refine WR.nil ?_ | refine WR.s ?_ | refine WR.g ?_) | (refine W.id ?_; first | refine W.seq fun _ _ => ?_ | refine W.region ?_ | refine W.s ?_ | refine W.e ?_) | (refine Ends.id ?_; first | refine Ends.seq (by assumption) ?_ | refine Ends.s ?_)))
    refine WR.storeAgg (cs' := [.slice A5 (RF.give fs o.pr o.now o.n).2.2.length c5]) M.fourth.box (by rfl) (by rfl) (by rfl) (by rfl) (by intro u hu; obtain rfl := List.mem_singleton.1 hu; rfl) fun w7 hu7 hx7 hs7 => ?_
    replace M := M.fourth.setBox hu7 hx7
    clear hBg hx7
    obtain ⟨G9, hG9⟩ := by_bs M.third
    obtain ⟨F9, hF9⟩ := M.z 1 rfl
    (repeat (first | (refine WR.id ?_; first | refine WR.nil ?_ | refine WR.s ?_ | refine WR.g ?_) | (refine W.id ?_; first | refine W.seq fun _ _ => ?_ | refine W.region ?_ | refine W.s ?_ | refine W.e ?_) | (refine Ends.id ?_; first | refine Ends.seq (by assumption) ?_ | refine Ends.s ?_)))
    refine WR.call rfl rfl (beq_any _ _ _ _ _ _ _ hG9 (Sl.of_row hF9.2)) ?_
    rintro _ _ ⟨rfl, rfl⟩
    refine ⟨_, rfl, ?_⟩
    rw [(hT.give o.pr o.now o.n).2.1, beq_self_eq_true]
    clear hF9 hG9
    (repeat (first | (refine WR.id ?_; first | refine WR.nil ?_ | refine WR.s ?_ | refine WR.g ?_) | (refine W.id ?_; first | refine W.seq fun _ _ => ?_ | refine W.region ?_ | refine W.s ?_ | refine W.e ?_) | (refine Ends.id ?_; first | refine Ends.seq (by assumption) ?_ | refine Ends.s ?_)))
    rw [(hT.give o.pr o.now o.n).1]
    (repeat (first | (refine WR.id ?_; first | refine WR.nil ?_ | refine WR.s ?_ | refine WR.g ?_) | (refine W.id ?_; first | refine W.seq fun _ _ => ?_ | refine W.region ?_ | refine W.s ?_ | refine W.e ?_) | (refine Ends.id ?_; first | refine Ends.seq (by assumption) ?_ | refine Ends.s ?_)))
    exact Ends.ret1 rfl rfl ⟨by simp, _, by rw [ha, hr]; exact (M.swap.drop.swap.drop.swap).subz (by intro z hz; rcases List.mem_cons.1 hz with rfl | hz; exact List.mem_cons_self ..; exact List.mem_cons_of_mem _ (List.mem_cons_of_mem _ (List.mem_cons_of_mem _ (List.mem_cons_of_mem _ hz))))⟩
  · have ha : l.act o = l.lose o.pr o.n := PL.act2 hk
    have hr : RF.act fs o = RF.lose fs o.pr o.n := RF.act2 hk
    rw [ha, hr] at hact
    rw [hk]
    (repeat (first | (refine WR.id ?_; first | refine WR.nil ?_ | refine WR.s ?_ | refine WR.g ?_) | (refine W.id ?_; first | refine W.seq fun _ _ => ?_ | refine W.region ?_ | refine W.s ?_ | refine W.e ?_) | (refine Ends.id ?_; first | refine Ends.seq (by assumption) ?_ | refine Ends.s ?_)))
    refine WR.call rfl rfl (lose_M M o.pr k2 k3 o.n k5) ?_
    clear hB9 hB10
    rintro _ wr ⟨rfl, M⟩
    refine ⟨_, rfl, ?_⟩
    obtain ⟨Ff, hFf, hmk⟩ := M.gotz (k + 2) hz
    obtain ⟨Fs0, hFs0⟩ := M.z (ko + 2) hs
    obtain ⟨Fb, hbs⟩ := hzb hFs0
    have hB := M.swap.box
    have hB9 := M.zbox 1 rfl
    have hB10 := M.zbox 0 rfl
    (repeat (first | (refine WR.id ?_; first | refine WR.nil ?_ | refine WR.s ?_ | refine WR.g ?_) | (refine W.id ?_; first | refine W.seq fun _ _ => ?_ | refine W.region ?_ | refine W.s ?_ | refine W.e ?_) | (refine Ends.id ?_; first | refine Ends.seq (by assumption) ?_ | refine Ends.s ?_)))
    apply W.drawsLate 15 16 _ [13] [[], [], [1], [2], [], [4], [], [6], [], [8], [3, 5, 7, 9], [10], [11], [11], [0]] [] [14, 12]
      [is _, is _, is _, is _, is _, is _, is _, is _, is _, is _, (fun u v => ∃ v', v = .tuple #[.agg #[v'], .int .i64 ((RF.lose fs o.pr o.n).1)] ∧ GotZ wr u Ff (aFl v' ((RF.lose fs o.pr o.n).2))), (fun u v => ∃ v', v = .tuple #[.agg #[v'], .int .i64 ((RF.lose fs o.pr o.n).1)] ∧ GotZ wr u Ff (aFl v' ((RF.lose fs o.pr o.n).2))), (fun u v => ∃ v', v = .agg #[v'] ∧ GotZ wr u Ff (aFl v' ((RF.lose fs o.pr o.n).2))), is _, is _, fun _ _ => True] (by kernel_rfl) (by rfl) (by kernel_rfl) (by rfl) (by kernel_rfl) (by kernel_rfl) (by kernel_rfl) (by kernel_rfl) (by kernel_rfl) ⟨stab_is _, stab_is _, stab_is _, stab_is _, stab_is _, stab_is _, stab_is _, stab_is _, stab_is _, stab_is _, (fun _ _ _ ⟨v', e, h1⟩ hb => ⟨v', e, h1.on hb⟩), (fun _ _ _ ⟨v', e, h1⟩ hb => ⟨v', e, h1.on hb⟩), (fun _ _ _ ⟨v', e, h1⟩ hb => ⟨v', e, h1.on hb⟩), stab_is _, stab_is _, fun _ _ _ _ _ => trivial, trivial⟩ ?step3 ?stepb3 ?hp3 ?fin3
    case step3 =>
      refine ⟨fun wq hbq Kq hKq => ?_, fun wq hbq Kq hKq => ?_, fun wq hbq Kq hKq => ?_, fun wq hbq Kq hKq => ?_, fun wq hbq Kq hKq => ?_, fun wq hbq Kq hKq => ?_, fun wq hbq Kq hKq => ?_, fun wq hbq Kq hKq => ?_, fun wq hbq Kq hKq => ?_, fun wq hbq Kq hKq => ?_, fun wq hbq Kq hKq => ?_, fun wq hbq Kq hKq => ?_, fun wq hbq Kq hKq => ?_, fun wq hbq Kq hKq => ?_, fun wq hbq Kq hKq => ?_, trivial⟩
      · have Mq := M.below hbq; have hB := Mq.swap.box; have hB9 := Mq.zbox 1 rfl; have hB10 := Mq.zbox 0 rfl; have hFq := fl_below hFf hbq; have hbsq : Bs wq Fb (.slice A o.fl.bytes.length cp) o.fl.bytes := Sl.below hbs (by decide) hbq
        refine WR.s ?_; refine WR.nil ?_; exact Ends.one hKq rfl rfl (Below.refl _ _)
      · have Mq := M.below hbq; have hB := Mq.swap.box; have hB9 := Mq.zbox 1 rfl; have hB10 := Mq.zbox 0 rfl; have hFq := fl_below hFf hbq; have hbsq : Bs wq Fb (.slice A o.fl.bytes.length cp) o.fl.bytes := Sl.below hbs (by decide) hbq
        refine WR.s ?_; refine WR.nil ?_; exact Ends.one hKq rfl rfl (Below.refl _ _)
      · rintro _ rfl
        have Mq := M.below hbq; have hB := Mq.swap.box; have hB9 := Mq.zbox 1 rfl; have hB10 := Mq.zbox 0 rfl; have hFq := fl_below hFf hbq; have hbsq : Bs wq Fb (.slice A o.fl.bytes.length cp) o.fl.bytes := Sl.below hbs (by decide) hbq
        refine WR.s ?_; refine WR.nil ?_; exact Ends.one hKq rfl rfl (Below.refl _ _)
      · rintro _ rfl
        have Mq := M.below hbq; have hB := Mq.swap.box; have hB9 := Mq.zbox 1 rfl; have hB10 := Mq.zbox 0 rfl; have hFq := fl_below hFf hbq; have hbsq : Bs wq Fb (.slice A o.fl.bytes.length cp) o.fl.bytes := Sl.below hbs (by decide) hbq
        refine WR.s ?_; refine WR.nil ?_; exact Ends.one hKq rfl rfl (Below.refl _ _)
      · have Mq := M.below hbq; have hB := Mq.swap.box; have hB9 := Mq.zbox 1 rfl; have hB10 := Mq.zbox 0 rfl; have hFq := fl_below hFf hbq; have hbsq : Bs wq Fb (.slice A o.fl.bytes.length cp) o.fl.bytes := Sl.below hbs (by decide) hbq
        refine WR.s ?_; refine WR.nil ?_; exact Ends.one hKq rfl rfl (Below.refl _ _)
      · rintro _ rfl
        have Mq := M.below hbq; have hB := Mq.swap.box; have hB9 := Mq.zbox 1 rfl; have hB10 := Mq.zbox 0 rfl; have hFq := fl_below hFf hbq; have hbsq : Bs wq Fb (.slice A o.fl.bytes.length cp) o.fl.bytes := Sl.below hbs (by decide) hbq
        refine WR.s ?_; refine WR.nil ?_; exact Ends.one hKq rfl rfl (Below.refl _ _)
      · have Mq := M.below hbq; have hB := Mq.swap.box; have hB9 := Mq.zbox 1 rfl; have hB10 := Mq.zbox 0 rfl; have hFq := fl_below hFf hbq; have hbsq : Bs wq Fb (.slice A o.fl.bytes.length cp) o.fl.bytes := Sl.below hbs (by decide) hbq
        refine WR.s ?_; refine WR.nil ?_; exact Ends.one hKq rfl rfl (Below.refl _ _)
      · rintro _ rfl
        have Mq := M.below hbq; have hB := Mq.swap.box; have hB9 := Mq.zbox 1 rfl; have hB10 := Mq.zbox 0 rfl; have hFq := fl_below hFf hbq; have hbsq : Bs wq Fb (.slice A o.fl.bytes.length cp) o.fl.bytes := Sl.below hbs (by decide) hbq
        refine WR.s ?_; refine WR.nil ?_; exact Ends.one hKq rfl rfl (Below.refl _ _)
      · have Mq := M.below hbq; have hB := Mq.swap.box; have hB9 := Mq.zbox 1 rfl; have hB10 := Mq.zbox 0 rfl; have hFq := fl_below hFf hbq; have hbsq : Bs wq Fb (.slice A o.fl.bytes.length cp) o.fl.bytes := Sl.below hbs (by decide) hbq
        refine WR.s ?_; refine WR.nil ?_; exact Ends.one hKq rfl rfl (Below.refl _ _)
      · rintro _ rfl
        have Mq := M.below hbq; have hB := Mq.swap.box; have hB9 := Mq.zbox 1 rfl; have hB10 := Mq.zbox 0 rfl; have hFq := fl_below hFf hbq; have hbsq : Bs wq Fb (.slice A o.fl.bytes.length cp) o.fl.bytes := Sl.below hbs (by decide) hbq
        refine WR.s ?_; refine WR.nil ?_; exact Ends.one hKq rfl rfl (Below.refl _ _)
      · rintro _ rfl _ rfl _ rfl _ rfl
        have Mq := M.below hbq; have hB := Mq.swap.box; have hB9 := Mq.zbox 1 rfl; have hB10 := Mq.zbox 0 rfl; have hFq := fl_below hFf hbq; have hbsq : Bs wq Fb (.slice A o.fl.bytes.length cp) o.fl.bytes := Sl.below hbs (by decide) hbq
        refine WR.call (by rfl) (by rfl) (rlose_any _ fs o.pr o.n _ _ hFq hfn hfb) ?_; rintro _ wy ⟨v', rfl, hg⟩; refine ⟨_, rfl, ?_⟩; refine WR.nil ?_; exact Ends.one hKq rfl ⟨v', rfl, hg.trans hbq⟩ hg.1 
      · rintro v10 h10
        have Mq := M.below hbq; have hB := Mq.swap.box; have hB9 := Mq.zbox 1 rfl; have hB10 := Mq.zbox 0 rfl; have hFq := fl_below hFf hbq; have hbsq : Bs wq Fb (.slice A o.fl.bytes.length cp) o.fl.bytes := Sl.below hbs (by decide) hbq
        obtain ⟨v', rfl, hg⟩ := h10; refine WR.move rfl rfl ?_; refine WR.nil ?_; exact Ends.one hKq rfl ⟨v', rfl, hg⟩ (Below.refl _ _) 
      · rintro v11 h11
        have Mq := M.below hbq; have hB := Mq.swap.box; have hB9 := Mq.zbox 1 rfl; have hB10 := Mq.zbox 0 rfl; have hFq := fl_below hFf hbq; have hbsq : Bs wq Fb (.slice A o.fl.bytes.length cp) o.fl.bytes := Sl.below hbs (by decide) hbq
        obtain ⟨v', rfl, hg⟩ := h11; refine WR.extract rfl rfl rfl ?_; refine WR.nil ?_; exact Ends.one hKq rfl ⟨v', rfl, hg⟩ (Below.refl _ _) 
      · rintro v11 h11
        have Mq := M.below hbq; have hB := Mq.swap.box; have hB9 := Mq.zbox 1 rfl; have hB10 := Mq.zbox 0 rfl; have hFq := fl_below hFf hbq; have hbsq : Bs wq Fb (.slice A o.fl.bytes.length cp) o.fl.bytes := Sl.below hbs (by decide) hbq
        obtain ⟨v', rfl, hg⟩ := h11; refine WR.extract rfl rfl rfl ?_; refine WR.nil ?_; exact Ends.one hKq rfl rfl (Below.refl _ _)
      · rintro _ rfl
        have Mq := M.below hbq; have hB := Mq.swap.box; have hB9 := Mq.zbox 1 rfl; have hB10 := Mq.zbox 0 rfl; have hFq := fl_below hFf hbq; have hbsq : Bs wq Fb (.slice A o.fl.bytes.length cp) o.fl.bytes := Sl.below hbs (by decide) hbq
        refine WR.s ?_; refine WR.nil ?_; exact Ends.one hKq rfl rfl (Below.refl _ _)
    case stepb3 =>
      exact trivial
    case hp3 =>
      intro wq hbq
      rintro _ rfl v12 h12
      have Mq := M.below hbq; have hB := Mq.swap.box; have hB9 := Mq.zbox 1 rfl; have hB10 := Mq.zbox 0 rfl; have hFq := fl_below hFf hbq; have hbsq : Bs wq Fb (.slice A o.fl.bytes.length cp) o.fl.bytes := Sl.below hbs (by decide) hbq
      obtain ⟨v', rfl, hg⟩ := h12; obtain ⟨A5, c5, rfl⟩ := aFl_sl hg.2.choose_spec.1; exact Sk.agg (cs' := [.slice A5 ((RF.lose fs o.pr o.n).2).length c5]) hB (by rfl) (by rfl) (by rfl) (by rfl) (by intro u hu; obtain rfl := List.mem_singleton.1 hu; rfl)
    intro wq hbq
    rintro _ rfl _ rfl _ rfl _ rfl _ rfl _ rfl _ rfl _ rfl _ rfl _ rfl v10 h10 v11 h11 v12 h12 _ rfl _ rfl
    have Mq := M.below hbq; have hB := Mq.swap.box; have hB9 := Mq.zbox 1 rfl; have hB10 := Mq.zbox 0 rfl; have hFq := fl_below hFf hbq; have hbsq : Bs wq Fb (.slice A o.fl.bytes.length cp) o.fl.bytes := Sl.below hbs (by decide) hbq
    obtain ⟨v', rfl, hg⟩ := h12
    obtain ⟨A5, c5, rfl⟩ := aFl_sl hg.2.choose_spec.1
    replace M := hmk _ _ hg
    refine Sk.storeAgg (cs' := [.slice A5 ((RF.lose fs o.pr o.n).2).length c5]) M.swap.box (by rfl) (by rfl) (by rfl) (by rfl) (by intro u hu; obtain rfl := List.mem_singleton.1 hu; rfl) fun w6 hu6 hx6 hs6 => ?_
    replace M := (M.swap.setBox hu6 hx6).swap
    (repeat (first | (refine WR.id ?_; first | refine WR.nil ?_ | refine WR.s ?_ | refine WR.g ?_) | (refine W.id ?_; first | refine W.seq fun _ _ => ?_ | refine W.region ?_ | refine W.s ?_ | refine W.e ?_) | (refine Ends.id ?_; first | refine Ends.seq (by assumption) ?_ | refine Ends.s ?_)))
    rw [hact.1]
    (repeat (first | (refine WR.id ?_; first | refine WR.nil ?_ | refine WR.s ?_ | refine WR.g ?_) | (refine W.id ?_; first | refine W.seq fun _ _ => ?_ | refine W.region ?_ | refine W.s ?_ | refine W.e ?_) | (refine Ends.id ?_; first | refine Ends.seq (by assumption) ?_ | refine Ends.s ?_)))
    exact Ends.ret1 rfl rfl ⟨by simp, _, by rw [ha, hr]; exact M.subz (by intro z hz; rcases List.mem_cons.1 hz with rfl | hz; exact List.mem_cons_self ..; exact List.mem_cons_of_mem _ (List.mem_cons_of_mem _ (List.mem_cons_of_mem _ hz)))⟩
  · have ha : l.act o = l.dbl o.pr o.n := PL.act3 hk
    have hr : RF.act fs o = RF.dbl fs o.pr o.n := RF.act3 hk
    rw [ha, hr] at hact
    rw [hk]
    (repeat (first | (refine WR.id ?_; first | refine WR.nil ?_ | refine WR.s ?_ | refine WR.g ?_) | (refine W.id ?_; first | refine W.seq fun _ _ => ?_ | refine W.region ?_ | refine W.s ?_ | refine W.e ?_) | (refine Ends.id ?_; first | refine Ends.seq (by assumption) ?_ | refine Ends.s ?_)))
    refine WR.call rfl rfl (dbl_M hT.lok M o.pr k2 k3 o.n k5) ?_
    clear hB9 hB10
    rintro _ wr ⟨rfl, M⟩
    refine ⟨_, rfl, ?_⟩
    obtain ⟨Ff, hFf, hmk⟩ := M.gotz (k + 2) hz
    obtain ⟨Fs0, hFs0⟩ := M.z (ko + 2) hs
    obtain ⟨Fb, hbs⟩ := hzb hFs0
    have hB := M.swap.box
    have hB9 := M.zbox 1 rfl
    have hB10 := M.zbox 0 rfl
    (repeat (first | (refine WR.id ?_; first | refine WR.nil ?_ | refine WR.s ?_ | refine WR.g ?_) | (refine W.id ?_; first | refine W.seq fun _ _ => ?_ | refine W.region ?_ | refine W.s ?_ | refine W.e ?_) | (refine Ends.id ?_; first | refine Ends.seq (by assumption) ?_ | refine Ends.s ?_)))
    apply W.drawsLate 15 16 _ [13] [[], [], [1], [2], [], [4], [], [6], [], [8], [3, 5, 7, 9], [10], [11], [11], [0]] [] [14, 12]
      [is _, is _, is _, is _, is _, is _, is _, is _, is _, is _, (fun u v => ∃ v', v = .tuple #[.agg #[v'], .int .i64 ((RF.dbl fs o.pr o.n).1)] ∧ GotZ wr u Ff (aFl v' ((RF.dbl fs o.pr o.n).2))), (fun u v => ∃ v', v = .tuple #[.agg #[v'], .int .i64 ((RF.dbl fs o.pr o.n).1)] ∧ GotZ wr u Ff (aFl v' ((RF.dbl fs o.pr o.n).2))), (fun u v => ∃ v', v = .agg #[v'] ∧ GotZ wr u Ff (aFl v' ((RF.dbl fs o.pr o.n).2))), is _, is _, fun _ _ => True] (by kernel_rfl) (by rfl) (by kernel_rfl) (by rfl) (by kernel_rfl) (by kernel_rfl) (by kernel_rfl) (by kernel_rfl) (by kernel_rfl) ⟨stab_is _, stab_is _, stab_is _, stab_is _, stab_is _, stab_is _, stab_is _, stab_is _, stab_is _, stab_is _, (fun _ _ _ ⟨v', e, h1⟩ hb => ⟨v', e, h1.on hb⟩), (fun _ _ _ ⟨v', e, h1⟩ hb => ⟨v', e, h1.on hb⟩), (fun _ _ _ ⟨v', e, h1⟩ hb => ⟨v', e, h1.on hb⟩), stab_is _, stab_is _, fun _ _ _ _ _ => trivial, trivial⟩ ?step4 ?stepb4 ?hp4 ?fin4
    case step4 =>
      refine ⟨fun wq hbq Kq hKq => ?_, fun wq hbq Kq hKq => ?_, fun wq hbq Kq hKq => ?_, fun wq hbq Kq hKq => ?_, fun wq hbq Kq hKq => ?_, fun wq hbq Kq hKq => ?_, fun wq hbq Kq hKq => ?_, fun wq hbq Kq hKq => ?_, fun wq hbq Kq hKq => ?_, fun wq hbq Kq hKq => ?_, fun wq hbq Kq hKq => ?_, fun wq hbq Kq hKq => ?_, fun wq hbq Kq hKq => ?_, fun wq hbq Kq hKq => ?_, fun wq hbq Kq hKq => ?_, trivial⟩
      · have Mq := M.below hbq; have hB := Mq.swap.box; have hB9 := Mq.zbox 1 rfl; have hB10 := Mq.zbox 0 rfl; have hFq := fl_below hFf hbq; have hbsq : Bs wq Fb (.slice A o.fl.bytes.length cp) o.fl.bytes := Sl.below hbs (by decide) hbq
        refine WR.s ?_; refine WR.nil ?_; exact Ends.one hKq rfl rfl (Below.refl _ _)
      · have Mq := M.below hbq; have hB := Mq.swap.box; have hB9 := Mq.zbox 1 rfl; have hB10 := Mq.zbox 0 rfl; have hFq := fl_below hFf hbq; have hbsq : Bs wq Fb (.slice A o.fl.bytes.length cp) o.fl.bytes := Sl.below hbs (by decide) hbq
        refine WR.s ?_; refine WR.nil ?_; exact Ends.one hKq rfl rfl (Below.refl _ _)
      · rintro _ rfl
        have Mq := M.below hbq; have hB := Mq.swap.box; have hB9 := Mq.zbox 1 rfl; have hB10 := Mq.zbox 0 rfl; have hFq := fl_below hFf hbq; have hbsq : Bs wq Fb (.slice A o.fl.bytes.length cp) o.fl.bytes := Sl.below hbs (by decide) hbq
        refine WR.s ?_; refine WR.nil ?_; exact Ends.one hKq rfl rfl (Below.refl _ _)
      · rintro _ rfl
        have Mq := M.below hbq; have hB := Mq.swap.box; have hB9 := Mq.zbox 1 rfl; have hB10 := Mq.zbox 0 rfl; have hFq := fl_below hFf hbq; have hbsq : Bs wq Fb (.slice A o.fl.bytes.length cp) o.fl.bytes := Sl.below hbs (by decide) hbq
        refine WR.s ?_; refine WR.nil ?_; exact Ends.one hKq rfl rfl (Below.refl _ _)
      · have Mq := M.below hbq; have hB := Mq.swap.box; have hB9 := Mq.zbox 1 rfl; have hB10 := Mq.zbox 0 rfl; have hFq := fl_below hFf hbq; have hbsq : Bs wq Fb (.slice A o.fl.bytes.length cp) o.fl.bytes := Sl.below hbs (by decide) hbq
        refine WR.s ?_; refine WR.nil ?_; exact Ends.one hKq rfl rfl (Below.refl _ _)
      · rintro _ rfl
        have Mq := M.below hbq; have hB := Mq.swap.box; have hB9 := Mq.zbox 1 rfl; have hB10 := Mq.zbox 0 rfl; have hFq := fl_below hFf hbq; have hbsq : Bs wq Fb (.slice A o.fl.bytes.length cp) o.fl.bytes := Sl.below hbs (by decide) hbq
        refine WR.s ?_; refine WR.nil ?_; exact Ends.one hKq rfl rfl (Below.refl _ _)
      · have Mq := M.below hbq; have hB := Mq.swap.box; have hB9 := Mq.zbox 1 rfl; have hB10 := Mq.zbox 0 rfl; have hFq := fl_below hFf hbq; have hbsq : Bs wq Fb (.slice A o.fl.bytes.length cp) o.fl.bytes := Sl.below hbs (by decide) hbq
        refine WR.s ?_; refine WR.nil ?_; exact Ends.one hKq rfl rfl (Below.refl _ _)
      · rintro _ rfl
        have Mq := M.below hbq; have hB := Mq.swap.box; have hB9 := Mq.zbox 1 rfl; have hB10 := Mq.zbox 0 rfl; have hFq := fl_below hFf hbq; have hbsq : Bs wq Fb (.slice A o.fl.bytes.length cp) o.fl.bytes := Sl.below hbs (by decide) hbq
        refine WR.s ?_; refine WR.nil ?_; exact Ends.one hKq rfl rfl (Below.refl _ _)
      · have Mq := M.below hbq; have hB := Mq.swap.box; have hB9 := Mq.zbox 1 rfl; have hB10 := Mq.zbox 0 rfl; have hFq := fl_below hFf hbq; have hbsq : Bs wq Fb (.slice A o.fl.bytes.length cp) o.fl.bytes := Sl.below hbs (by decide) hbq
        refine WR.s ?_; refine WR.nil ?_; exact Ends.one hKq rfl rfl (Below.refl _ _)
      · rintro _ rfl
        have Mq := M.below hbq; have hB := Mq.swap.box; have hB9 := Mq.zbox 1 rfl; have hB10 := Mq.zbox 0 rfl; have hFq := fl_below hFf hbq; have hbsq : Bs wq Fb (.slice A o.fl.bytes.length cp) o.fl.bytes := Sl.below hbs (by decide) hbq
        refine WR.s ?_; refine WR.nil ?_; exact Ends.one hKq rfl rfl (Below.refl _ _)
      · rintro _ rfl _ rfl _ rfl _ rfl
        have Mq := M.below hbq; have hB := Mq.swap.box; have hB9 := Mq.zbox 1 rfl; have hB10 := Mq.zbox 0 rfl; have hFq := fl_below hFf hbq; have hbsq : Bs wq Fb (.slice A o.fl.bytes.length cp) o.fl.bytes := Sl.below hbs (by decide) hbq
        refine WR.call (by rfl) (by rfl) (rdbl_any _ fs o.pr o.n _ _ hFq hfn hfb) ?_; rintro _ wy ⟨v', rfl, hg⟩; refine ⟨_, rfl, ?_⟩; refine WR.nil ?_; exact Ends.one hKq rfl ⟨v', rfl, hg.trans hbq⟩ hg.1 
      · rintro v10 h10
        have Mq := M.below hbq; have hB := Mq.swap.box; have hB9 := Mq.zbox 1 rfl; have hB10 := Mq.zbox 0 rfl; have hFq := fl_below hFf hbq; have hbsq : Bs wq Fb (.slice A o.fl.bytes.length cp) o.fl.bytes := Sl.below hbs (by decide) hbq
        obtain ⟨v', rfl, hg⟩ := h10; refine WR.move rfl rfl ?_; refine WR.nil ?_; exact Ends.one hKq rfl ⟨v', rfl, hg⟩ (Below.refl _ _) 
      · rintro v11 h11
        have Mq := M.below hbq; have hB := Mq.swap.box; have hB9 := Mq.zbox 1 rfl; have hB10 := Mq.zbox 0 rfl; have hFq := fl_below hFf hbq; have hbsq : Bs wq Fb (.slice A o.fl.bytes.length cp) o.fl.bytes := Sl.below hbs (by decide) hbq
        obtain ⟨v', rfl, hg⟩ := h11; refine WR.extract rfl rfl rfl ?_; refine WR.nil ?_; exact Ends.one hKq rfl ⟨v', rfl, hg⟩ (Below.refl _ _) 
      · rintro v11 h11
        have Mq := M.below hbq; have hB := Mq.swap.box; have hB9 := Mq.zbox 1 rfl; have hB10 := Mq.zbox 0 rfl; have hFq := fl_below hFf hbq; have hbsq : Bs wq Fb (.slice A o.fl.bytes.length cp) o.fl.bytes := Sl.below hbs (by decide) hbq
        obtain ⟨v', rfl, hg⟩ := h11; refine WR.extract rfl rfl rfl ?_; refine WR.nil ?_; exact Ends.one hKq rfl rfl (Below.refl _ _)
      · rintro _ rfl
        have Mq := M.below hbq; have hB := Mq.swap.box; have hB9 := Mq.zbox 1 rfl; have hB10 := Mq.zbox 0 rfl; have hFq := fl_below hFf hbq; have hbsq : Bs wq Fb (.slice A o.fl.bytes.length cp) o.fl.bytes := Sl.below hbs (by decide) hbq
        refine WR.s ?_; refine WR.nil ?_; exact Ends.one hKq rfl rfl (Below.refl _ _)
    case stepb4 =>
      exact trivial
    case hp4 =>
      intro wq hbq
      rintro _ rfl v12 h12
      have Mq := M.below hbq; have hB := Mq.swap.box; have hB9 := Mq.zbox 1 rfl; have hB10 := Mq.zbox 0 rfl; have hFq := fl_below hFf hbq; have hbsq : Bs wq Fb (.slice A o.fl.bytes.length cp) o.fl.bytes := Sl.below hbs (by decide) hbq
      obtain ⟨v', rfl, hg⟩ := h12; obtain ⟨A5, c5, rfl⟩ := aFl_sl hg.2.choose_spec.1; exact Sk.agg (cs' := [.slice A5 ((RF.dbl fs o.pr o.n).2).length c5]) hB (by rfl) (by rfl) (by rfl) (by rfl) (by intro u hu; obtain rfl := List.mem_singleton.1 hu; rfl)
    intro wq hbq
    rintro _ rfl _ rfl _ rfl _ rfl _ rfl _ rfl _ rfl _ rfl _ rfl _ rfl v10 h10 v11 h11 v12 h12 _ rfl _ rfl
    have Mq := M.below hbq; have hB := Mq.swap.box; have hB9 := Mq.zbox 1 rfl; have hB10 := Mq.zbox 0 rfl; have hFq := fl_below hFf hbq; have hbsq : Bs wq Fb (.slice A o.fl.bytes.length cp) o.fl.bytes := Sl.below hbs (by decide) hbq
    obtain ⟨v', rfl, hg⟩ := h12
    obtain ⟨A5, c5, rfl⟩ := aFl_sl hg.2.choose_spec.1
    replace M := hmk _ _ hg
    refine Sk.storeAgg (cs' := [.slice A5 ((RF.dbl fs o.pr o.n).2).length c5]) M.swap.box (by rfl) (by rfl) (by rfl) (by rfl) (by intro u hu; obtain rfl := List.mem_singleton.1 hu; rfl) fun w6 hu6 hx6 hs6 => ?_
    replace M := (M.swap.setBox hu6 hx6).swap
    (repeat (first | (refine WR.id ?_; first | refine WR.nil ?_ | refine WR.s ?_ | refine WR.g ?_) | (refine W.id ?_; first | refine W.seq fun _ _ => ?_ | refine W.region ?_ | refine W.s ?_ | refine W.e ?_) | (refine Ends.id ?_; first | refine Ends.seq (by assumption) ?_ | refine Ends.s ?_)))
    rw [hact.1]
    (repeat (first | (refine WR.id ?_; first | refine WR.nil ?_ | refine WR.s ?_ | refine WR.g ?_) | (refine W.id ?_; first | refine W.seq fun _ _ => ?_ | refine W.region ?_ | refine W.s ?_ | refine W.e ?_) | (refine Ends.id ?_; first | refine Ends.seq (by assumption) ?_ | refine Ends.s ?_)))
    exact Ends.ret1 rfl rfl ⟨by simp, _, by rw [ha, hr]; exact M.subz (by intro z hz; rcases List.mem_cons.1 hz with rfl | hz; exact List.mem_cons_self ..; exact List.mem_cons_of_mem _ (List.mem_cons_of_mem _ (List.mem_cons_of_mem _ hz)))⟩
  · have ha : l.act o = l.spoil o.pr o.n o.bit := PL.act4 hk
    have hr : RF.act fs o = RF.spoil fs o.pr o.n o.bit := RF.act4 hk
    rw [ha, hr] at hact
    rw [hk]
    (repeat (first | (refine WR.id ?_; first | refine WR.nil ?_ | refine WR.s ?_ | refine WR.g ?_) | (refine W.id ?_; first | refine W.seq fun _ _ => ?_ | refine W.region ?_ | refine W.s ?_ | refine W.e ?_) | (refine Ends.id ?_; first | refine Ends.seq (by assumption) ?_ | refine Ends.s ?_)))
    refine WR.call rfl rfl (spoil_M hT.lok M o.pr k2 k3 o.n o.bit k5 k6) ?_
    clear hB9 hB10
    rintro _ wr ⟨rfl, M⟩
    refine ⟨_, rfl, ?_⟩
    obtain ⟨Ff, hFf, hmk⟩ := M.gotz (k + 2) hz
    obtain ⟨Fs0, hFs0⟩ := M.z (ko + 2) hs
    obtain ⟨Fb, hbs⟩ := hzb hFs0
    have hB := M.swap.box
    have hB9 := M.zbox 1 rfl
    have hB10 := M.zbox 0 rfl
    (repeat (first | (refine WR.id ?_; first | refine WR.nil ?_ | refine WR.s ?_ | refine WR.g ?_) | (refine W.id ?_; first | refine W.seq fun _ _ => ?_ | refine W.region ?_ | refine W.s ?_ | refine W.e ?_) | (refine Ends.id ?_; first | refine Ends.seq (by assumption) ?_ | refine Ends.s ?_)))
    apply W.drawsLate 17 18 _ [15] [[], [], [1], [2], [], [4], [], [6], [], [8], [], [10], [3, 5, 7, 9, 11], [12], [13], [13], [0]] [] [16, 14]
      [is _, is _, is _, is _, is _, is _, is _, is _, is _, is _, is _, is _, (fun u v => ∃ v', v = .tuple #[.agg #[v'], .int .i64 ((RF.spoil fs o.pr o.n o.bit).1)] ∧ GotZ wr u Ff (aFl v' ((RF.spoil fs o.pr o.n o.bit).2))), (fun u v => ∃ v', v = .tuple #[.agg #[v'], .int .i64 ((RF.spoil fs o.pr o.n o.bit).1)] ∧ GotZ wr u Ff (aFl v' ((RF.spoil fs o.pr o.n o.bit).2))), (fun u v => ∃ v', v = .agg #[v'] ∧ GotZ wr u Ff (aFl v' ((RF.spoil fs o.pr o.n o.bit).2))), is _, is _, fun _ _ => True] (by kernel_rfl) (by rfl) (by kernel_rfl) (by rfl) (by kernel_rfl) (by kernel_rfl) (by kernel_rfl) (by kernel_rfl) (by kernel_rfl) ⟨stab_is _, stab_is _, stab_is _, stab_is _, stab_is _, stab_is _, stab_is _, stab_is _, stab_is _, stab_is _, stab_is _, stab_is _, (fun _ _ _ ⟨v', e, h1⟩ hb => ⟨v', e, h1.on hb⟩), (fun _ _ _ ⟨v', e, h1⟩ hb => ⟨v', e, h1.on hb⟩), (fun _ _ _ ⟨v', e, h1⟩ hb => ⟨v', e, h1.on hb⟩), stab_is _, stab_is _, fun _ _ _ _ _ => trivial, trivial⟩ ?step5 ?stepb5 ?hp5 ?fin5
    case step5 =>
      refine ⟨fun wq hbq Kq hKq => ?_, fun wq hbq Kq hKq => ?_, fun wq hbq Kq hKq => ?_, fun wq hbq Kq hKq => ?_, fun wq hbq Kq hKq => ?_, fun wq hbq Kq hKq => ?_, fun wq hbq Kq hKq => ?_, fun wq hbq Kq hKq => ?_, fun wq hbq Kq hKq => ?_, fun wq hbq Kq hKq => ?_, fun wq hbq Kq hKq => ?_, fun wq hbq Kq hKq => ?_, fun wq hbq Kq hKq => ?_, fun wq hbq Kq hKq => ?_, fun wq hbq Kq hKq => ?_, fun wq hbq Kq hKq => ?_, fun wq hbq Kq hKq => ?_, trivial⟩
      · have Mq := M.below hbq; have hB := Mq.swap.box; have hB9 := Mq.zbox 1 rfl; have hB10 := Mq.zbox 0 rfl; have hFq := fl_below hFf hbq; have hbsq : Bs wq Fb (.slice A o.fl.bytes.length cp) o.fl.bytes := Sl.below hbs (by decide) hbq
        refine WR.s ?_; refine WR.nil ?_; exact Ends.one hKq rfl rfl (Below.refl _ _)
      · have Mq := M.below hbq; have hB := Mq.swap.box; have hB9 := Mq.zbox 1 rfl; have hB10 := Mq.zbox 0 rfl; have hFq := fl_below hFf hbq; have hbsq : Bs wq Fb (.slice A o.fl.bytes.length cp) o.fl.bytes := Sl.below hbs (by decide) hbq
        refine WR.s ?_; refine WR.nil ?_; exact Ends.one hKq rfl rfl (Below.refl _ _)
      · rintro _ rfl
        have Mq := M.below hbq; have hB := Mq.swap.box; have hB9 := Mq.zbox 1 rfl; have hB10 := Mq.zbox 0 rfl; have hFq := fl_below hFf hbq; have hbsq : Bs wq Fb (.slice A o.fl.bytes.length cp) o.fl.bytes := Sl.below hbs (by decide) hbq
        refine WR.s ?_; refine WR.nil ?_; exact Ends.one hKq rfl rfl (Below.refl _ _)
      · rintro _ rfl
        have Mq := M.below hbq; have hB := Mq.swap.box; have hB9 := Mq.zbox 1 rfl; have hB10 := Mq.zbox 0 rfl; have hFq := fl_below hFf hbq; have hbsq : Bs wq Fb (.slice A o.fl.bytes.length cp) o.fl.bytes := Sl.below hbs (by decide) hbq
        refine WR.s ?_; refine WR.nil ?_; exact Ends.one hKq rfl rfl (Below.refl _ _)
      · have Mq := M.below hbq; have hB := Mq.swap.box; have hB9 := Mq.zbox 1 rfl; have hB10 := Mq.zbox 0 rfl; have hFq := fl_below hFf hbq; have hbsq : Bs wq Fb (.slice A o.fl.bytes.length cp) o.fl.bytes := Sl.below hbs (by decide) hbq
        refine WR.s ?_; refine WR.nil ?_; exact Ends.one hKq rfl rfl (Below.refl _ _)
      · rintro _ rfl
        have Mq := M.below hbq; have hB := Mq.swap.box; have hB9 := Mq.zbox 1 rfl; have hB10 := Mq.zbox 0 rfl; have hFq := fl_below hFf hbq; have hbsq : Bs wq Fb (.slice A o.fl.bytes.length cp) o.fl.bytes := Sl.below hbs (by decide) hbq
        refine WR.s ?_; refine WR.nil ?_; exact Ends.one hKq rfl rfl (Below.refl _ _)
      · have Mq := M.below hbq; have hB := Mq.swap.box; have hB9 := Mq.zbox 1 rfl; have hB10 := Mq.zbox 0 rfl; have hFq := fl_below hFf hbq; have hbsq : Bs wq Fb (.slice A o.fl.bytes.length cp) o.fl.bytes := Sl.below hbs (by decide) hbq
        refine WR.s ?_; refine WR.nil ?_; exact Ends.one hKq rfl rfl (Below.refl _ _)
      · rintro _ rfl
        have Mq := M.below hbq; have hB := Mq.swap.box; have hB9 := Mq.zbox 1 rfl; have hB10 := Mq.zbox 0 rfl; have hFq := fl_below hFf hbq; have hbsq : Bs wq Fb (.slice A o.fl.bytes.length cp) o.fl.bytes := Sl.below hbs (by decide) hbq
        refine WR.s ?_; refine WR.nil ?_; exact Ends.one hKq rfl rfl (Below.refl _ _)
      · have Mq := M.below hbq; have hB := Mq.swap.box; have hB9 := Mq.zbox 1 rfl; have hB10 := Mq.zbox 0 rfl; have hFq := fl_below hFf hbq; have hbsq : Bs wq Fb (.slice A o.fl.bytes.length cp) o.fl.bytes := Sl.below hbs (by decide) hbq
        refine WR.s ?_; refine WR.nil ?_; exact Ends.one hKq rfl rfl (Below.refl _ _)
      · rintro _ rfl
        have Mq := M.below hbq; have hB := Mq.swap.box; have hB9 := Mq.zbox 1 rfl; have hB10 := Mq.zbox 0 rfl; have hFq := fl_below hFf hbq; have hbsq : Bs wq Fb (.slice A o.fl.bytes.length cp) o.fl.bytes := Sl.below hbs (by decide) hbq
        refine WR.s ?_; refine WR.nil ?_; exact Ends.one hKq rfl rfl (Below.refl _ _)
      · have Mq := M.below hbq; have hB := Mq.swap.box; have hB9 := Mq.zbox 1 rfl; have hB10 := Mq.zbox 0 rfl; have hFq := fl_below hFf hbq; have hbsq : Bs wq Fb (.slice A o.fl.bytes.length cp) o.fl.bytes := Sl.below hbs (by decide) hbq
        refine WR.s ?_; refine WR.nil ?_; exact Ends.one hKq rfl rfl (Below.refl _ _)
      · rintro _ rfl
        have Mq := M.below hbq; have hB := Mq.swap.box; have hB9 := Mq.zbox 1 rfl; have hB10 := Mq.zbox 0 rfl; have hFq := fl_below hFf hbq; have hbsq : Bs wq Fb (.slice A o.fl.bytes.length cp) o.fl.bytes := Sl.below hbs (by decide) hbq
        refine WR.s ?_; refine WR.nil ?_; exact Ends.one hKq rfl rfl (Below.refl _ _)
      · rintro _ rfl _ rfl _ rfl _ rfl _ rfl
        have Mq := M.below hbq; have hB := Mq.swap.box; have hB9 := Mq.zbox 1 rfl; have hB10 := Mq.zbox 0 rfl; have hFq := fl_below hFf hbq; have hbsq : Bs wq Fb (.slice A o.fl.bytes.length cp) o.fl.bytes := Sl.below hbs (by decide) hbq
        refine WR.call (by rfl) (by rfl) (rspoil_any _ fs o.pr o.n o.bit _ _ hFq hfn hfb k6) ?_; rintro _ wy ⟨v', rfl, hg⟩; refine ⟨_, rfl, ?_⟩; refine WR.nil ?_; exact Ends.one hKq rfl ⟨v', rfl, hg.trans hbq⟩ hg.1 
      · rintro v12 h12
        have Mq := M.below hbq; have hB := Mq.swap.box; have hB9 := Mq.zbox 1 rfl; have hB10 := Mq.zbox 0 rfl; have hFq := fl_below hFf hbq; have hbsq : Bs wq Fb (.slice A o.fl.bytes.length cp) o.fl.bytes := Sl.below hbs (by decide) hbq
        obtain ⟨v', rfl, hg⟩ := h12; refine WR.move rfl rfl ?_; refine WR.nil ?_; exact Ends.one hKq rfl ⟨v', rfl, hg⟩ (Below.refl _ _) 
      · rintro v13 h13
        have Mq := M.below hbq; have hB := Mq.swap.box; have hB9 := Mq.zbox 1 rfl; have hB10 := Mq.zbox 0 rfl; have hFq := fl_below hFf hbq; have hbsq : Bs wq Fb (.slice A o.fl.bytes.length cp) o.fl.bytes := Sl.below hbs (by decide) hbq
        obtain ⟨v', rfl, hg⟩ := h13; refine WR.extract rfl rfl rfl ?_; refine WR.nil ?_; exact Ends.one hKq rfl ⟨v', rfl, hg⟩ (Below.refl _ _) 
      · rintro v13 h13
        have Mq := M.below hbq; have hB := Mq.swap.box; have hB9 := Mq.zbox 1 rfl; have hB10 := Mq.zbox 0 rfl; have hFq := fl_below hFf hbq; have hbsq : Bs wq Fb (.slice A o.fl.bytes.length cp) o.fl.bytes := Sl.below hbs (by decide) hbq
        obtain ⟨v', rfl, hg⟩ := h13; refine WR.extract rfl rfl rfl ?_; refine WR.nil ?_; exact Ends.one hKq rfl rfl (Below.refl _ _)
      · rintro _ rfl
        have Mq := M.below hbq; have hB := Mq.swap.box; have hB9 := Mq.zbox 1 rfl; have hB10 := Mq.zbox 0 rfl; have hFq := fl_below hFf hbq; have hbsq : Bs wq Fb (.slice A o.fl.bytes.length cp) o.fl.bytes := Sl.below hbs (by decide) hbq
        refine WR.s ?_; refine WR.nil ?_; exact Ends.one hKq rfl rfl (Below.refl _ _)
    case stepb5 =>
      exact trivial
    case hp5 =>
      intro wq hbq
      rintro _ rfl v14 h14
      have Mq := M.below hbq; have hB := Mq.swap.box; have hB9 := Mq.zbox 1 rfl; have hB10 := Mq.zbox 0 rfl; have hFq := fl_below hFf hbq; have hbsq : Bs wq Fb (.slice A o.fl.bytes.length cp) o.fl.bytes := Sl.below hbs (by decide) hbq
      obtain ⟨v', rfl, hg⟩ := h14; obtain ⟨A5, c5, rfl⟩ := aFl_sl hg.2.choose_spec.1; exact Sk.agg (cs' := [.slice A5 ((RF.spoil fs o.pr o.n o.bit).2).length c5]) hB (by rfl) (by rfl) (by rfl) (by rfl) (by intro u hu; obtain rfl := List.mem_singleton.1 hu; rfl)
    intro wq hbq
    rintro _ rfl _ rfl _ rfl _ rfl _ rfl _ rfl _ rfl _ rfl _ rfl _ rfl _ rfl _ rfl v12 h12 v13 h13 v14 h14 _ rfl _ rfl
    have Mq := M.below hbq; have hB := Mq.swap.box; have hB9 := Mq.zbox 1 rfl; have hB10 := Mq.zbox 0 rfl; have hFq := fl_below hFf hbq; have hbsq : Bs wq Fb (.slice A o.fl.bytes.length cp) o.fl.bytes := Sl.below hbs (by decide) hbq
    obtain ⟨v', rfl, hg⟩ := h14
    obtain ⟨A5, c5, rfl⟩ := aFl_sl hg.2.choose_spec.1
    replace M := hmk _ _ hg
    refine Sk.storeAgg (cs' := [.slice A5 ((RF.spoil fs o.pr o.n o.bit).2).length c5]) M.swap.box (by rfl) (by rfl) (by rfl) (by rfl) (by intro u hu; obtain rfl := List.mem_singleton.1 hu; rfl) fun w6 hu6 hx6 hs6 => ?_
    replace M := (M.swap.setBox hu6 hx6).swap
    (repeat (first | (refine WR.id ?_; first | refine WR.nil ?_ | refine WR.s ?_ | refine WR.g ?_) | (refine W.id ?_; first | refine W.seq fun _ _ => ?_ | refine W.region ?_ | refine W.s ?_ | refine W.e ?_) | (refine Ends.id ?_; first | refine Ends.seq (by assumption) ?_ | refine Ends.s ?_)))
    rw [hact.1]
    (repeat (first | (refine WR.id ?_; first | refine WR.nil ?_ | refine WR.s ?_ | refine WR.g ?_) | (refine W.id ?_; first | refine W.seq fun _ _ => ?_ | refine W.region ?_ | refine W.s ?_ | refine W.e ?_) | (refine Ends.id ?_; first | refine Ends.seq (by assumption) ?_ | refine Ends.s ?_)))
    exact Ends.ret1 rfl rfl ⟨by simp, _, by rw [ha, hr]; exact M.subz (by intro z hz; rcases List.mem_cons.1 hz with rfl | hz; exact List.mem_cons_self ..; exact List.mem_cons_of_mem _ (List.mem_cons_of_mem _ (List.mem_cons_of_mem _ hz)))⟩

end Go.Proofs.Ytibmcpbkialbnaa
