/- Layer 12's reference: doubled, delivered. No condition beyond sizes. -/
import Derived.Test.YtibmcpbkialbnaaLkQ
namespace Go.Proofs.Ytibmcpbkialbnaa
open Go.RowKit K L E
open Go.Maps (Keyed)
set_option linter.unusedVariables false
set_option linter.unusedSimpArgs false

theorem E.GotZ.trans {w w1 w' : World} {a : Ass} {F : Nat → Prop} (hb : Below w.heap.size w w1) (h : GotZ w1 w' F a) : GotZ w w' F a := ⟨hb.trans (h.1.mono hb.size), h.2.elim fun F' h2 => ⟨F', h2.1, fun b hb' => (h2.2 b hb').imp id (fun h => Nat.le_trans hb.size h)⟩⟩
theorem rng_bl {w wq : World} {b o : Nat} {cs : List Value} (hb : Below w.heap.size w wq) (h : w.rangeAt b o cs) : wq.rangeAt b o cs := fun j u hu =>
  (World.cell?_of_block (hb.block b (World.block_lt_of_cell? w _ (h j u hu)))).trans (h j u hu)
theorem cel_bl {w wq : World} {g o : Nat} {v : Value} (hb : Below w.heap.size w wq) (h : w.cell? ⟨g, o, none⟩ = some v) : wq.cell? ⟨g, o, none⟩ = some v :=
  (World.cell?_of_block (hb.block g (World.block_lt_of_cell? w _ h))).trans h
theorem ownb_bl {w w' : World} {base e k n : Nat} {v : Value} {xs : List Value} (h : w.ownsRow base e k v n xs) (hb : Below w.heap.size w w') : w'.ownsRow base e k v n xs := own_keep h fun g hg => hb.block g (World.ownsRow.lt h g hg).2
theorem ownb_base {w : World} {base b2 e k n : Nat} {v : Value} {xs : List Value} (h : w.ownsRow base e k v n xs) (hb : b2 ≤ base) : w.ownsRow b2 e k v n xs := by
  obtain ⟨hl, h | ⟨g, cap, cur, he, hg, hr⟩⟩ := h
  · exact ⟨hl, .inl h⟩
  · exact ⟨hl, .inr ⟨g, cap, cur, he, Nat.le_trans hb hg, hr⟩⟩
variable {w : World} {Os Zs : List Ass}
theorem fl_below {v : Value} {fs : List PF} {F : Nat → Prop} {w' : World} (h : (aFl v fs).p w F) (hb : Below w.heap.size w w') : (aFl v fs).p w' F := (aFl v fs).stab h ((Stays.of_below hb).mono fun b hb => (aFl v fs).bnd h b hb)
set_option maxHeartbeats 1000000 in
theorem rdbl_any (v : Value) (fs : List PF) (p : PK) (n : Int) (w : World) (F : Nat → Prop) (h : (aFl v fs).p w F) (hn : fs.length ≤ 512) (hb : ∀ f ∈ fs, f.bytes.length ≤ 1048576) :
    Calls Try.prog 35 #[.agg #[v], .int .i64 p.1, .int .i64 p.2, .int .i64 n] w fun r w' => ∃ v', r = .returned (.tuple #[.agg #[v'], .int .i64 (RF.dbl fs p n).1]) ∧ GotZ w w' F (aFl v' (RF.dbl fs p n).2) := by
  obtain ⟨vs, hvl, hx⟩ := afl_fx h
  obtain ⟨A, cp, rfl⟩ := aFl_sl h
  have M := Mem.src hx
  refine enter Try.func35 rfl Try.ntmps35 rfl rfl ?_
  (repeat (first | (refine WR.id ?_; first | refine WR.nil ?_ | refine WR.s ?_ | refine WR.g ?_) | (refine W.id ?_; first | refine W.seq fun _ _ => ?_ | refine W.region ?_ | refine W.s ?_ | refine W.e ?_) | (refine Ends.id ?_; first | refine Ends.seq (by assumption) ?_ | refine Ends.s ?_)))
  refine WR.box rfl (cs := #[.slice A fs.length cp]) rfl rfl fun w1 hb1 hx1 hs1 => ?_
  replace M := (M.newBox (cs := [.slice A fs.length cp]) hb1 hx1).freeze
  refine WR.alloc (by rfl) fun w2 hb2 hx2 hs2 => ?_
  replace M := (M.newBox (cs := [.slice none 0 0]) hb2 hx2)
  have hb8 := hb1.size
  generalize w1.heap.size = b8 at M hb8 ⊢
  have hB := M.zbox 0 rfl
  (repeat (first | (refine WR.id ?_; first | refine WR.nil ?_ | refine WR.s ?_ | refine WR.g ?_) | (refine W.id ?_; first | refine W.seq fun _ _ => ?_ | refine W.region ?_ | refine W.s ?_ | refine W.e ?_) | (refine Ends.id ?_; first | refine Ends.seq (by assumption) ?_ | refine Ends.s ?_)))
  refine WR.call rfl rfl (of_any _ fs p _ _ (fl_below h (M.pre 2 rfl)) (by omega)) ?_
  clear hB
  rintro _ w3 ⟨Ao, co, rfl, hfo⟩
  refine ⟨_, rfl, ?_⟩
  replace M := (M.add hfo).freeze
  have hB := M.zbox 1 rfl
  have hol : (RF.of fs p).length ≤ fs.length := idx_le _ _
  by_cases h0 : n < 0
  · have hr : RF.dbl fs p n = (4, fs) := by unfold RF.dbl; rw [if_pos h0]
    (repeat (first | (refine WR.id ?_; first | refine WR.nil ?_ | refine WR.s ?_ | refine WR.g ?_) | (refine W.id ?_; first | refine W.seq fun _ _ => ?_ | refine W.region ?_ | refine W.s ?_ | refine W.e ?_) | (refine Ends.id ?_; first | refine Ends.seq (by assumption) ?_ | refine Ends.s ?_)))
    refine WR.storeAgg (cs' := [.slice A fs.length cp]) M.box (by rfl) (by rfl) (by rfl) (by rfl) (by intro u hu; obtain rfl := List.mem_singleton.1 hu; rfl) fun w5 hu5 hx5 hs5 => ?_
    replace M := M.setBox hu5 hx5
    (repeat (first | (refine WR.id ?_; first | refine WR.nil ?_ | refine WR.s ?_ | refine WR.g ?_) | (refine W.id ?_; first | refine W.seq fun _ _ => ?_ | refine W.region ?_ | refine W.s ?_ | refine W.e ?_) | (refine Ends.id ?_; first | refine Ends.seq (by assumption) ?_ | refine Ends.s ?_)))
    exact Ends.retCT rfl (by rfl) (by rfl) (hx5.load (by rfl)) (by rw [hr]; exact ⟨_, rfl, GotZ.keep h (M.pre 3 rfl)⟩)
  · by_cases h9 : ((RF.of fs p).length : Int) ≤ n
    · have hr : RF.dbl fs p n = (4, fs) := by unfold RF.dbl; rw [if_neg h0, List.getElem?_eq_none (by omega)]
      (repeat (first | (refine WR.id ?_; first | refine WR.nil ?_ | refine WR.s ?_ | refine WR.g ?_) | (refine W.id ?_; first | refine W.seq fun _ _ => ?_ | refine W.region ?_ | refine W.s ?_ | refine W.e ?_) | (refine Ends.id ?_; first | refine Ends.seq (by assumption) ?_ | refine Ends.s ?_)))
      refine WR.storeAgg (cs' := [.slice A fs.length cp]) M.box (by rfl) (by rfl) (by rfl) (by rfl) (by intro u hu; obtain rfl := List.mem_singleton.1 hu; rfl) fun w5 hu5 hx5 hs5 => ?_
      replace M := M.setBox hu5 hx5
      (repeat (first | (refine WR.id ?_; first | refine WR.nil ?_ | refine WR.s ?_ | refine WR.g ?_) | (refine W.id ?_; first | refine W.seq fun _ _ => ?_ | refine W.region ?_ | refine W.s ?_ | refine W.e ?_) | (refine Ends.id ?_; first | refine Ends.seq (by assumption) ?_ | refine Ends.s ?_)))
      exact Ends.retCT rfl (by rfl) (by rfl) (hx5.load (by rfl)) (by rw [hr]; exact ⟨_, rfl, GotZ.keep h (M.pre 3 rfl)⟩)
    · obtain ⟨k, rfl⟩ : ∃ k : Nat, n = k := ⟨n.toNat, by omega⟩
      obtain ⟨i, hi⟩ : ∃ i, (RF.of fs p)[k]? = some i := ⟨_, List.getElem?_eq_getElem (by omega)⟩
      have hil : i < fs.length := idx_lt (List.mem_of_getElem? hi)
      obtain ⟨f, hf⟩ : ∃ f, fs[i]? = some f := ⟨_, List.getElem?_eq_getElem hil⟩
      have hr : RF.dbl fs p (k : Nat) = RF.send fs f := by unfold RF.dbl; rw [if_neg h0]; simp only [Int.toNat_natCast, hi, hf]
      obtain ⟨Fo, hFo⟩ := M.z 0 rfl
      obtain ⟨go, rfl⟩ := lrow_some hFo.2 (by omega)
      have hci := nat_cell hFo.2 hi
      obtain ⟨Fz, hz⟩ := M.z 2 rfl
      obtain ⟨g, c, Ab, q, hA, hrg, Fb, hbs⟩ := elem_fl hvl hz hf
      cases hA
      (repeat (first | (refine WR.id ?_; first | refine WR.nil ?_ | refine WR.s ?_ | refine WR.g ?_) | (refine W.id ?_; first | refine W.seq fun _ _ => ?_ | refine W.region ?_ | refine W.s ?_ | refine W.e ?_) | (refine Ends.id ?_; first | refine Ends.seq (by assumption) ?_ | refine Ends.s ?_)))
      have h3 := fl_below h (M.pre 3 rfl)
      apply W.drawsTo 12 [[], [], [1], [], [], [3, 4], [5], [2, 6], [7], [0, 8], [9], [9]]
        [is _, is _, is _, is _, is _, is _, is _, is _, is _, (fun u v => ∃ v', v = .tuple #[.agg #[v'], .int .i64 (RF.send fs f).1] ∧ ∃ G, (aFl v' (RF.send fs f).2).p u G ∧ ∀ b, G b → F b ∨ w3.heap.size ≤ b), (fun u v => ∃ v', v = .agg #[v'] ∧ ∃ G, (aFl v' (RF.send fs f).2).p u G ∧ ∀ b, G b → F b ∨ w3.heap.size ≤ b), is _] (by kernel_rfl) (by kernel_rfl) (by rfl) (by kernel_rfl) (by kernel_rfl) ⟨stab_is _, stab_is _, stab_is _, stab_is _, stab_is _, stab_is _, stab_is _, stab_is _, stab_is _, (fun _ _ _ ⟨v', e, G, h1, h2⟩ hb => ⟨v', e, G, fl_below h1 hb, h2⟩), (fun _ _ _ ⟨v', e, G, h1, h2⟩ hb => ⟨v', e, G, fl_below h1 hb, h2⟩), stab_is _, trivial⟩ ?step1 ?fin1
      case step1 =>
        refine ⟨fun wq hbq Kq hKq => ?_, fun wq hbq Kq hKq => ?_, fun wq hbq Kq hKq => ?_, fun wq hbq Kq hKq => ?_, fun wq hbq Kq hKq => ?_, fun wq hbq Kq hKq => ?_, fun wq hbq Kq hKq => ?_, fun wq hbq Kq hKq => ?_, fun wq hbq Kq hKq => ?_, fun wq hbq Kq hKq => ?_, fun wq hbq Kq hKq => ?_, fun wq hbq Kq hKq => ?_, trivial⟩
        · have Mq := M.below hbq; have hB := Mq.zbox 1 rfl; have hcq := cel_bl hbq hci; have hrq := rng_bl hbq hrg
          refine WR.s ?_; refine WR.nil ?_; exact Ends.one hKq rfl rfl (Below.refl _ _)
        · have Mq := M.below hbq; have hB := Mq.zbox 1 rfl; have hcq := cel_bl hbq hci; have hrq := rng_bl hbq hrg
          refine WR.s ?_; refine WR.nil ?_; exact Ends.one hKq rfl rfl (Below.refl _ _)
        · rintro _ rfl
          have Mq := M.below hbq; have hB := Mq.zbox 1 rfl; have hcq := cel_bl hbq hci; have hrq := rng_bl hbq hrg
          refine WR.s ?_; refine WR.nil ?_; exact Ends.one hKq rfl rfl (Below.refl _ _)
        · have Mq := M.below hbq; have hB := Mq.zbox 1 rfl; have hcq := cel_bl hbq hci; have hrq := rng_bl hbq hrg
          refine WR.s ?_; refine WR.nil ?_; exact Ends.one hKq rfl rfl (Below.refl _ _)
        · have Mq := M.below hbq; have hB := Mq.zbox 1 rfl; have hcq := cel_bl hbq hci; have hrq := rng_bl hbq hrg
          refine WR.s ?_; refine WR.nil ?_; exact Ends.one hKq rfl rfl (Below.refl _ _)
        · rintro _ rfl _ rfl
          have Mq := M.below hbq; have hB := Mq.zbox 1 rfl; have hcq := cel_bl hbq hci; have hrq := rng_bl hbq hrg
          refine WR.indexAddr (j := k) (by rfl) (by rfl) (by rfl) (by omega) ?_; refine WR.nil ?_; exact Ends.one hKq rfl rfl (Below.refl _ _)
        · rintro _ rfl
          have Mq := M.below hbq; have hB := Mq.zbox 1 rfl; have hcq := cel_bl hbq hci; have hrq := rng_bl hbq hrg
          refine WR.load (by rfl) (by exact hcq) (by rfl) ?_; refine WR.nil ?_; exact Ends.one hKq rfl rfl (Below.refl _ _)
        · rintro _ rfl _ rfl
          have Mq := M.below hbq; have hB := Mq.zbox 1 rfl; have hcq := cel_bl hbq hci; have hrq := rng_bl hbq hrg
          refine WR.indexAddr (j := i) (by rfl) (by rfl) (by rfl) hil ?_; refine WR.nil ?_; exact Ends.one hKq rfl rfl (Below.refl _ _)
        · rintro _ rfl
          have Mq := M.below hbq; have hB := Mq.zbox 1 rfl; have hcq := cel_bl hbq hci; have hrq := rng_bl hbq hrg
          refine WR.loadRow (by rfl) (by exact hrq) (by rfl) (by rfl) ?_; refine WR.nil ?_; exact Ends.one hKq rfl rfl (Below.refl _ _)
        · rintro _ rfl _ rfl
          have Mq := M.below hbq; have hB := Mq.zbox 1 rfl; have hcq := cel_bl hbq hci; have hrq := rng_bl hbq hrg
          refine WR.call (by rfl) (by rfl) (rsend_any _ _ fs f _ _ _ (fl_below h3 hbq) hn hb (Sl.below hbs (by decide) hbq) (hb f (List.mem_of_getElem? hf))) ?_; rintro _ wy ⟨v', rfl, hby, G, h1, h2⟩; refine ⟨_, rfl, ?_⟩; refine WR.nil ?_; exact Ends.one hKq rfl ⟨v', rfl, G, h1, fun b hb => (h2 b hb).imp id fun h => Nat.le_trans hbq.size h⟩ hby 
        · rintro v9 h9
          have Mq := M.below hbq; have hB := Mq.zbox 1 rfl; have hcq := cel_bl hbq hci; have hrq := rng_bl hbq hrg
          obtain ⟨v', rfl, G, h1, h2⟩ := h9; refine WR.extract rfl rfl rfl ?_; refine WR.nil ?_; exact Ends.one hKq rfl ⟨v', rfl, G, h1, h2⟩ (Below.refl _ _) 
        · rintro v9 h9
          have Mq := M.below hbq; have hB := Mq.zbox 1 rfl; have hcq := cel_bl hbq hci; have hrq := rng_bl hbq hrg
          obtain ⟨v', rfl, G, h1, h2⟩ := h9; refine WR.extract rfl rfl rfl ?_; refine WR.nil ?_; exact Ends.one hKq rfl rfl (Below.refl _ _)
      intro wq hbq
      rintro _ rfl _ rfl _ rfl _ rfl _ rfl _ rfl _ rfl _ rfl _ rfl v9 h9 v10 h10 _ rfl
      refine WR.id ?_
      have Mq := M.below hbq; have hB := Mq.zbox 1 rfl; have hcq := cel_bl hbq hci; have hrq := rng_bl hbq hrg
      have hbw := Mq.pre 3 rfl
      clear hB h9
      obtain ⟨v', rfl, F5, h5, h5b⟩ := h10
      have hlt8 := M.box.lt
      replace M := Mq
      obtain ⟨A5, c5, rfl⟩ := aFl_sl h5
      refine WR.storeAgg (cs' := [.slice A5 (RF.send fs f).2.length c5]) M.box (by rfl) (by rfl) (by rfl) (by rfl) (by intro u hu; obtain rfl := List.mem_singleton.1 hu; rfl) fun w6 hu6 hx6 hs6 => ?_
      have M6 := M.setBox hu6 hx6
      have hw36 : w.heap.size ≤ w3.heap.size := by have := hbw.size; have := hbq.size; omega
      (repeat (first | (refine WR.id ?_; first | refine WR.nil ?_ | refine WR.s ?_ | refine WR.g ?_) | (refine W.id ?_; first | refine W.seq fun _ _ => ?_ | refine W.region ?_ | refine W.s ?_ | refine W.e ?_) | (refine Ends.id ?_; first | refine Ends.seq (by assumption) ?_ | refine Ends.s ?_)))
      have hne : ∀ b, F5 b → ¬ b = b8 := fun b hb e => by
        subst e
        rcases h5b _ hb with h' | h'
        · have := (aFl _ _).bnd h _ h'; omega
        · omega
      exact Ends.retCT rfl (by rfl) (by rfl) (hx6.load (by rfl)) (by rw [hr]; exact ⟨_, rfl, M6.pre 3 rfl, F5, (aFl _ _).stab h5 (Stays.of_upd hu6 fun b hb => ⟨(aFl _ _).bnd h5 b hb, hne b hb⟩), fun b hb => (h5b b hb).imp id fun h => Nat.le_trans hw36 h⟩)
theorem run_res_ctt {P : Program} {w : World} {fn : Func} {p q s : Tmp} {tp : TypeId} {ad : Addr} {u v z : Value} (hf : fn.results = #[.cell p tp, .tmp q, .tmp s]) {a : Act} (hp : a.tmps.getD p undef = .pointer (some ad)) (hq : a.tmps.getD q undef = v) (hs : a.tmps.getD s undef = z) (h1 : (loadVar tp ad).run P w = .ok u w) :
    (results fn a.tmps).run P w = .ok (.tuple #[u, v, z]) w := by
  have hp' : a.tmps[p]?.getD undef = .pointer (some ad) := by simpa using hp
  have hq' : a.tmps[q]?.getD undef = v := by simpa using hq
  have hs' : a.tmps[s]?.getD undef = z := by simpa using hs
  unfold results
  rw [hf]
  simp [Array.mapM_eq_mapM_toList, hp', hq', hs', asAddr, Sem.run_bind, h1]
set_option maxHeartbeats 1000000 in
theorem rgive_any (v : Value) (fs : List PF) (p : PK) (now n : Int) (w : World) (F : Nat → Prop) (h : (aFl v fs).p w F) (hn : fs.length ≤ 512) (hb : ∀ f ∈ fs, f.bytes.length ≤ 1048576) :
    Calls Try.prog 33 #[.agg #[v], .int .i64 p.1, .int .i64 p.2, .int .i64 now, .int .i64 n] w fun r w' => ∃ v' vb, r = .returned (.tuple #[.agg #[v'], vb, .int .i64 (RF.give fs p now n).1]) ∧ GotZ w w' F (aFl v' (RF.give fs p now n).2.2) ∧ GotZ w w' F (aBy vb (RF.give fs p now n).2.1) := by
  obtain ⟨vs, hvl, hx⟩ := afl_fx h
  obtain ⟨A, cp, rfl⟩ := aFl_sl h
  have M := Mem.src hx
  refine enter Try.func33 rfl Try.ntmps33 rfl rfl ?_
  (repeat (first | (refine WR.id ?_; first | refine WR.nil ?_ | refine WR.s ?_ | refine WR.g ?_) | (refine W.id ?_; first | refine W.seq fun _ _ => ?_ | refine W.region ?_ | refine W.s ?_ | refine W.e ?_) | (refine Ends.id ?_; first | refine Ends.seq (by assumption) ?_ | refine Ends.s ?_)))
  refine WR.box rfl (cs := #[.slice A fs.length cp]) rfl rfl fun w1 hb1 hx1 hs1 => ?_
  replace M := (M.newBox (cs := [.slice A fs.length cp]) hb1 hx1).freeze
  refine WR.alloc (by rfl) fun w2 hb2 hx2 hs2 => ?_
  replace M := (M.newBox (cs := [.slice none 0 0]) hb2 hx2)
  have hb8 := hb1.size
  generalize w1.heap.size = b8 at M hb8 ⊢
  have hB := M.zbox 0 rfl
  (repeat (first | (refine WR.id ?_; first | refine WR.nil ?_ | refine WR.s ?_ | refine WR.g ?_) | (refine W.id ?_; first | refine W.seq fun _ _ => ?_ | refine W.region ?_ | refine W.s ?_ | refine W.e ?_) | (refine Ends.id ?_; first | refine Ends.seq (by assumption) ?_ | refine Ends.s ?_)))
  refine WR.call rfl rfl (arr_any _ fs p now _ _ (fl_below h (M.pre 2 rfl)) (by omega)) ?_
  clear hB
  rintro _ w3 ⟨Ao, co, rfl, hfo⟩
  refine ⟨_, rfl, ?_⟩
  replace M := (M.add hfo).freeze
  have hB := M.zbox 1 rfl
  have hol : (RF.arr fs p now).length ≤ fs.length := by rw [arr_idx]; exact idx_le _ _
  have hby0 : ∀ {w' : World}, Below w.heap.size w w' → GotZ w w' F (aBy (.slice none 0 0) []) := fun hb => ⟨hb, _, aBy_nil _, fun b h => h.elim⟩
  by_cases h0 : n < 0
  · have hr : RF.give fs p now n = (4, [], fs) := by unfold RF.give; rw [if_pos h0]
    (repeat (first | (refine WR.id ?_; first | refine WR.nil ?_ | refine WR.s ?_ | refine WR.g ?_) | (refine W.id ?_; first | refine W.seq fun _ _ => ?_ | refine W.region ?_ | refine W.s ?_ | refine W.e ?_) | (refine Ends.id ?_; first | refine Ends.seq (by assumption) ?_ | refine Ends.s ?_)))
    refine WR.storeAgg (cs' := [.slice A fs.length cp]) M.box (by rfl) (by rfl) (by rfl) (by rfl) (by intro u hu; obtain rfl := List.mem_singleton.1 hu; rfl) fun w5 hu5 hx5 hs5 => ?_
    replace M := M.setBox hu5 hx5
    (repeat (first | (refine WR.id ?_; first | refine WR.nil ?_ | refine WR.s ?_ | refine WR.g ?_) | (refine W.id ?_; first | refine W.seq fun _ _ => ?_ | refine W.region ?_ | refine W.s ?_ | refine W.e ?_) | (refine Ends.id ?_; first | refine Ends.seq (by assumption) ?_ | refine Ends.s ?_)))
    exact Ends.done (.inl rfl) (fun a ha => run_res_ctt rfl (ha.getD (by rfl)) (ha.getD (by rfl)) (ha.getD (by rfl)) (hx5.load (by rfl))) (by rw [hr]; exact ⟨_, _, rfl, GotZ.keep h (M.pre 3 rfl), hby0 (M.pre 3 rfl)⟩)
  · by_cases h9 : ((RF.arr fs p now).length : Int) ≤ n
    · have hr : RF.give fs p now n = (4, [], fs) := by unfold RF.give; rw [if_neg h0, List.getElem?_eq_none (by omega)]
      (repeat (first | (refine WR.id ?_; first | refine WR.nil ?_ | refine WR.s ?_ | refine WR.g ?_) | (refine W.id ?_; first | refine W.seq fun _ _ => ?_ | refine W.region ?_ | refine W.s ?_ | refine W.e ?_) | (refine Ends.id ?_; first | refine Ends.seq (by assumption) ?_ | refine Ends.s ?_)))
      refine WR.storeAgg (cs' := [.slice A fs.length cp]) M.box (by rfl) (by rfl) (by rfl) (by rfl) (by intro u hu; obtain rfl := List.mem_singleton.1 hu; rfl) fun w5 hu5 hx5 hs5 => ?_
      replace M := M.setBox hu5 hx5
      (repeat (first | (refine WR.id ?_; first | refine WR.nil ?_ | refine WR.s ?_ | refine WR.g ?_) | (refine W.id ?_; first | refine W.seq fun _ _ => ?_ | refine W.region ?_ | refine W.s ?_ | refine W.e ?_) | (refine Ends.id ?_; first | refine Ends.seq (by assumption) ?_ | refine Ends.s ?_)))
      exact Ends.done (.inl rfl) (fun a ha => run_res_ctt rfl (ha.getD (by rfl)) (ha.getD (by rfl)) (ha.getD (by rfl)) (hx5.load (by rfl))) (by rw [hr]; exact ⟨_, _, rfl, GotZ.keep h (M.pre 3 rfl), hby0 (M.pre 3 rfl)⟩)
    · obtain ⟨k, rfl⟩ : ∃ k : Nat, n = k := ⟨n.toNat, by omega⟩
      obtain ⟨i, hi⟩ : ∃ i, (RF.arr fs p now)[k]? = some i := ⟨_, List.getElem?_eq_getElem (by omega)⟩
      have hil : i < fs.length := by have := List.mem_of_getElem? hi; rw [arr_idx] at this; exact idx_lt this
      obtain ⟨f, hf⟩ : ∃ f, fs[i]? = some f := ⟨_, List.getElem?_eq_getElem hil⟩
      have hr : RF.give fs p now (k : Nat) = (0, f.bytes, fs.eraseIdx i) := by unfold RF.give; rw [if_neg h0]; simp only [Int.toNat_natCast, hi, hf]
      obtain ⟨Fo, hFo⟩ := M.z 0 rfl
      obtain ⟨go, rfl⟩ := lrow_some hFo.2 (by omega)
      have hci := nat_cell hFo.2 hi
      obtain ⟨Fz, hz⟩ := M.z 2 rfl
      obtain ⟨g, c, Ab, q, hA, hrg, Fb, hbs⟩ := elem_fl hvl hz hf
      cases hA
      have hrc := hrg 3 _ rfl
      have hfb := hb f (List.mem_of_getElem? hf)
      have h3 := fl_below h (M.pre 3 rfl)
      have hlt8 := M.box.lt
      (repeat (first | (refine WR.id ?_; first | refine WR.nil ?_ | refine WR.s ?_ | refine WR.g ?_) | (refine W.id ?_; first | refine W.seq fun _ _ => ?_ | refine W.region ?_ | refine W.s ?_ | refine W.e ?_) | (refine Ends.id ?_; first | refine Ends.seq (by assumption) ?_ | refine Ends.s ?_)))
      apply W.drawsTo 17 [[], [], [], [1, 2], [3], [0, 4], [], [], [7], [], [], [9, 10], [11], [8, 12], [13], [14], [6, 15]]
        [is _, is _, is _, is _, is _, (fun u v => ∃ v', v = .agg #[v'] ∧ ∃ F, (aFl v' (fs.eraseIdx i)).p u F ∧ ∀ b, F b → w3.heap.size ≤ b), (fun u v => ∃ g, v = .slice (some ⟨g, 0, none⟩) 0 0 ∧ u.ownsRow w3.heap.size 5 1 (.slice (some ⟨g, 0, none⟩) 0 0) 0 []), is _, is _, is _, is _, is _, is _, is _, is _, is _, (fun u v => (∃ A c, v = .slice A f.bytes.length c) ∧ u.ownsRow w3.heap.size 5 1 v f.bytes.length (bvs f.bytes))] (by kernel_rfl) (by kernel_rfl) (by rfl) (by kernel_rfl) (by kernel_rfl) ⟨stab_is _, stab_is _, stab_is _, stab_is _, stab_is _, (fun _ _ _ ⟨v', e, F, h1, h2⟩ hb => ⟨v', e, F, fl_below h1 hb, h2⟩), (fun _ _ _ ⟨g, h1, h2⟩ hb => ⟨g, h1, ownb_bl h2 hb⟩), stab_is _, stab_is _, stab_is _, stab_is _, stab_is _, stab_is _, stab_is _, stab_is _, stab_is _, (fun _ _ _ ⟨h0, h1⟩ hb => ⟨h0, ownb_bl h1 hb⟩), trivial⟩ ?step2 ?fin2
      case step2 =>
        refine ⟨fun wq hbq Kq hKq => ?_, fun wq hbq Kq hKq => ?_, fun wq hbq Kq hKq => ?_, fun wq hbq Kq hKq => ?_, fun wq hbq Kq hKq => ?_, fun wq hbq Kq hKq => ?_, fun wq hbq Kq hKq => ?_, fun wq hbq Kq hKq => ?_, fun wq hbq Kq hKq => ?_, fun wq hbq Kq hKq => ?_, fun wq hbq Kq hKq => ?_, fun wq hbq Kq hKq => ?_, fun wq hbq Kq hKq => ?_, fun wq hbq Kq hKq => ?_, fun wq hbq Kq hKq => ?_, fun wq hbq Kq hKq => ?_, fun wq hbq Kq hKq => ?_, trivial⟩
        · have Mq := M.below hbq; have hB := Mq.zbox 1 rfl; have hcq := cel_bl hbq hci; have hrq := cel_bl hbq hrc
          refine WR.s ?_; refine WR.nil ?_; exact Ends.one hKq rfl rfl (Below.refl _ _)
        · have Mq := M.below hbq; have hB := Mq.zbox 1 rfl; have hcq := cel_bl hbq hci; have hrq := cel_bl hbq hrc
          refine WR.s ?_; refine WR.nil ?_; exact Ends.one hKq rfl rfl (Below.refl _ _)
        · have Mq := M.below hbq; have hB := Mq.zbox 1 rfl; have hcq := cel_bl hbq hci; have hrq := cel_bl hbq hrc
          refine WR.s ?_; refine WR.nil ?_; exact Ends.one hKq rfl rfl (Below.refl _ _)
        · rintro _ rfl _ rfl
          have Mq := M.below hbq; have hB := Mq.zbox 1 rfl; have hcq := cel_bl hbq hci; have hrq := cel_bl hbq hrc
          refine WR.indexAddr (j := k) (by rfl) (by rfl) (by rfl) (by omega) ?_; refine WR.nil ?_; exact Ends.one hKq rfl rfl (Below.refl _ _)
        · rintro _ rfl
          have Mq := M.below hbq; have hB := Mq.zbox 1 rfl; have hcq := cel_bl hbq hci; have hrq := cel_bl hbq hrc
          refine WR.load (by rfl) (by exact hcq) (by rfl) ?_; refine WR.nil ?_; exact Ends.one hKq rfl rfl (Below.refl _ _)
        · rintro _ rfl _ rfl
          have Mq := M.below hbq; have hB := Mq.zbox 1 rfl; have hcq := cel_bl hbq hci; have hrq := cel_bl hbq hrc
          refine WR.call (by rfl) (by rfl) (without_any _ fs i _ _ (fl_below h3 hbq) (by omega) hb hil) ?_; rintro _ wy ⟨v', rfl, hby, F7, h7, h7b⟩; refine ⟨_, rfl, ?_⟩; refine WR.nil ?_; exact Ends.one hKq rfl ⟨v', rfl, F7, h7, fun b hb => Nat.le_trans hbq.size (h7b b hb)⟩ hby 
        · have Mq := M.below hbq; have hB := Mq.zbox 1 rfl; have hcq := cel_bl hbq hci; have hrq := cel_bl hbq hrc
          refine WR.row0 Try.elB (by rfl) fun wy hby ho _ => ?_; refine WR.nil ?_; exact Ends.one hKq rfl ⟨_, rfl, ownb_base ho hbq.size⟩ hby 
        · have Mq := M.below hbq; have hB := Mq.zbox 1 rfl; have hcq := cel_bl hbq hci; have hrq := cel_bl hbq hrc
          refine WR.s ?_; refine WR.nil ?_; exact Ends.one hKq rfl rfl (Below.refl _ _)
        · rintro _ rfl
          have Mq := M.below hbq; have hB := Mq.zbox 1 rfl; have hcq := cel_bl hbq hci; have hrq := cel_bl hbq hrc
          refine WR.s ?_; refine WR.nil ?_; exact Ends.one hKq rfl rfl (Below.refl _ _)
        · have Mq := M.below hbq; have hB := Mq.zbox 1 rfl; have hcq := cel_bl hbq hci; have hrq := cel_bl hbq hrc
          refine WR.s ?_; refine WR.nil ?_; exact Ends.one hKq rfl rfl (Below.refl _ _)
        · have Mq := M.below hbq; have hB := Mq.zbox 1 rfl; have hcq := cel_bl hbq hci; have hrq := cel_bl hbq hrc
          refine WR.s ?_; refine WR.nil ?_; exact Ends.one hKq rfl rfl (Below.refl _ _)
        · rintro _ rfl _ rfl
          have Mq := M.below hbq; have hB := Mq.zbox 1 rfl; have hcq := cel_bl hbq hci; have hrq := cel_bl hbq hrc
          refine WR.indexAddr (j := k) (by rfl) (by rfl) (by rfl) (by omega) ?_; refine WR.nil ?_; exact Ends.one hKq rfl rfl (Below.refl _ _)
        · rintro _ rfl
          have Mq := M.below hbq; have hB := Mq.zbox 1 rfl; have hcq := cel_bl hbq hci; have hrq := cel_bl hbq hrc
          refine WR.load (by rfl) (by exact hcq) (by rfl) ?_; refine WR.nil ?_; exact Ends.one hKq rfl rfl (Below.refl _ _)
        · rintro _ rfl _ rfl
          have Mq := M.below hbq; have hB := Mq.zbox 1 rfl; have hcq := cel_bl hbq hci; have hrq := cel_bl hbq hrc
          refine WR.indexAddr (j := i) (by rfl) (by rfl) (by rfl) hil ?_; refine WR.nil ?_; exact Ends.one hKq rfl rfl (Below.refl _ _)
        · rintro _ rfl
          have Mq := M.below hbq; have hB := Mq.zbox 1 rfl; have hcq := cel_bl hbq hci; have hrq := cel_bl hbq hrc
          refine WR.s ?_; refine WR.nil ?_; exact Ends.one hKq rfl rfl (Below.refl _ _)
        · rintro _ rfl
          have Mq := M.below hbq; have hB := Mq.zbox 1 rfl; have hcq := cel_bl hbq hci; have hrq := cel_bl hbq hrc
          refine WR.load (by rfl) (by exact hrq) (by rfl) ?_; refine WR.nil ?_; exact Ends.one hKq rfl rfl (Below.refl _ _)
        · rintro v6 h6 _ rfl
          have Mq := M.below hbq; have hB := Mq.zbox 1 rfl; have hcq := cel_bl hbq hci; have hrq := cel_bl hbq hrc
          obtain ⟨g6, rfl, ho6⟩ := h6; refine WR.app0 Try.elB (by rfl) (by rfl) (by rfl) ho6 (Sl.below hbs (by decide) hbq) (one_bvs _) (by omega) (by decide) hbq.size fun v8 w8 ho8 hb8 => ?_; refine WR.nil ?_; exact Ends.one hKq rfl ⟨by obtain ⟨_, A, c, e, _⟩ := Sl.of_row ho8; exact ⟨A, c, e⟩, ho8⟩ hb8 
      intro wq hbq
      rintro _ rfl _ rfl _ rfl _ rfl _ rfl v5 h5 v6 h6 _ rfl _ rfl _ rfl _ rfl _ rfl _ rfl _ rfl _ rfl _ rfl v16 h16
      refine WR.id ?_
      have Mq := M.below hbq; have hB := Mq.zbox 1 rfl; have hcq := cel_bl hbq hci; have hrq := cel_bl hbq hrc
      obtain ⟨v', rfl, F5, h5, h5b⟩ := h5
      obtain ⟨⟨A16, c16, rfl⟩, ho16⟩ := h16
      have hbw := Mq.pre 3 rfl
      obtain ⟨A5, c5, rfl⟩ := aFl_sl h5
      clear hB
      refine WR.storeAgg (cs' := [.slice A5 (fs.eraseIdx i).length c5]) Mq.box (by rfl) (by rfl) (by rfl) (by rfl) (by intro u hu; obtain rfl := List.mem_singleton.1 hu; rfl) fun w6 hu6 hx6 hs6 => ?_
      have M6 := Mq.setBox hu6 hx6
      have hw36 : w.heap.size ≤ w3.heap.size := (M.pre 3 rfl).size
      (repeat (first | (refine WR.id ?_; first | refine WR.nil ?_ | refine WR.s ?_ | refine WR.g ?_) | (refine W.id ?_; first | refine W.seq fun _ _ => ?_ | refine W.region ?_ | refine W.s ?_ | refine W.e ?_) | (refine Ends.id ?_; first | refine Ends.seq (by assumption) ?_ | refine Ends.s ?_)))
      refine Ends.done (.inl rfl) (fun a ha => run_res_ctt rfl (ha.getD (by rfl)) (ha.getD (by rfl)) (ha.getD (by rfl)) (hx6.load (by rfl))) (by
        rw [hr]
        refine ⟨_, _, rfl, ⟨M6.pre 3 rfl, F5, (aFl _ _).stab h5 (Stays.of_upd hu6 fun b hb => ⟨(aFl _ _).bnd h5 b hb, fun e => ?_⟩), fun b hb => .inr (Nat.le_trans hw36 (h5b b hb))⟩, ⟨M6.pre 3 rfl, fun b => (Value.slice A16 f.bytes.length c16).ownBlock = some b, ⟨fun _ => Iff.rfl, own_keep (own_zero ho16) fun g hg => ?_⟩, fun b hb => .inr (Nat.le_trans hw36 (World.ownsRow.lt ho16 b hb).1)⟩⟩
        · subst e; have := h5b _ hb; omega
        · have := World.ownsRow.lt ho16 g hg
          exact hu6.block g this.2 (by omega))

end Go.Proofs.Ytibmcpbkialbnaa
