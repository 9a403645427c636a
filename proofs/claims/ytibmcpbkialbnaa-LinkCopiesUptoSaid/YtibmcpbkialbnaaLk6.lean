/- Links: take, a flight out of them. No condition beyond sizes. -/
import Derived.Test.YtibmcpbkialbnaaLk5
import Derived.Test.YtibmcpbkialbnaaRl2
namespace Go.Proofs.Ytibmcpbkialbnaa
open Go.RowKit K L E
open Go.Maps (Keyed)
set_option linter.unusedVariables false
set_option linter.unusedSimpArgs false

theorem E.Mem.pull2 {w : World} {a b x y : Ass} {l Os Zs : List Ass} (M : Mem w (a :: b :: (l ++ x :: y :: Os)) Zs) : Mem w (a :: x :: y :: b :: (l ++ Os)) Zs :=
  M.perm (.cons a ((List.perm_middle (l₁ := b :: l)).trans (.cons x (List.perm_middle (l₁ := b :: l)))))
theorem E.Mem.push2 {w : World} {a x y : Ass} {l Os Zs : List Ass} (M : Mem w (a :: x :: y :: (l ++ Os)) Zs) : Mem w (a :: (l ++ x :: y :: Os)) Zs :=
  M.perm (.cons a ((List.perm_middle.trans (.cons x List.perm_middle)).symm))
theorem split_at {α : Type} (l : List α) (i : Nat) (h : i < l.length) : ∃ a x b, l = a ++ x :: b ∧ a.length = i :=
  ⟨l.take i, l[i], l.drop (i + 1), by rw [← List.drop_eq_getElem_cons h, List.take_append_drop], by simp; omega⟩
theorem PF.cells_len (f : PF) (v : Value) : (f.cells v).length = 4 := rfl
theorem cells_len4 {fs : List PF} {vs : List Value} : ∀ c ∈ List.zipWith PF.cells fs vs, c.length = 4 := by
  intro c hc
  rw [List.mem_iff_getElem?] at hc
  obtain ⟨j, hj⟩ := hc
  rw [List.getElem?_zipWith] at hj
  split at hj
  · cases hj; rfl
  · cases hj
theorem one_fl {fs : List PF} {vs : List Value} (h : ∀ x ∈ vs, x.oneCell' = true) : ∀ u ∈ (List.zipWith PF.cells fs vs).flatten, u.oneCell' = true := by
  intro u hu
  obtain ⟨c, hc, hu⟩ := List.mem_flatten.1 hu
  rw [List.mem_iff_getElem?] at hc
  obtain ⟨j, hj⟩ := hc
  rw [List.getElem?_zipWith] at hj
  split at hj
  · rename_i a b ha hb
    cases hj
    have := h b (List.mem_of_getElem? hb)
    simp [PF.cells] at hu
    rcases hu with rfl | rfl | rfl | rfl <;> first | rfl | exact this
  · cases hj
variable {w : World} {b g c : Nat} {l : PL} {es : List MapEntry} {Os Zs : List Ass}
theorem by_one {v : Value} {bs : List UInt8} {F : Nat → Prop} (h : (aBy v bs).p w F) : v.oneCell' = true := by
  obtain ⟨_, h⟩ := h
  obtain ⟨_, ⟨rfl, _⟩ | ⟨g, cap, cur, rfl, _⟩⟩ := h <;> rfl
theorem all_by {vs : List Value} {fs : List PF} (hl : vs.length = fs.length) (M : Mem w (List.zipWith (fun v (f : PF) => aBy v f.bytes) vs fs ++ Os) Zs) : ∀ x ∈ vs, x.oneCell' = true := by
  induction vs generalizing fs Os with
  | nil => intro x hx; cases hx
  | cons v vs ih =>
    cases fs with
    | nil => cases hl
    | cons f fs =>
      intro x hx
      rcases List.mem_cons.1 hx with rfl | hx
      · obtain ⟨F, hF⟩ := M.get; exact by_one hF
      · exact ih (by simpa using hl) M.drop x hx
/-- One flight of a pair's: its row, its bytes, and all else. -/
theorem E.Mem.flight {v : Value} {fs : List PF} (M : Mem w (aFl v fs :: Os) Zs) (i : Nat) (hi : i < fs.length) : ∃ f1 f f2 v1 vb v2 a cp, fs = f1 ++ f :: f2 ∧ f1.length = i ∧ v1.length = i ∧ v2.length = f2.length ∧ v = .slice (some ⟨a, 0, Option.none⟩) fs.length cp ∧ (∀ x ∈ v1 ++ vb :: v2, x.oneCell' = true) ∧
    Mem w (aLr 24 4 v fs.length (List.zipWith PF.cells (f1 ++ f :: f2) (v1 ++ vb :: v2)).flatten :: aBy vb f.bytes :: (List.zipWith (fun v (f : PF) => aBy v f.bytes) (v1 ++ v2) (f1 ++ f2) ++ Os)) Zs := by
  obtain ⟨vs, hl, M⟩ := M.fl
  have h1 := all_by hl M.drop
  obtain ⟨_, ⟨_, h0⟩ | ⟨a, cp, _, rfl, _⟩⟩ := M.lrow
  · omega
  obtain ⟨f1, f, f2, rfl, hf⟩ := split_at fs i hi
  obtain ⟨v1, vb, v2, rfl, hv⟩ := split_at vs i (by omega)
  have h2 : v2.length = f2.length := by simp at hl; omega
  refine ⟨f1, f, f2, v1, vb, v2, a, cp, rfl, hf, hv, h2, rfl, h1, M.under1 fun M => M.perm ?_⟩
  rw [List.zipWith_append (by omega), List.zipWith_append (by omega), List.zipWith_cons_cons, List.append_assoc, List.append_assoc]
  exact List.perm_middle
theorem EsOk.parts {l1 l2 : List MapEntry} {e : MapEntry} {p : PK} (hk : EsOk l (l1 ++ e :: l2)) (he : e.key = kv p) : (∀ x ∈ l1 ++ l2, ∃ q : PK, x.key = kv q ∧ i64 q.1 ∧ i64 q.2) ∧ (∀ q : PK, q ≠ p → (∀ x ∈ l1 ++ l2, x.key ≠ kv q) → l.m q = []) ∧ ((l1 ++ l2).map fun e => (l.m (pk e.key)).length).sum + (l.m p).length = l.n := by
  refine ⟨fun x hx => hk.keys x ?_, fun q hq hx => hk.rest q fun x hx2 => ?_, by rw [← hk.sum]; simp only [List.map_append, List.map_cons, List.sum_append, List.sum_cons, he, pk_kv]; omega⟩
  · rcases List.mem_append.1 hx with hx | hx <;> simp [hx]
  · rcases List.mem_append.1 hx2 with h | h
    · exact hx x (List.mem_append_left _ h)
    · rcases List.mem_cons.1 h with rfl | h
      · rw [he]; exact fun hh => hq (kv_inj hh).symm
      · exact hx x (List.mem_append_right _ h)
/-- A pair's flights, and one of them, laid open. -/
theorem E.Mem.pair {l1 l2 : List MapEntry} {e : MapEntry} {p : PK} {x : Ass} (he : e.key = kv p) (M : Mem w (x :: aMap Try.prog 66 g (l1 ++ e :: l2) c :: (((l1 ++ e :: l2).map fun e => aFl e.val (l.m (pk e.key))) ++ Os)) Zs) :
    Mem w (aFl e.val (l.m p) :: x :: aMap Try.prog 66 g (l1 ++ e :: l2) c :: (((l1 ++ l2).map fun e => aFl e.val (l.m (pk e.key))) ++ Os)) Zs := by
  have := (M.under1 fun M => M.under1 fun M => M.pick (f := fun e => aFl e.val (l.m (pk e.key)))).third
  rwa [he, pk_kv] at this
theorem At.lit {w : World} {b o : Nat} {xs : List Value} (h : K.At w ⟨b, o, none⟩ xs) : ∀ (j : Nat) u, xs[j]? = some u → w.cell? ⟨b, o + j, none⟩ = some u := fun j u hu => by
  have := h j u hu
  rwa [Addr.add_lit] at this
theorem zip_mid {f1 f2 : List PF} {f : PF} {v1 v2 : List Value} {vb : Value} (h : v1.length = f1.length) : (List.zipWith PF.cells (f1 ++ f :: f2) (v1 ++ vb :: v2))[f1.length]? = some (f.cells vb) := by
  rw [List.zipWith_append h.symm, List.zipWith_cons_cons, List.getElem?_append_right (by simp [h])]
  simp [h]
theorem zip_cut {f1 f2 : List PF} {f : PF} {v1 v2 : List Value} {vb : Value} (h : v1.length = f1.length) : (List.zipWith PF.cells (f1 ++ f :: f2) (v1 ++ vb :: v2)).take f1.length ++ (List.zipWith PF.cells (f1 ++ f :: f2) (v1 ++ vb :: v2)).drop (f1.length + 1) = List.zipWith PF.cells (f1 ++ f2) (v1 ++ v2) := by
  have hl : (List.zipWith PF.cells f1 v1).length = f1.length := by simp [h]
  rw [List.zipWith_append h.symm, List.zipWith_append h.symm, List.zipWith_cons_cons, List.take_append_of_le_length (by omega), List.take_of_length_le (by omega), List.drop_append, List.drop_of_length_le (by omega), hl]
  simp
set_option maxHeartbeats 1000000 in
theorem take_M (M : Mem w (aLk b l :: Os) Zs) (p : PK) (h1 : i64 p.1) (h2 : i64 p.2) (i : Nat) (hi : i < (l.m p).length) :
    Calls Try.prog 30 #[.pointer (some ⟨b, 0, none⟩), kv p, .int .i64 (i : Nat)] w fun r w' => ∃ f vb, (l.m p)[i]? = some f ∧ r = .returned (.agg (f.cells vb).toArray) ∧ Mem w' (aBy vb f.bytes :: aLk b (l.put p ((l.m p).eraseIdx i) (l.n - 1)) :: Os) Zs := by
  obtain ⟨g, es, c, hk, M⟩ := M.lk
  obtain ⟨kl, hkl⟩ := keyOf_kv p h1 h2
  have htop := hk.top
  have hcnt := hk.cnt p
  rcases hk.find p with ⟨hn, h0⟩ | ⟨l1, e, l2, rfl, he⟩
  · rw [h0] at hi; cases hi
  obtain ⟨hk1, hk2, hsum⟩ := hk.parts he
  obtain ⟨f1, f, f2, v1, vb, v2, a, cp, hfs, rfl, hv1, hv2, hev, hone, M⟩ := (M.pair he).flight i hi
  generalize hFS : l.m p = fs at *
  generalize hN : fs.length = N at *
  have hlook := fun u (hu : IsMap Try.prog 66 u g (l1 ++ e :: l2) c) => run_lookup1 Try.keyed Try.underlying63 hu hkl he
  rw [hev] at hlook
  have hcp : N ≤ cp := by
    have h := M.lrow
    rw [hev] at h
    obtain ⟨_, ⟨h0, _⟩ | ⟨_, _, _, h0, _, h5, _⟩⟩ := h
    · cases h0
    · cases h0; exact h5
  refine enter Try.func30 rfl Try.ntmps30 rfl rfl ?_
  (repeat (first | (refine WR.id ?_; first | refine WR.nil ?_ | refine WR.s ?_ | refine WR.g ?_) | (refine W.id ?_; first | refine W.seq fun _ _ => ?_ | refine W.region ?_ | refine W.s ?_ | refine W.e ?_) | (refine Ends.id ?_; first | refine Ends.seq (by assumption) ?_ | refine Ends.s ?_)))
  refine WR.box rfl (cs := #[.int .i64 p.1, .int .i64 p.2]) rfl rfl fun w1 hb1 hx hs1 => ?_
  refine WR.alloc (by rfl) fun w2 hb2 hy hs2 => ?_
  replace M := M.pull2
  replace M := ((M.newBox (cs := [.int .i64 p.1, .int .i64 p.2]) hb1 hx).freeze.newBox (cs := [.int .i64 0, .int .i64 0, .int .i64 0, .slice Option.none 0 0]) hb2 hy).swap
  rw [hev] at M
  (repeat (first | (refine WR.id ?_; first | refine WR.nil ?_ | refine WR.s ?_ | refine WR.g ?_) | (refine W.id ?_; first | refine W.seq fun _ _ => ?_ | refine W.region ?_ | refine W.s ?_ | refine W.e ?_) | (refine Ends.id ?_; first | refine Ends.seq (by assumption) ?_ | refine Ends.s ?_)))
  have hz : (List.zipWith PF.cells (f1 ++ f :: f2) (v1 ++ vb :: v2))[f1.length]? = some (f.cells vb) := zip_mid hv1
  apply W.drawsTo 10 [[], [0], [1], [2], [], [3, 4], [], [5, 6], [7], []]
    [is _, is _, is _, is _, is _, is _, is _, is _, is _, (fun u v => ∃ z, v = .pointer (some ⟨z, 0, none⟩) ∧ w2.heap.size ≤ z ∧ Box u z [.int .i64 0, .int .i64 0, .int .i64 0, .slice none 0 0])] (by kernel_rfl) (by kernel_rfl) (by rfl) (by kernel_rfl) (by kernel_rfl) ⟨stab_is _, stab_is _, stab_is _, stab_is _, stab_is _, stab_is _, stab_is _, stab_is _, stab_is _, (fun _ _ _ ⟨z, h1, h2, h3⟩ hb => ⟨z, h1, h2, h3.below hb⟩), trivial⟩ ?step1 ?fin1
  case step1 =>
    refine ⟨fun wq hbq Kq hKq => ?_, fun wq hbq Kq hKq => ?_, fun wq hbq Kq hKq => ?_, fun wq hbq Kq hKq => ?_, fun wq hbq Kq hKq => ?_, fun wq hbq Kq hKq => ?_, fun wq hbq Kq hKq => ?_, fun wq hbq Kq hKq => ?_, fun wq hbq Kq hKq => ?_, fun wq hbq Kq hKq => ?_, trivial⟩
    · have Mq := M.below hbq; have hB := Mq.third.box; have hp := Mq.zbox 0 rfl; have hm := Mq.fourth.map; have hr := Mq.lrow.cells (g := a) rfl
      refine WR.s ?_; refine WR.nil ?_; exact Ends.one hKq rfl rfl (Below.refl _ _)
    · rintro _ rfl
      have Mq := M.below hbq; have hB := Mq.third.box; have hp := Mq.zbox 0 rfl; have hm := Mq.fourth.map; have hr := Mq.lrow.cells (g := a) rfl
      refine WR.s ?_; refine WR.nil ?_; exact Ends.one hKq rfl rfl (Below.refl _ _)
    · rintro _ rfl
      have Mq := M.below hbq; have hB := Mq.third.box; have hp := Mq.zbox 0 rfl; have hm := Mq.fourth.map; have hr := Mq.lrow.cells (g := a) rfl
      refine WR.s ?_; refine WR.nil ?_; exact Ends.one hKq rfl rfl (Below.refl _ _)
    · rintro _ rfl
      have Mq := M.below hbq; have hB := Mq.third.box; have hp := Mq.zbox 0 rfl; have hm := Mq.fourth.map; have hr := Mq.lrow.cells (g := a) rfl
      refine WR.s ?_; refine WR.nil ?_; exact Ends.one hKq rfl rfl (Below.refl _ _)
    · have Mq := M.below hbq; have hB := Mq.third.box; have hp := Mq.zbox 0 rfl; have hm := Mq.fourth.map; have hr := Mq.lrow.cells (g := a) rfl
      refine WR.loadBox (by rfl) hp (by rfl) (by rfl) ?_; refine WR.nil ?_; exact Ends.one hKq rfl rfl (Below.refl _ _)
    · rintro _ rfl _ rfl
      have Mq := M.below hbq; have hB := Mq.third.box; have hp := Mq.zbox 0 rfl; have hm := Mq.fourth.map; have hr := Mq.lrow.cells (g := a) rfl
      refine WR.lookup (by rfl) (by rfl) (hlook _ hm) (by rfl) ?_; refine WR.nil ?_; exact Ends.one hKq rfl rfl (Below.refl _ _)
    · have Mq := M.below hbq; have hB := Mq.third.box; have hp := Mq.zbox 0 rfl; have hm := Mq.fourth.map; have hr := Mq.lrow.cells (g := a) rfl
      refine WR.s ?_; refine WR.nil ?_; exact Ends.one hKq rfl rfl (Below.refl _ _)
    · rintro _ rfl _ rfl
      have Mq := M.below hbq; have hB := Mq.third.box; have hp := Mq.zbox 0 rfl; have hm := Mq.fourth.map; have hr := Mq.lrow.cells (g := a) rfl
      refine WR.indexAddr (j := f1.length) (by rfl) (by rfl) (by rfl) hi ?_; refine WR.nil ?_; exact Ends.one hKq rfl rfl (Below.refl _ _)
    · rintro _ rfl
      have Mq := M.below hbq; have hB := Mq.third.box; have hp := Mq.zbox 0 rfl; have hm := Mq.fourth.map; have hr := Mq.lrow.cells (g := a) rfl
      refine WR.loadRow (by rfl) (range_get (At.lit hr) cells_len4 hz) (by rfl) (by rfl) ?_; refine WR.nil ?_; exact Ends.one hKq rfl rfl (Below.refl _ _)
    · have Mq := M.below hbq; have hB := Mq.third.box; have hp := Mq.zbox 0 rfl; have hm := Mq.fourth.map; have hr := Mq.lrow.cells (g := a) rfl
      refine WR.alloc (by rfl) fun wy hby hxy _ => ?_; refine WR.nil ?_; exact Ends.one hKq rfl ⟨_, rfl, hbq.size, hxy⟩ hby 
  intro wq hbq
  rintro _ rfl _ rfl _ rfl _ rfl _ rfl _ rfl _ rfl _ rfl _ rfl v9 h9
  refine WR.id ?_
  have Mq := M.below hbq; have hB := Mq.third.box; have hp := Mq.zbox 0 rfl; have hm := Mq.fourth.map; have hr := Mq.lrow.cells (g := a) rfl
  obtain ⟨z, rfl, hz1, hz2⟩ := h9
  replace M := (M.new hbq (a := aBox z [.int .i64 0, .int .i64 0, .int .i64 0, .slice Option.none 0 0]) (F := fun x => x = z) ⟨fun _ => Iff.rfl, hz2⟩ (fun x hx => by omega))
  clear Mq hB hp hm hr
  refine WR.storeAgg (cs' := f.cells vb) M.box (by rfl) (by rfl) (by rfl) (by rfl) (by
    intro u hu; simp [PF.cells] at hu; rcases hu with rfl | rfl | rfl | rfl <;> first | rfl | exact hone _ (by simp)) fun w3 hu3 hx3 hs3 => ?_
  replace M := (M.setBox hu3 hx3).freeze
  (repeat (first | (refine WR.id ?_; first | refine WR.nil ?_ | refine WR.s ?_ | refine WR.g ?_) | (refine W.id ?_; first | refine W.seq fun _ _ => ?_ | refine W.region ?_ | refine W.s ?_ | refine W.e ?_) | (refine Ends.id ?_; first | refine Ends.seq (by assumption) ?_ | refine Ends.s ?_)))
  apply W.drawsTo 24 [[], [0], [1], [2], [], [], [5], [6], [7], [], [8, 9], [], [], [10, 11, 12], [], [14], [15], [16], [], [17, 18], [], [20], [19, 21], [13, 22]]
    [is _, is _, is _, is _, is _, is _, is _, is _, is _, is _, is _, is _, is _, is _, is _, is _, is _, is _, is _, is _, is _, is _, is _, (fun u v => LRow u 24 4 v (N - 1) ((List.zipWith PF.cells (f1 ++ f :: f2) (v1 ++ vb :: v2)).flatten.take (f1.length * 4) ++ (List.zipWith PF.cells (f1 ++ f :: f2) (v1 ++ vb :: v2)).flatten.drop ((f1.length + 1) * 4)) ∧ ∀ x, v.ownBlock = some x → x = a ∨ w3.heap.size ≤ x)] (by kernel_rfl) (by kernel_rfl) (by rfl) (by kernel_rfl) (by kernel_rfl) ⟨stab_is _, stab_is _, stab_is _, stab_is _, stab_is _, stab_is _, stab_is _, stab_is _, stab_is _, stab_is _, stab_is _, stab_is _, stab_is _, stab_is _, stab_is _, stab_is _, stab_is _, stab_is _, stab_is _, stab_is _, stab_is _, stab_is _, stab_is _, (fun _ _ _ ⟨h1, h2⟩ hb => ⟨h1.keep fun x hx => hb.block x (h1.lt x hx), h2⟩), trivial⟩ ?step2 ?fin2
  case step2 =>
    refine ⟨fun wq hbq Kq hKq => ?_, fun wq hbq Kq hKq => ?_, fun wq hbq Kq hKq => ?_, fun wq hbq Kq hKq => ?_, fun wq hbq Kq hKq => ?_, fun wq hbq Kq hKq => ?_, fun wq hbq Kq hKq => ?_, fun wq hbq Kq hKq => ?_, fun wq hbq Kq hKq => ?_, fun wq hbq Kq hKq => ?_, fun wq hbq Kq hKq => ?_, fun wq hbq Kq hKq => ?_, fun wq hbq Kq hKq => ?_, fun wq hbq Kq hKq => ?_, fun wq hbq Kq hKq => ?_, fun wq hbq Kq hKq => ?_, fun wq hbq Kq hKq => ?_, fun wq hbq Kq hKq => ?_, fun wq hbq Kq hKq => ?_, fun wq hbq Kq hKq => ?_, fun wq hbq Kq hKq => ?_, fun wq hbq Kq hKq => ?_, fun wq hbq Kq hKq => ?_, fun wq hbq Kq hKq => ?_, trivial⟩
    · have Mq := M.below hbq; have hB := Mq.third.box; have hp := Mq.zbox 1 rfl; have hm := Mq.fourth.map; have hr := Mq.lrow
      refine WR.s ?_; refine WR.nil ?_; exact Ends.one hKq rfl rfl (Below.refl _ _)
    · rintro _ rfl
      have Mq := M.below hbq; have hB := Mq.third.box; have hp := Mq.zbox 1 rfl; have hm := Mq.fourth.map; have hr := Mq.lrow
      refine WR.s ?_; refine WR.nil ?_; exact Ends.one hKq rfl rfl (Below.refl _ _)
    · rintro _ rfl
      have Mq := M.below hbq; have hB := Mq.third.box; have hp := Mq.zbox 1 rfl; have hm := Mq.fourth.map; have hr := Mq.lrow
      refine WR.s ?_; refine WR.nil ?_; exact Ends.one hKq rfl rfl (Below.refl _ _)
    · rintro _ rfl
      have Mq := M.below hbq; have hB := Mq.third.box; have hp := Mq.zbox 1 rfl; have hm := Mq.fourth.map; have hr := Mq.lrow
      refine WR.s ?_; refine WR.nil ?_; exact Ends.one hKq rfl rfl (Below.refl _ _)
    · have Mq := M.below hbq; have hB := Mq.third.box; have hp := Mq.zbox 1 rfl; have hm := Mq.fourth.map; have hr := Mq.lrow
      refine WR.loadBox (by rfl) hp (by rfl) (by rfl) ?_; refine WR.nil ?_; exact Ends.one hKq rfl rfl (Below.refl _ _)
    · have Mq := M.below hbq; have hB := Mq.third.box; have hp := Mq.zbox 1 rfl; have hm := Mq.fourth.map; have hr := Mq.lrow
      refine WR.s ?_; refine WR.nil ?_; exact Ends.one hKq rfl rfl (Below.refl _ _)
    · rintro _ rfl
      have Mq := M.below hbq; have hB := Mq.third.box; have hp := Mq.zbox 1 rfl; have hm := Mq.fourth.map; have hr := Mq.lrow
      refine WR.s ?_; refine WR.nil ?_; exact Ends.one hKq rfl rfl (Below.refl _ _)
    · rintro _ rfl
      have Mq := M.below hbq; have hB := Mq.third.box; have hp := Mq.zbox 1 rfl; have hm := Mq.fourth.map; have hr := Mq.lrow
      refine WR.s ?_; refine WR.nil ?_; exact Ends.one hKq rfl rfl (Below.refl _ _)
    · rintro _ rfl
      have Mq := M.below hbq; have hB := Mq.third.box; have hp := Mq.zbox 1 rfl; have hm := Mq.fourth.map; have hr := Mq.lrow
      refine WR.s ?_; refine WR.nil ?_; exact Ends.one hKq rfl rfl (Below.refl _ _)
    · have Mq := M.below hbq; have hB := Mq.third.box; have hp := Mq.zbox 1 rfl; have hm := Mq.fourth.map; have hr := Mq.lrow
      refine WR.loadBox (by rfl) hp (by rfl) (by rfl) ?_; refine WR.nil ?_; exact Ends.one hKq rfl rfl (Below.refl _ _)
    · rintro _ rfl _ rfl
      have Mq := M.below hbq; have hB := Mq.third.box; have hp := Mq.zbox 1 rfl; have hm := Mq.fourth.map; have hr := Mq.lrow
      refine WR.lookup (by rfl) (by rfl) (hlook _ hm) (by rfl) ?_; refine WR.nil ?_; exact Ends.one hKq rfl rfl (Below.refl _ _)
    · have Mq := M.below hbq; have hB := Mq.third.box; have hp := Mq.zbox 1 rfl; have hm := Mq.fourth.map; have hr := Mq.lrow
      refine WR.s ?_; refine WR.nil ?_; exact Ends.one hKq rfl rfl (Below.refl _ _)
    · have Mq := M.below hbq; have hB := Mq.third.box; have hp := Mq.zbox 1 rfl; have hm := Mq.fourth.map; have hr := Mq.lrow
      refine WR.s ?_; refine WR.nil ?_; exact Ends.one hKq rfl rfl (Below.refl _ _)
    · rintro _ rfl _ rfl _ rfl
      have Mq := M.below hbq; have hB := Mq.third.box; have hp := Mq.zbox 1 rfl; have hm := Mq.fourth.map; have hr := Mq.lrow
      refine WR.slice_hm (by rfl) (by rfl) (by rfl) (by rfl) (Nat.le_refl _) (by omega) ?_; refine WR.nil ?_; exact Ends.one hKq rfl rfl (Below.refl _ _)
    · have Mq := M.below hbq; have hB := Mq.third.box; have hp := Mq.zbox 1 rfl; have hm := Mq.fourth.map; have hr := Mq.lrow
      refine WR.s ?_; refine WR.nil ?_; exact Ends.one hKq rfl rfl (Below.refl _ _)
    · rintro _ rfl
      have Mq := M.below hbq; have hB := Mq.third.box; have hp := Mq.zbox 1 rfl; have hm := Mq.fourth.map; have hr := Mq.lrow
      refine WR.s ?_; refine WR.nil ?_; exact Ends.one hKq rfl rfl (Below.refl _ _)
    · rintro _ rfl
      have Mq := M.below hbq; have hB := Mq.third.box; have hp := Mq.zbox 1 rfl; have hm := Mq.fourth.map; have hr := Mq.lrow
      refine WR.s ?_; refine WR.nil ?_; exact Ends.one hKq rfl rfl (Below.refl _ _)
    · rintro _ rfl
      have Mq := M.below hbq; have hB := Mq.third.box; have hp := Mq.zbox 1 rfl; have hm := Mq.fourth.map; have hr := Mq.lrow
      refine WR.s ?_; refine WR.nil ?_; exact Ends.one hKq rfl rfl (Below.refl _ _)
    · have Mq := M.below hbq; have hB := Mq.third.box; have hp := Mq.zbox 1 rfl; have hm := Mq.fourth.map; have hr := Mq.lrow
      refine WR.loadBox (by rfl) hp (by rfl) (by rfl) ?_; refine WR.nil ?_; exact Ends.one hKq rfl rfl (Below.refl _ _)
    · rintro _ rfl _ rfl
      have Mq := M.below hbq; have hB := Mq.third.box; have hp := Mq.zbox 1 rfl; have hm := Mq.fourth.map; have hr := Mq.lrow
      refine WR.lookup (by rfl) (by rfl) (hlook _ hm) (by rfl) ?_; refine WR.nil ?_; exact Ends.one hKq rfl rfl (Below.refl _ _)
    · have Mq := M.below hbq; have hB := Mq.third.box; have hp := Mq.zbox 1 rfl; have hm := Mq.fourth.map; have hr := Mq.lrow
      refine WR.s ?_; refine WR.nil ?_; exact Ends.one hKq rfl rfl (Below.refl _ _)
    · rintro _ rfl
      have Mq := M.below hbq; have hB := Mq.third.box; have hp := Mq.zbox 1 rfl; have hm := Mq.fourth.map; have hr := Mq.lrow
      refine WR.s ?_; refine WR.nil ?_; exact Ends.one hKq rfl rfl (Below.refl _ _)
    · rintro _ rfl _ rfl
      have Mq := M.below hbq; have hB := Mq.third.box; have hp := Mq.zbox 1 rfl; have hm := Mq.fourth.map; have hr := Mq.lrow
      refine WR.slice_l (by rfl) (by rfl) (by rfl) (by omega) ?_; refine WR.nil ?_; exact Ends.one hKq rfl rfl (Below.refl _ _)
    · rintro _ rfl _ rfl
      have Mq := M.below hbq; have hB := Mq.third.box; have hp := Mq.zbox 1 rfl; have hm := Mq.fourth.map; have hr := Mq.lrow
      obtain ⟨v23, wy, hrun, hl23, hb23, ho23⟩ := run_cutapp Try.elF 43 hr hi (one_fl hone) (by omega) (by decide); refine WR.builtin2 (v := v23) (w' := wy) (by rfl) (by rfl) (by rfl) (fun cs => by rw [BigFrame.builtin_append]; simp only [Sem.run_bind, hrun, Result.andThen_ok, Sem.run_pure]) ?_; refine WR.nil ?_; exact Ends.one hKq rfl ⟨hl23, fun x hx => (ho23 x hx).imp id (fun h => Nat.le_trans hbq.size h)⟩ hb23 
  intro wq hbq
  rintro _ rfl _ rfl _ rfl _ rfl _ rfl _ rfl _ rfl _ rfl _ rfl _ rfl _ rfl _ rfl _ rfl _ rfl _ rfl _ rfl _ rfl _ rfl _ rfl _ rfl _ rfl _ rfl _ rfl v23 h23
  refine WR.id ?_
  have Mq := M.below hbq; have hB := Mq.third.box; have hp := Mq.zbox 1 rfl; have hm := Mq.fourth.map; have hr := Mq.lrow
  obtain ⟨h23, ho⟩ := h23
  replace M := M.setLRow (Upd.of_below hbq) h23 (fun x hx => (ho x hx).imp (fun h => by rw [h]; rfl) id)
  clear Mq hB hp hm hr
  obtain ⟨wu, hrun, hm, hu⟩ := run_update1 Try.keyed Try.underlying63 M.fourth.map hkl he v23
  refine WR.mapUpdate (by rfl) (by rfl) (by rfl) hrun ?_
  replace M := M.fourth.setMap hu hm
  have hB := M.fourth.box
  (repeat (first | (refine WR.id ?_; first | refine WR.nil ?_ | refine WR.s ?_ | refine WR.g ?_) | (refine W.id ?_; first | refine W.seq fun _ _ => ?_ | refine W.region ?_ | refine W.s ?_ | refine W.e ?_) | (refine Ends.id ?_; first | refine Ends.seq (by assumption) ?_ | refine Ends.s ?_)))
  refine WR.storeBox hB (by rfl) rfl rfl rfl (by simp) fun w4 hu4 hx4 hs4 => ?_
  rw [show ((l.n : Int) - 1) = ((l.n - 1 : Nat) : Int) from by omega] at hx4
  replace M := (M.fourth.setBox hu4 hx4).fourth
  (repeat (first | (refine WR.id ?_; first | refine WR.nil ?_ | refine WR.s ?_ | refine WR.g ?_) | (refine W.id ?_; first | refine W.seq fun _ _ => ?_ | refine W.region ?_ | refine W.s ?_ | refine W.e ?_) | (refine Ends.id ?_; first | refine Ends.seq (by assumption) ?_ | refine Ends.s ?_)))
  refine WR.loadBox (by rfl) (M.swap.zbox 0 rfl) (by rfl) (by rfl) ?_
  have hB := M.box
  refine WR.storeAgg (cs' := f.cells vb) hB (by rfl) (by rfl) (by rfl) (by rfl) (by
    intro u hu; simp [PF.cells] at hu; rcases hu with rfl | rfl | rfl | rfl <;> first | rfl | exact hone _ (by simp)) fun w5 hu5 hx5 hs5 => ?_
  (repeat (first | (refine WR.id ?_; first | refine WR.nil ?_ | refine WR.s ?_ | refine WR.g ?_) | (refine W.id ?_; first | refine W.seq fun _ _ => ?_ | refine W.region ?_ | refine W.s ?_ | refine W.e ?_) | (refine Ends.id ?_; first | refine Ends.seq (by assumption) ?_ | refine Ends.s ?_)))
  replace M := M.setBox hu5 hx5
  refine Ends.retC rfl (by rfl) (hx5.load (by rfl)) ⟨f, vb, by rw [hfs]; simp, rfl, ?_⟩
  replace M := M.drop.dropz.dropz
  refine M.fourth.under1 fun M => ?_
  replace M := M.third.push2
  rw [flatten_take _ _ cells_len4, flatten_drop _ _ cells_len4, ← List.flatten_append, zip_cut hv1, show N - 1 = (f1 ++ f2).length by rw [hfs] at hN; simp at hN ⊢; omega] at M
  replace M := E.Mem.mkFl (v1 ++ v2) (by simp [hv1, hv2]) M
  have hN2 : f1.length + f2.length + 1 = N := by rw [hfs] at hN; simp at hN; omega
  have := E.Mem.putLk (l := l) (n := l.n - 1) (fs := f1 ++ f2) he h1 h2 hk1 hk2 (by rw [List.length_append]; omega) (by omega) M
  rw [hfs, show (f1 ++ f :: f2).eraseIdx f1.length = f1 ++ f2 by rw [List.eraseIdx_append_of_length_le (Nat.le_refl _)]; simp]
  exact this

end Go.Proofs.Ytibmcpbkialbnaa
