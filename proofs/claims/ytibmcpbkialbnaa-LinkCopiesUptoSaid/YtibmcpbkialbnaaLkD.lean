/- Links copied. No condition beyond sizes. -/
import Derived.Test.YtibmcpbkialbnaaLkC
import Derived.Test.YtibmcpbkialbnaaMr
namespace Go.Proofs.Ytibmcpbkialbnaa
open Go.RowKit K L E
open Go.Maps (Keyed)
set_option linter.unusedVariables false
set_option linter.unusedSimpArgs false

variable {w : World} {b g c : Nat} {l : PL} {es : List MapEntry} {Os Zs : List Ass}
theorem copy_nil (w : World) : Calls Try.prog 25 #[.pointer none] w fun r w' => r = .returned (.pointer none) ∧ w' = w := by
  refine enter Try.func25 rfl Try.ntmps25 rfl rfl ?_
  (repeat (first | (refine WR.id ?_; first | refine WR.nil ?_ | refine WR.s ?_ | refine WR.g ?_) | (refine W.id ?_; first | refine W.seq fun _ _ => ?_ | refine W.region ?_ | refine W.s ?_ | refine W.e ?_) | (refine Ends.id ?_; first | refine Ends.seq (by assumption) ?_ | refine Ends.s ?_)))
  exact Ends.ret1 rfl rfl ⟨rfl, rfl⟩
theorem nodup_keys {P : Program} {k : TypeId} {w : World} {g c : Nat} {es : List MapEntry} (h : IsMap P k w g es c) : es.Pairwise (fun x y => x.key ≠ y.key) := by
  have := ((MapKept.stamped_iff _ _).1 h.st).2.2
  simpa using this
theorem E.Mem.rots {x : Ass} {l : List Ass} (M : Mem w (x :: (l ++ Os)) Zs) : Mem w (l ++ x :: Os) Zs := M.perm List.perm_middle.symm
set_option maxHeartbeats 1000000 in
theorem copy_M (hok : l.ok) (M : Mem w (aLk b l :: Os) Zs) :
    Calls Try.prog 25 #[.pointer (some ⟨b, 0, none⟩)] w fun r w' => ∃ b2, r = .returned (.pointer (some ⟨b2, 0, none⟩)) ∧ Mem w' (aLk b2 l :: aLk b l :: Os) Zs := by
  refine enter Try.func25 rfl Try.ntmps25 rfl rfl ?_
  (repeat (first | (refine WR.id ?_; first | refine WR.nil ?_ | refine WR.s ?_ | refine WR.g ?_) | (refine W.id ?_; first | refine W.seq fun _ _ => ?_ | refine W.region ?_ | refine W.s ?_ | refine W.e ?_) | (refine Ends.id ?_; first | refine Ends.seq (by assumption) ?_ | refine Ends.s ?_)))
  refine WR.call rfl rfl (new0_M M) ?_
  rintro _ w1 ⟨b2, g2, rfl, M⟩
  refine ⟨_, rfl, ?_⟩
  obtain ⟨g, es, c, hk, M⟩ := M.third.lk
  have htop := hk.top
  replace M := M.perm (l' := aBox b [.map (some g), .int .i64 (l.n : Nat)] :: aMap Try.prog 66 g es c :: aBox b2 [.map (some g2), .int .i64 (0 : Nat)] :: aMap Try.prog 66 g2 [] 0 :: ((es.map fun e => aFl e.val (l.m (pk e.key))) ++ Os)) (.cons _ (.cons _ (List.perm_middle.trans (.cons _ List.perm_middle))))
  have hB := M.box
  have hB2 := M.third.box
  (repeat (first | (refine WR.id ?_; first | refine WR.nil ?_ | refine WR.s ?_ | refine WR.g ?_) | (refine W.id ?_; first | refine W.seq fun _ _ => ?_ | refine W.region ?_ | refine W.s ?_ | refine W.e ?_) | (refine Ends.id ?_; first | refine Ends.seq (by assumption) ?_ | refine Ends.s ?_)))
  refine WR.storeBox M.third.box (by rfl) (by rfl) rfl rfl (by simp) fun w2 hu2 hx2 hs2 => ?_
  replace M := M.third.setBox hu2 hx2
  have hB := M.swap.box
  clear hB2
  (repeat (first | (refine WR.id ?_; first | refine WR.nil ?_ | refine WR.s ?_ | refine WR.g ?_) | (refine W.id ?_; first | refine W.seq fun _ _ => ?_ | refine W.region ?_ | refine W.s ?_ | refine W.e ?_) | (refine Ends.id ?_; first | refine Ends.seq (by assumption) ?_ | refine Ends.s ?_)))
  refine WR.range (by rfl) M.third.map M (by rfl) fun w3 M hb3 => ?_
  generalize w2.heap.size = ri at M ⊢
  (repeat (first | (refine WR.id ?_; first | refine WR.nil ?_ | refine WR.s ?_ | refine WR.g ?_) | (refine W.id ?_; first | refine W.seq fun _ _ => ?_ | refine W.region ?_ | refine W.s ?_ | refine W.e ?_) | (refine Ends.id ?_; first | refine Ends.seq (by assumption) ?_ | refine Ends.s ?_)))
  refine W.loop (X := List MapEntry × List MapEntry × List MapEntry × Nat) (fun x => [(3, .pointer (some ⟨b2, 0, none⟩)), (20, .pointer (some ⟨ri, 0, none⟩))])
    (fun x wr => es.Perm (x.1 ++ x.2.1) ∧ x.2.2.1.map (·.key) = x.1.map (·.key) ∧ Mem wr (aObj ri (itOf g c x.1) :: aBox b2 [.map (some g2), .int .i64 (l.n : Nat)] :: aBox b [.map (some g), .int .i64 (l.n : Nat)] :: aMap Try.prog 66 g es c :: aMap Try.prog 66 g2 x.2.2.1 x.2.2.2 :: ((x.2.2.1.map fun e => aFl e.val (l.m (pk e.key))) ++ ((es.map fun e => aFl e.val (l.m (pk e.key))) ++ Os))) Zs) (fun x => x.2.1.length)
    ([], es, [], 0) (by repeat (first | exact .nil | refine .cons rfl ?_)) ⟨List.Perm.refl _, rfl, M⟩ ?_
  clear M
  rintro ⟨dn, lf, es2, c3⟩ wr ⟨hp, hkeys, M⟩ K hK
  dsimp only at hp hkeys M
  (repeat (first | (refine WR.id ?_; first | refine WR.nil ?_ | refine WR.s ?_ | refine WR.g ?_) | (refine W.id ?_; first | refine W.seq fun _ _ => ?_ | refine W.region ?_ | refine W.s ?_ | refine W.e ?_) | (refine Ends.id ?_; first | refine Ends.seq (by assumption) ?_ | refine Ends.s ?_)))
  have hm := M.fourth.map
  have hm2 := M.fifth.map
  refine WR.next (by rfl) hm M hp (by rfl) (fun h0 => ?_) (fun e lf' w4 hlf he M4 => ?_)
  · subst h0
    (repeat (first | (refine WR.id ?_; first | refine WR.nil ?_ | refine WR.s ?_ | refine WR.g ?_) | (refine W.id ?_; first | refine W.seq fun _ _ => ?_ | refine W.region ?_ | refine W.s ?_ | refine W.e ?_) | (refine Ends.id ?_; first | refine Ends.seq (by assumption) ?_ | refine Ends.s ?_)))
    refine Ends.ret1 rfl rfl ⟨b2, rfl, ?_⟩
    have hkk : ∀ e, e ∈ es2 → ∃ x ∈ es, x.key = e.key := fun e he => by
      have : e.key ∈ dn.map (·.key) := by rw [← hkeys]; exact List.mem_map.2 ⟨e, he, rfl⟩
      obtain ⟨x, hx, hxe⟩ := List.mem_map.1 this
      exact ⟨x, hp.mem_iff.2 (by simp [hx]), hxe⟩
    have hpk : (es.map (·.key)).Perm (es2.map (·.key)) := by rw [hkeys]; simpa using hp.map (fun x : MapEntry => x.key)
    have hk2 : EsOk l es2 := by
      refine ⟨fun e he => ?_, fun p hp0 => hk.rest p fun e he hek => ?_, ?_, htop⟩
      · obtain ⟨x, hx, hxe⟩ := hkk e he
        rw [← hxe]; exact hk.keys x hx
      · have : e.key ∈ es2.map (·.key) := hpk.mem_iff.1 (List.mem_map.2 ⟨e, he, rfl⟩)
        obtain ⟨y, hy, hye⟩ := List.mem_map.1 this
        exact hp0 y hy (by rw [hye, hek])
      · have := (hpk.map fun k => (l.m (pk k)).length).sum_nat
        rw [List.map_map, List.map_map] at this
        rw [← hk.sum]
        exact this.symm
    replace M := M.drop.perm (l' := aBox b2 [.map (some g2), .int .i64 (l.n : Nat)] :: aMap Try.prog 66 g2 es2 c3 :: ((es2.map fun e => aFl e.val (l.m (pk e.key))) ++ aBox b [.map (some g), .int .i64 (l.n : Nat)] :: aMap Try.prog 66 g es c :: ((es.map fun e => aFl e.val (l.m (pk e.key))) ++ Os))) (by
      refine .cons _ (List.Perm.symm ?_)
      exact ((List.perm_middle.trans (.cons _ List.perm_middle)).cons _).trans ((List.Perm.swap _ _ _).trans (.cons _ (.swap _ _ _))))
    exact (E.Mem.mkLk hk2 M).under1 fun M => E.Mem.mkLk hk M
  · have hek : e ∉ dn := fun h => by
      have hn := hm.borns.2
      have := (left_iff hp hn he).2 (hlf.mem_iff.2 (by simp))
      simp at this
      exact this e h rfl
    have hne : ∀ x ∈ es2, x.key ≠ e.key := fun x hx h => by
      have : e.key ∈ dn.map (·.key) := by rw [← hkeys, ← h]; exact List.mem_map.2 ⟨x, hx, rfl⟩
      obtain ⟨y, hy, hye⟩ := List.mem_map.1 this
      have hpw := (nodup_keys hm).perm hp (fun h => fun h2 => h h2.symm)
      obtain ⟨_, _, hxy⟩ := List.pairwise_append.1 hpw
      exact hxy y hy e (hlf.mem_iff.2 (by simp)) hye
    obtain ⟨q, hq, hq1, hq2⟩ := hk.keys e he
    obtain ⟨kl, hkl⟩ := keyOf_kv q hq1 hq2
    have hrow : ∀ {u : World} {Zs : List Ass}, Mem u ((es2.map fun e => aFl e.val (l.m (pk e.key))) ++ ((es.map fun e => aFl e.val (l.m (pk e.key))) ++ Os)) Zs → ∃ F, (aFl e.val (l.m q)).p u F := fun M => by
      have := E.Mem.inl (List.mem_map.2 ⟨e, he, rfl⟩) (E.Mem.dropl M)
      rwa [hq, pk_kv] at this
    have hq4 := hk.cnt q
    have hm := M4.fourth.map
    (repeat (first | (refine WR.id ?_; first | refine WR.nil ?_ | refine WR.s ?_ | refine WR.g ?_) | (refine W.id ?_; first | refine W.seq fun _ _ => ?_ | refine W.region ?_ | refine W.s ?_ | refine W.e ?_) | (refine Ends.id ?_; first | refine Ends.seq (by assumption) ?_ | refine Ends.s ?_)))
    refine WR.entry (by rfl) hm M4 he (by rfl) ?_
    (repeat (first | (refine WR.id ?_; first | refine WR.nil ?_ | refine WR.s ?_ | refine WR.g ?_) | (refine W.id ?_; first | refine W.seq fun _ _ => ?_ | refine W.region ?_ | refine W.s ?_ | refine W.e ?_) | (refine Ends.id ?_; first | refine Ends.seq (by assumption) ?_ | refine Ends.s ?_)))
    rw [hq]
    refine WR.pairV M4 (by rfl) (by rfl) (by rfl) fun gp w5 M5 => ?_
    (repeat (first | (refine WR.id ?_; first | refine WR.nil ?_ | refine WR.s ?_ | refine WR.g ?_) | (refine W.id ?_; first | refine W.seq fun _ _ => ?_ | refine W.region ?_ | refine W.s ?_ | refine W.e ?_) | (refine Ends.id ?_; first | refine Ends.seq (by assumption) ?_ | refine Ends.s ?_)))
    apply W.drawsTo 7 [[], [0], [1], [2], [], [], [5]]
      [is _, is _, is _, is _, is _, is _, (fun u v => ∃ F, (aFl v (l.m q)).p u F ∧ ∀ b, F b → w5.heap.size ≤ b)] (by kernel_rfl) (by kernel_rfl) (by rfl) (by kernel_rfl) (by kernel_rfl) ⟨stab_is _, stab_is _, stab_is _, stab_is _, stab_is _, stab_is _, (fun _ _ _ ⟨F, h1, h2⟩ hb => ⟨F, (aFl _ _).stab h1 ((Stays.of_below hb).mono fun b hb => (aFl _ _).bnd h1 b hb), h2⟩), trivial⟩ ?step1 ?fin1
    case step1 =>
      refine ⟨fun wq hbq Kq hKq => ?_, fun wq hbq Kq hKq => ?_, fun wq hbq Kq hKq => ?_, fun wq hbq Kq hKq => ?_, fun wq hbq Kq hKq => ?_, fun wq hbq Kq hKq => ?_, fun wq hbq Kq hKq => ?_, trivial⟩
      · have Mq := M5.below hbq; have hB2 := Mq.swap.box; have hpq := Mq.zbox 0 rfl
        refine WR.s ?_; refine WR.nil ?_; exact Ends.one hKq rfl rfl (Below.refl _ _)
      · rintro _ rfl
        have Mq := M5.below hbq; have hB2 := Mq.swap.box; have hpq := Mq.zbox 0 rfl
        refine WR.s ?_; refine WR.nil ?_; exact Ends.one hKq rfl rfl (Below.refl _ _)
      · rintro _ rfl
        have Mq := M5.below hbq; have hB2 := Mq.swap.box; have hpq := Mq.zbox 0 rfl
        refine WR.s ?_; refine WR.nil ?_; exact Ends.one hKq rfl rfl (Below.refl _ _)
      · rintro _ rfl
        have Mq := M5.below hbq; have hB2 := Mq.swap.box; have hpq := Mq.zbox 0 rfl
        refine WR.s ?_; refine WR.nil ?_; exact Ends.one hKq rfl rfl (Below.refl _ _)
      · have Mq := M5.below hbq; have hB2 := Mq.swap.box; have hpq := Mq.zbox 0 rfl
        refine WR.s ?_; refine WR.nil ?_; exact Ends.one hKq rfl rfl (Below.refl _ _)
      · have Mq := M5.below hbq; have hB2 := Mq.swap.box; have hpq := Mq.zbox 0 rfl
        refine WR.s ?_; refine WR.nil ?_; exact Ends.one hKq rfl rfl (Below.refl _ _)
      · rintro _ rfl
        have Mq := M5.below hbq; have hB2 := Mq.swap.box; have hpq := Mq.zbox 0 rfl
        obtain ⟨F6, hF6⟩ := hrow Mq.drop.drop.drop.drop.drop; refine WR.call (by rfl) (by rfl) (cloned_any _ _ _ _ hF6 (by omega) (fun f hf => by have := (right_i64 (hok q f hf).2).2.2.2.1; omega)) ?_; rintro _ wy ⟨v', rfl, hb6, F7, h7, h7b⟩; refine ⟨_, rfl, ?_⟩; refine WR.nil ?_; exact Ends.one hKq rfl ⟨F7, h7, fun b hb => Nat.le_trans hbq.size (h7b b hb)⟩ hb6 
    intro wq hbq
    rintro _ rfl _ rfl _ rfl _ rfl _ rfl _ rfl v6 h6
    refine WR.id ?_
    have Mq := M5.below hbq; have hB2 := Mq.swap.box; have hpq := Mq.zbox 0 rfl
    obtain ⟨F6, h6, h6b⟩ := h6
    replace M5 := M5.new hbq h6 h6b
    obtain ⟨wu, hr, hm, hu⟩ := run_update0 Try.keyed Try.underlying63 Mq.fifth.map hkl (by rw [← hq]; exact hne) v6
    refine WR.mapUpdate (by rfl) (by rfl) (by rfl) hr ?_
    (repeat (first | (refine WR.id ?_; first | refine WR.nil ?_ | refine WR.s ?_ | refine WR.g ?_) | (refine W.id ?_; first | refine W.seq fun _ _ => ?_ | refine W.region ?_ | refine W.s ?_ | refine W.e ?_) | (refine Ends.id ?_; first | refine Ends.seq (by assumption) ?_ | refine Ends.s ?_)))
    refine Ends.round hK (dn ++ [e], lf', es2 ++ [⟨kv q, v6, c3⟩], c3 + 1) (by repeat (first | exact .nil | refine .cons rfl ?_)) ⟨?_, ?_, ?_⟩ ?_
    · dsimp only
      rw [List.append_assoc]
      exact hp.trans (List.Perm.append_left _ hlf)
    · dsimp only
      rw [List.map_append, List.map_append, hkeys]
      simp [hq]
    · dsimp only
      replace M5 := (M5.sixth.setMap hu hm).dropz
      refine (M5.perm ?_)
      rw [List.map_append, List.map_cons, List.map_nil, pk_kv]
      simp only [List.append_assoc, List.cons_append, List.nil_append]
      exact ((List.perm_middle (l₁ := [_, _, _, _])).trans (.cons _ (List.perm_middle (l₁ := [_, _, _, _])))).symm.trans (List.Perm.append_left [_, _, _, _, _] List.perm_middle.symm)
    · dsimp only
      have := hlf.length_eq
      simp at this
      omega

end Go.Proofs.Ytibmcpbkialbnaa
