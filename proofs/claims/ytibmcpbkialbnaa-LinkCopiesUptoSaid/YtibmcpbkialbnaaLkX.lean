/- Links copied, the old ones but read. No condition beyond sizes. -/
import Derived.Test.YtibmcpbkialbnaaLkD
import Derived.Test.YtibmcpbkialbnaaLkO
namespace Go.Proofs.Ytibmcpbkialbnaa
open Go.RowKit K L E
open Go.Maps (Keyed)
set_option linter.unusedVariables false
set_option linter.unusedSimpArgs false

theorem E.Mem.zunall {w : World} {Os : List Ass} : ∀ {l Zs : List Ass}, Mem w Os (aAll l :: Zs) → Mem w Os (l ++ Zs)
  | [], Zs, M => M.dropz
  | a :: l, Zs, M => by
    have M1 := E.Mem.splitz (a := a) (b := aAll l) M
    have M2 : Mem w Os (aAll l :: a :: Zs) := M1.subz (by intro z hz; simp only [List.mem_cons] at hz ⊢; rcases hz with h | h | h <;> simp [h])
    exact (E.Mem.zunall M2).subz (by intro z hz; simp only [List.mem_cons, List.mem_append, List.cons_append] at hz ⊢; rcases hz with h | h | h <;> simp [h])
theorem lk_src {w : World} {b : Nat} {l : PL} {F : Nat → Prop} (h : (aLk b l).p w F) : ∃ g es c, EsOk l es ∧ Mem w [] (aBox b [.map (some g), .int .i64 (l.n : Nat)] :: aMap Try.prog 66 g es c :: ((es.map fun e => aFl e.val (l.m (pk e.key))) ++ [zPre w])) := by
  obtain ⟨⟨g, es, c⟩, hk, h⟩ := h
  refine ⟨g, es, c, hk, ?_⟩
  have M1 := E.Mem.splitz (Mem.src h)
  have M2 := E.Mem.splitz (M1.subz (Zs' := [_, _, _]) (by intro z hz; simp only [List.mem_cons, List.not_mem_nil, or_false] at hz ⊢; rcases hz with h | h | h; exact .inr (.inl h); exact .inl h; exact .inr (.inr h)))
  have M3 := E.Mem.zunall (M2.subz (Zs' := [_, _, _, _]) (by intro z hz; simp only [List.mem_cons, List.not_mem_nil, or_false] at hz ⊢; rcases hz with h | h | h | h; exact .inr (.inl h); exact .inl h; exact .inr (.inr (.inl h)); exact .inr (.inr (.inr h))))
  exact M3.subz (by intro z hz; simp only [List.mem_cons, List.mem_append, List.not_mem_nil, or_false] at hz ⊢; rcases hz with h | h | h | h <;> simp [h])
theorem zmap {w : World} {g c : Nat} {es : List MapEntry} (h : ∃ F, (aMap Try.prog 66 g es c).p w F) : IsMap Try.prog 66 w g es c := by obtain ⟨_, h⟩ := h; exact h.2
set_option maxHeartbeats 1000000 in
theorem copy_any {w : World} {b : Nat} {l : PL} {F : Nat → Prop} (hok : l.ok) (h : (aLk b l).p w F) :
    Calls Try.prog 25 #[.pointer (some ⟨b, 0, none⟩)] w fun r w' => ∃ b2, r = .returned (.pointer (some ⟨b2, 0, none⟩)) ∧ Fresh w w' (aLk b2 l) := by
  obtain ⟨g, es, c, hk, M⟩ := lk_src h
  refine enter Try.func25 rfl Try.ntmps25 rfl rfl ?_
  (repeat (first | (refine WR.id ?_; first | refine WR.nil ?_ | refine WR.s ?_ | refine WR.g ?_) | (refine W.id ?_; first | refine W.seq fun _ _ => ?_ | refine W.region ?_ | refine W.s ?_ | refine W.e ?_) | (refine Ends.id ?_; first | refine Ends.seq (by assumption) ?_ | refine Ends.s ?_)))
  refine WR.call rfl rfl (new0_M M) ?_
  rintro _ w1 ⟨b2, g2, rfl, M⟩
  refine ⟨_, rfl, ?_⟩
  have htop := hk.top
  have hB := M.zbox 0 rfl
  have hB2 := M.box
  (repeat (first | (refine WR.id ?_; first | refine WR.nil ?_ | refine WR.s ?_ | refine WR.g ?_) | (refine W.id ?_; first | refine W.seq fun _ _ => ?_ | refine W.region ?_ | refine W.s ?_ | refine W.e ?_) | (refine Ends.id ?_; first | refine Ends.seq (by assumption) ?_ | refine Ends.s ?_)))
  refine WR.storeBox M.box (by rfl) (by rfl) rfl rfl (by simp) fun w2 hu2 hx2 hs2 => ?_
  replace M := M.setBox hu2 hx2
  have hB := M.zbox 0 rfl
  clear hB2
  (repeat (first | (refine WR.id ?_; first | refine WR.nil ?_ | refine WR.s ?_ | refine WR.g ?_) | (refine W.id ?_; first | refine W.seq fun _ _ => ?_ | refine W.region ?_ | refine W.s ?_ | refine W.e ?_) | (refine Ends.id ?_; first | refine Ends.seq (by assumption) ?_ | refine Ends.s ?_)))
  refine WR.range (by rfl) (zmap (M.z 1 rfl)) M (by rfl) fun w3 M hb3 => ?_
  generalize w2.heap.size = ri at M ⊢
  (repeat (first | (refine WR.id ?_; first | refine WR.nil ?_ | refine WR.s ?_ | refine WR.g ?_) | (refine W.id ?_; first | refine W.seq fun _ _ => ?_ | refine W.region ?_ | refine W.s ?_ | refine W.e ?_) | (refine Ends.id ?_; first | refine Ends.seq (by assumption) ?_ | refine Ends.s ?_)))
  refine W.loop (X := List MapEntry × List MapEntry × List MapEntry × Nat) (fun x => [(3, .pointer (some ⟨b2, 0, none⟩)), (20, .pointer (some ⟨ri, 0, none⟩))])
    (fun x wr => es.Perm (x.1 ++ x.2.1) ∧ x.2.2.1.map (·.key) = x.1.map (·.key) ∧ Mem wr (aObj ri (itOf g c x.1) :: aBox b2 [.map (some g2), .int .i64 (l.n : Nat)] :: aMap Try.prog 66 g2 x.2.2.1 x.2.2.2 :: (x.2.2.1.map fun e => aFl e.val (l.m (pk e.key)))) (aBox b [.map (some g), .int .i64 (l.n : Nat)] :: aMap Try.prog 66 g es c :: ((es.map fun e => aFl e.val (l.m (pk e.key))) ++ [zPre w]))) (fun x => x.2.1.length)
    ([], es, [], 0) (by repeat (first | exact .nil | refine .cons rfl ?_)) ⟨List.Perm.refl _, rfl, by exact M⟩ ?_
  clear M
  rintro ⟨dn, lf, es2, c3⟩ wr ⟨hp, hkeys, M⟩ K hK
  dsimp only at hp hkeys M
  (repeat (first | (refine WR.id ?_; first | refine WR.nil ?_ | refine WR.s ?_ | refine WR.g ?_) | (refine W.id ?_; first | refine W.seq fun _ _ => ?_ | refine W.region ?_ | refine W.s ?_ | refine W.e ?_) | (refine Ends.id ?_; first | refine Ends.seq (by assumption) ?_ | refine Ends.s ?_)))
  have hm := zmap (M.z 1 rfl)
  have hm2 := M.third.map
  refine WR.next (by rfl) hm M hp (by rfl) (fun h0 => ?_) (fun e lf' w4 hlf he M4 => ?_)
  · subst h0
    (repeat (first | (refine WR.id ?_; first | refine WR.nil ?_ | refine WR.s ?_ | refine WR.g ?_) | (refine W.id ?_; first | refine W.seq fun _ _ => ?_ | refine W.region ?_ | refine W.s ?_ | refine W.e ?_) | (refine Ends.id ?_; first | refine Ends.seq (by assumption) ?_ | refine Ends.s ?_)))
    refine Ends.ret1 rfl rfl ⟨b2, rfl, ?_⟩
    have hkk : ∀ e, e ∈ es2 → ∃ x ∈ es, x.key = e.key := fun e he => by
      have : e.key ∈ dn.map (·.key) := by rw [← hkeys]; exact List.mem_map.2 ⟨e, he, rfl⟩
      obtain ⟨x, hx, hxe⟩ := List.mem_map.1 this
      exact ⟨x, hp.mem_iff.2 (by simp [hx]), hxe⟩
    have hpk : (es.map (·.key)).Perm (es2.map (·.key)) := by rw [hkeys]; simpa using hp.map (fun x : MapEntry => x.key)
    have hk2 : EsOk l es2 := by
      refine ⟨fun e he => ?_, fun p hp0 => hk.rest p fun e he hek => ?_, ?_, htop⟩
      · obtain ⟨x, hx, hxe⟩ := hkk e he
        rw [← hxe]; exact hk.keys x hx
      · have : e.key ∈ es2.map (·.key) := hpk.mem_iff.1 (List.mem_map.2 ⟨e, he, rfl⟩)
        obtain ⟨y, hy, hye⟩ := List.mem_map.1 this
        exact hp0 y hy (by rw [hye, hek])
      · have := (hpk.map fun k => (l.m (pk k)).length).sum_nat
        rw [List.map_map, List.map_map] at this
        rw [← hk.sum]
        exact this.symm
    refine Mem.fresh (E.Mem.mkLk (Os := []) hk2 (by rw [List.append_nil]; exact M.drop)) (es.length + 2) ?_
    show ((es.map fun e => aFl e.val (l.m (pk e.key))) ++ [zPre w])[es.length]? = some (zPre w)
    rw [List.getElem?_append_right (by simp)]; simp
  · have hek : e ∉ dn := fun h => by
      have hn := hm.borns.2
      have := (left_iff hp hn he).2 (hlf.mem_iff.2 (by simp))
      simp at this
      exact this e h rfl
    have hne : ∀ x ∈ es2, x.key ≠ e.key := fun x hx h => by
      have : e.key ∈ dn.map (·.key) := by rw [← hkeys, ← h]; exact List.mem_map.2 ⟨x, hx, rfl⟩
      obtain ⟨y, hy, hye⟩ := List.mem_map.1 this
      have hpw := (nodup_keys hm).perm hp (fun h => fun h2 => h h2.symm)
      obtain ⟨_, _, hxy⟩ := List.pairwise_append.1 hpw
      exact hxy y hy e (hlf.mem_iff.2 (by simp)) hye
    obtain ⟨q, hq, hq1, hq2⟩ := hk.keys e he
    obtain ⟨kl, hkl⟩ := keyOf_kv q hq1 hq2
    have hrow : ∀ {u : World} {Os Zs : List Ass}, Mem u Os (Zs ++ (aBox b [.map (some g), .int .i64 (l.n : Nat)] :: aMap Try.prog 66 g es c :: ((es.map fun e => aFl e.val (l.m (pk e.key))) ++ [zPre w]))) → ∃ F, (aFl e.val (l.m q)).p u F := fun {u Os Zs} M => by
      have h0 : aFl e.val (l.m (pk e.key)) ∈ Zs ++ (aBox b [.map (some g), .int .i64 (l.n : Nat)] :: aMap Try.prog 66 g es c :: ((es.map fun e => aFl e.val (l.m (pk e.key))) ++ [zPre w])) := List.mem_append_right _ (List.mem_cons_of_mem _ (List.mem_cons_of_mem _ (List.mem_append_left _ (List.mem_map.2 ⟨e, he, rfl⟩))))
      obtain ⟨kx, hkx⟩ := List.mem_iff_getElem?.1 h0
      have := M.z kx hkx
      rwa [hq, pk_kv] at this
    have hq4 := hk.cnt q
    have hm := zmap (M4.z 1 rfl)
    (repeat (first | (refine WR.id ?_; first | refine WR.nil ?_ | refine WR.s ?_ | refine WR.g ?_) | (refine W.id ?_; first | refine W.seq fun _ _ => ?_ | refine W.region ?_ | refine W.s ?_ | refine W.e ?_) | (refine Ends.id ?_; first | refine Ends.seq (by assumption) ?_ | refine Ends.s ?_)))
    refine WR.entry (by rfl) hm M4 he (by rfl) ?_
    (repeat (first | (refine WR.id ?_; first | refine WR.nil ?_ | refine WR.s ?_ | refine WR.g ?_) | (refine W.id ?_; first | refine W.seq fun _ _ => ?_ | refine W.region ?_ | refine W.s ?_ | refine W.e ?_) | (refine Ends.id ?_; first | refine Ends.seq (by assumption) ?_ | refine Ends.s ?_)))
    rw [hq]
    refine WR.pairV M4 (by rfl) (by rfl) (by rfl) fun gp w5 M5 => ?_
    (repeat (first | (refine WR.id ?_; first | refine WR.nil ?_ | refine WR.s ?_ | refine WR.g ?_) | (refine W.id ?_; first | refine W.seq fun _ _ => ?_ | refine W.region ?_ | refine W.s ?_ | refine W.e ?_) | (refine Ends.id ?_; first | refine Ends.seq (by assumption) ?_ | refine Ends.s ?_)))
    apply W.drawsTo 7 [[], [0], [1], [2], [], [], [5]]
      [is _, is _, is _, is _, is _, is _, (fun u v => ∃ F, (aFl v (l.m q)).p u F ∧ ∀ b, F b → w5.heap.size ≤ b)] (by kernel_rfl) (by kernel_rfl) (by rfl) (by kernel_rfl) (by kernel_rfl) ⟨stab_is _, stab_is _, stab_is _, stab_is _, stab_is _, stab_is _, (fun _ _ _ ⟨F, h1, h2⟩ hb => ⟨F, (aFl _ _).stab h1 ((Stays.of_below hb).mono fun b hb => (aFl _ _).bnd h1 b hb), h2⟩), trivial⟩ ?step1 ?fin1
    case step1 =>
      refine ⟨fun wq hbq Kq hKq => ?_, fun wq hbq Kq hKq => ?_, fun wq hbq Kq hKq => ?_, fun wq hbq Kq hKq => ?_, fun wq hbq Kq hKq => ?_, fun wq hbq Kq hKq => ?_, fun wq hbq Kq hKq => ?_, trivial⟩
      · have Mq := M5.below hbq; have hB2 := Mq.swap.box; have hpq := Mq.zbox 0 rfl
        refine WR.s ?_; refine WR.nil ?_; exact Ends.one hKq rfl rfl (Below.refl _ _)
      · rintro _ rfl
        have Mq := M5.below hbq; have hB2 := Mq.swap.box; have hpq := Mq.zbox 0 rfl
        refine WR.s ?_; refine WR.nil ?_; exact Ends.one hKq rfl rfl (Below.refl _ _)
      · rintro _ rfl
        have Mq := M5.below hbq; have hB2 := Mq.swap.box; have hpq := Mq.zbox 0 rfl
        refine WR.s ?_; refine WR.nil ?_; exact Ends.one hKq rfl rfl (Below.refl _ _)
      · rintro _ rfl
        have Mq := M5.below hbq; have hB2 := Mq.swap.box; have hpq := Mq.zbox 0 rfl
        refine WR.s ?_; refine WR.nil ?_; exact Ends.one hKq rfl rfl (Below.refl _ _)
      · have Mq := M5.below hbq; have hB2 := Mq.swap.box; have hpq := Mq.zbox 0 rfl
        refine WR.s ?_; refine WR.nil ?_; exact Ends.one hKq rfl rfl (Below.refl _ _)
      · have Mq := M5.below hbq; have hB2 := Mq.swap.box; have hpq := Mq.zbox 0 rfl
        refine WR.s ?_; refine WR.nil ?_; exact Ends.one hKq rfl rfl (Below.refl _ _)
      · rintro _ rfl
        have Mq := M5.below hbq; have hB2 := Mq.swap.box; have hpq := Mq.zbox 0 rfl
        obtain ⟨F6, hF6⟩ := hrow (Zs := [_]) Mq; refine WR.call (by rfl) (by rfl) (cloned_any _ _ _ _ hF6 (by omega) (fun f hf => by have := (right_i64 (hok q f hf).2).2.2.2.1; omega)) ?_; rintro _ wy ⟨v', rfl, hb6, F7, h7, h7b⟩; refine ⟨_, rfl, ?_⟩; refine WR.nil ?_; exact Ends.one hKq rfl ⟨F7, h7, fun b hb => Nat.le_trans hbq.size (h7b b hb)⟩ hb6 
    intro wq hbq
    rintro _ rfl _ rfl _ rfl _ rfl _ rfl _ rfl v6 h6
    refine WR.id ?_
    have Mq := M5.below hbq; have hB2 := Mq.swap.box; have hpq := Mq.zbox 0 rfl
    obtain ⟨F6, h6, h6b⟩ := h6
    replace M5 := M5.new hbq h6 h6b
    obtain ⟨wu, hr, hm, hu⟩ := run_update0 Try.keyed Try.underlying63 Mq.third.map hkl (by rw [← hq]; exact hne) v6
    refine WR.mapUpdate (by rfl) (by rfl) (by rfl) hr ?_
    (repeat (first | (refine WR.id ?_; first | refine WR.nil ?_ | refine WR.s ?_ | refine WR.g ?_) | (refine W.id ?_; first | refine W.seq fun _ _ => ?_ | refine W.region ?_ | refine W.s ?_ | refine W.e ?_) | (refine Ends.id ?_; first | refine Ends.seq (by assumption) ?_ | refine Ends.s ?_)))
    refine Ends.round hK (dn ++ [e], lf', es2 ++ [⟨kv q, v6, c3⟩], c3 + 1) (by repeat (first | exact .nil | refine .cons rfl ?_)) ⟨?_, ?_, ?_⟩ ?_
    · dsimp only
      rw [List.append_assoc]
      exact hp.trans (List.Perm.append_left _ hlf)
    · dsimp only
      rw [List.map_append, List.map_append, hkeys]
      simp [hq]
    · dsimp only
      replace M5 := (M5.fourth.setMap hu hm).dropz
      refine (M5.perm ?_)
      rw [List.map_append, List.map_cons, List.map_nil, pk_kv]
      simp only [List.append_assoc, List.cons_append, List.nil_append, List.append_nil]
      exact ((List.perm_append_comm (l₁ := [_])).cons _).trans ((List.Perm.swap _ _ _).trans (.cons _ (.swap _ _ _)))
    · dsimp only
      have := hlf.length_eq
      simp at this
      omega
end Go.Proofs.Ytibmcpbkialbnaa
