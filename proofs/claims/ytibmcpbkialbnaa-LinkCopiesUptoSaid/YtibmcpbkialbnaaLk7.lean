/- Links: lost, doubled, spoilt, counted. No condition beyond sizes. -/
import Derived.Test.YtibmcpbkialbnaaLk6
namespace Go.Proofs.Ytibmcpbkialbnaa
open Go.RowKit K L E
open Go.Maps (Keyed)
set_option linter.unusedVariables false
set_option linter.unusedSimpArgs false

section
variable {n : Nat} {D : List Deferred} {L : Slots} {w : World} {Q : Exit → Act → World → Prop} {ops : Array Oper} {rest : List Oper} {d : Nat} {ty : TypeId} {pos : String} {after : Array Edge} {x y z : Operand} {a b : Int}
theorem WR.pairB (hx : evo L x = some (.int .i64 a)) (hy : evo L y = some (.int .i64 b)) (hd : Nat.blt d n = true) (h : WR Try.prog n D ops rest ((d, kv (a, b)) :: L) w Q) : WR Try.prog n D ops (⟨some d, .build 66 #[(0, x), (1, y)], ty, pos, after, none⟩ :: rest) L w Q :=
  WR.buildRun (vs := #[(0, .int .i64 a), (1, .int .i64 b)]) (fun A ha => by rw [List.map_toArray]; simp only [List.map_cons, List.map_nil, ha.ev hx, ha.ev hy]) hd (build_pair _ _ _) h
theorem WR.pairV {p : PK} {Os Zs : List Ass} {ty' : TypeId} {pos' : String} {after' : Array Edge} (M : Mem w Os Zs) (hd : Nat.blt d n = true) (hy : evo L y = some (kv p)) (hne : evo ((d, .pointer (some ⟨w.heap.size, 0, none⟩)) :: L) y = some (kv p))
    (h : ∀ g w', Mem w' Os (aBox g [.int .i64 p.1, .int .i64 p.2] :: Zs) → WR Try.prog n D ops rest ((d, .pointer (some ⟨g, 0, none⟩)) :: L) w' Q) :
    WR Try.prog n D ops (⟨some d, .alloc 66, ty, pos, after, none⟩ :: ⟨none, .store 66 (.tmp d) y, ty', pos', after', none⟩ :: rest) L w Q :=
  WR.allocStore (v := kv p) (c := #[.int .i64 p.1, .int .i64 p.2]) hd hy rfl (by rfl) (by rfl) (by simp [Value.oneCell']) hne fun w2 hb2 hp hs2 => h _ _ (M.newBox (cs := [.int .i64 p.1, .int .i64 p.2]) hb2 hp).freeze
end
def PL.lose (l : PL) (p : PK) (n : Int) : Int × PL := if n < 0 ∨ ((l.m p).length : Int) ≤ n then (4, l) else (0, l.put p ((l.m p).eraseIdx n.toNat) (l.n - 1))
def PL.dbl (l : PL) (p : PK) (n : Int) : Int × PL := if n < 0 then (4, l) else match (l.m p)[n.toNat]? with
  | none => (4, l)
  | some f => l.send f
/-- Each flight stands with its pair, and may be. -/
def PL.ok (l : PL) : Prop := ∀ p f, f ∈ l.m p → (f.frm, f.dst) = p ∧ rightB f = true
theorem right_i64 {f : PF} (h : rightB f = true) : i64 f.frm ∧ i64 f.dst ∧ i64 f.tick ∧ f.bytes.length ≤ 400 ∧ 1 ≤ f.bytes.length := by
  simp [rightB, nodeB] at h
  unfold i64
  omega
/-- A flight that is there, laid open. -/
theorem E.Mem.there {w : World} {b : Nat} {l : PL} {Os Zs : List Ass} (M : Mem w (aLk b l :: Os) Zs) (p : PK) (h1 : i64 p.1) (h2 : i64 p.2) (i : Nat) (hi : i < (l.m p).length) : ∃ g l1 e l2 c f1 f f2 v1 vb v2 a cp, EsOk l (l1 ++ e :: l2) ∧ e.key = kv p ∧ l.m p = f1 ++ f :: f2 ∧ f1.length = i ∧ v1.length = i ∧ v2.length = f2.length ∧ e.val = .slice (some ⟨a, 0, Option.none⟩) (l.m p).length cp ∧ (l.m p).length ≤ cp ∧ (∀ x ∈ v1 ++ vb :: v2, x.oneCell' = true) ∧
    (∀ u, IsMap Try.prog 66 u g (l1 ++ e :: l2) c → (Instr.lookup 63 (.map (some g)) (kv p) false).run Try.prog u = .ok (.slice (some ⟨a, 0, Option.none⟩) (l.m p).length cp) u) ∧
    Mem w (aLr 24 4 (.slice (some ⟨a, 0, Option.none⟩) (l.m p).length cp) (l.m p).length (List.zipWith PF.cells (f1 ++ f :: f2) (v1 ++ vb :: v2)).flatten :: aBox b [.map (some g), .int .i64 (l.n : Nat)] :: aMap Try.prog 66 g (l1 ++ e :: l2) c :: aBy vb f.bytes :: (List.zipWith (fun v (f : PF) => aBy v f.bytes) (v1 ++ v2) (f1 ++ f2) ++ (((l1 ++ l2).map fun e => aFl e.val (l.m (pk e.key))) ++ Os))) Zs := by
  obtain ⟨g, es, c, hk, M⟩ := M.lk
  obtain ⟨kl, hkl⟩ := keyOf_kv p h1 h2
  rcases hk.find p with ⟨hn, h0⟩ | ⟨l1, e, l2, rfl, he⟩
  · rw [h0] at hi; cases hi
  obtain ⟨f1, f, f2, v1, vb, v2, a, cp, hfs, rfl, hv1, hv2, hev, hone, M⟩ := (M.pair he).flight i hi
  rw [hev] at M
  refine ⟨g, l1, e, l2, c, f1, f, f2, v1, vb, v2, a, cp, hk, he, hfs, rfl, hv1, hv2, hev, ?_, hone, fun u hu => ?_, M.pull2⟩
  · obtain ⟨_, ⟨h0, _⟩ | ⟨_, _, _, h0, _, h5, _⟩⟩ := M.lrow
    · cases h0
    · cases h0; exact h5
  · rw [← hev]
    exact run_lookup1 Try.keyed Try.underlying63 hu hkl he
theorem by_bs {w : World} {v : Value} {bs : List UInt8} {Os Zs : List Ass} (M : Mem w (aBy v bs :: Os) Zs) : ∃ F, Bs w F v bs := ⟨_, Sl.of_row M.row⟩
variable {w : World} {b g c : Nat} {l : PL} {es : List MapEntry} {Os Zs : List Ass}
theorem len_M (M : Mem w (aLk b l :: Os) Zs) : Calls Try.prog 14 #[.pointer (some ⟨b, 0, none⟩)] w fun r w' => r = .returned (.int .i64 (l.n : Nat)) ∧ w' = w := by
  obtain ⟨g, es, c, hk, M⟩ := M.lk
  refine enter Try.func14 rfl Try.ntmps14 rfl rfl ?_
  have hB := M.box
  (repeat (first | (refine WR.id ?_; first | refine WR.nil ?_ | refine WR.s ?_ | refine WR.g ?_) | (refine W.id ?_; first | refine W.seq fun _ _ => ?_ | refine W.region ?_ | refine W.s ?_ | refine W.e ?_) | (refine Ends.id ?_; first | refine Ends.seq (by assumption) ?_ | refine Ends.s ?_)))
  exact Ends.ret1 rfl rfl ⟨rfl, rfl⟩
theorem lose_M (M : Mem w (aLk b l :: Os) Zs) (p : PK) (h1 : i64 p.1) (h2 : i64 p.2) (n : Int) (hn : i64 n) :
    Calls Try.prog 15 #[.pointer (some ⟨b, 0, none⟩), .int .i64 p.1, .int .i64 p.2, .int .i64 n] w fun r w' => r = .returned (.int .i64 (l.lose p n).1) ∧ Mem w' (aLk b (l.lose p n).2 :: Os) Zs := by
  refine enter Try.func15 rfl Try.ntmps15 rfl rfl ?_
  (repeat (first | (refine WR.id ?_; first | refine WR.nil ?_ | refine WR.s ?_ | refine WR.g ?_) | (refine W.id ?_; first | refine W.seq fun _ _ => ?_ | refine W.region ?_ | refine W.s ?_ | refine W.e ?_) | (refine Ends.id ?_; first | refine Ends.seq (by assumption) ?_ | refine Ends.s ?_)))
  refine WR.pairB rfl rfl rfl ?_
  refine WR.pairV M (by rfl) (by rfl) (by rfl) fun gp w1 M => ?_
  have hp := M.zbox 0 rfl
  (repeat (first | (refine WR.id ?_; first | refine WR.nil ?_ | refine WR.s ?_ | refine WR.g ?_) | (refine W.id ?_; first | refine W.seq fun _ _ => ?_ | refine W.region ?_ | refine W.s ?_ | refine W.e ?_) | (refine Ends.id ?_; first | refine Ends.seq (by assumption) ?_ | refine Ends.s ?_)))
  have hF := find_M M p h1 h2 n hn
  by_cases h : n < 0 ∨ ((l.m p).length : Int) ≤ n
  · rw [if_pos h] at hF
    refine WR.call rfl rfl hF ?_
    rintro _ w2 ⟨rfl, hb⟩
    refine ⟨_, rfl, ?_⟩
    (repeat (first | (refine WR.id ?_; first | refine WR.nil ?_ | refine WR.s ?_ | refine WR.g ?_) | (refine W.id ?_; first | refine W.seq fun _ _ => ?_ | refine W.region ?_ | refine W.s ?_ | refine W.e ?_) | (refine Ends.id ?_; first | refine Ends.seq (by assumption) ?_ | refine Ends.s ?_)))
    exact Ends.ret1 rfl rfl (by rw [PL.lose, if_pos h]; exact ⟨rfl, (M.below hb).dropz⟩)
  · rw [if_neg h] at hF
    obtain ⟨i, rfl⟩ : ∃ i : Nat, n = i := ⟨n.toNat, by omega⟩
    refine WR.call rfl rfl hF ?_
    rintro _ w2 ⟨rfl, hb⟩
    refine ⟨_, rfl, ?_⟩
    replace M := M.below hb
    have hp := M.zbox 0 rfl
    (repeat (first | (refine WR.id ?_; first | refine WR.nil ?_ | refine WR.s ?_ | refine WR.g ?_) | (refine W.id ?_; first | refine W.seq fun _ _ => ?_ | refine W.region ?_ | refine W.s ?_ | refine W.e ?_) | (refine Ends.id ?_; first | refine Ends.seq (by assumption) ?_ | refine Ends.s ?_)))
    refine WR.call rfl rfl (take_M M p h1 h2 i (by omega)) ?_
    rintro _ w3 ⟨f, vb, hf, rfl, M⟩
    refine ⟨_, rfl, ?_⟩
    (repeat (first | (refine WR.id ?_; first | refine WR.nil ?_ | refine WR.s ?_ | refine WR.g ?_) | (refine W.id ?_; first | refine W.seq fun _ _ => ?_ | refine W.region ?_ | refine W.s ?_ | refine W.e ?_) | (refine Ends.id ?_; first | refine Ends.seq (by assumption) ?_ | refine Ends.s ?_)))
    exact Ends.ret1 rfl rfl (by rw [PL.lose, if_neg h]; exact ⟨rfl, M.drop.dropz⟩)
theorem dbl_M (hok : l.ok) (M : Mem w (aLk b l :: Os) Zs) (p : PK) (h1 : i64 p.1) (h2 : i64 p.2) (n : Int) (hn : i64 n) :
    Calls Try.prog 13 #[.pointer (some ⟨b, 0, none⟩), .int .i64 p.1, .int .i64 p.2, .int .i64 n] w fun r w' => r = .returned (.int .i64 (l.dbl p n).1) ∧ Mem w' (aLk b (l.dbl p n).2 :: Os) Zs := by
  refine enter Try.func13 rfl Try.ntmps13 rfl rfl ?_
  (repeat (first | (refine WR.id ?_; first | refine WR.nil ?_ | refine WR.s ?_ | refine WR.g ?_) | (refine W.id ?_; first | refine W.seq fun _ _ => ?_ | refine W.region ?_ | refine W.s ?_ | refine W.e ?_) | (refine Ends.id ?_; first | refine Ends.seq (by assumption) ?_ | refine Ends.s ?_)))
  refine WR.pairB rfl rfl rfl ?_
  refine WR.pairV M (by rfl) (by rfl) (by rfl) fun gp w1 M => ?_
  have hp := M.zbox 0 rfl
  (repeat (first | (refine WR.id ?_; first | refine WR.nil ?_ | refine WR.s ?_ | refine WR.g ?_) | (refine W.id ?_; first | refine W.seq fun _ _ => ?_ | refine W.region ?_ | refine W.s ?_ | refine W.e ?_) | (refine Ends.id ?_; first | refine Ends.seq (by assumption) ?_ | refine Ends.s ?_)))
  have hF := find_M M p h1 h2 n hn
  by_cases h : n < 0 ∨ ((l.m p).length : Int) ≤ n
  · rw [if_pos h] at hF
    refine WR.call rfl rfl hF ?_
    rintro _ w2 ⟨rfl, hb⟩
    refine ⟨_, rfl, ?_⟩
    (repeat (first | (refine WR.id ?_; first | refine WR.nil ?_ | refine WR.s ?_ | refine WR.g ?_) | (refine W.id ?_; first | refine W.seq fun _ _ => ?_ | refine W.region ?_ | refine W.s ?_ | refine W.e ?_) | (refine Ends.id ?_; first | refine Ends.seq (by assumption) ?_ | refine Ends.s ?_)))
    refine Ends.ret1 rfl rfl ?_
    have : l.dbl p n = (4, l) := by
      unfold PL.dbl
      by_cases h0 : n < 0
      · rw [if_pos h0]
      · rw [if_neg h0, List.getElem?_eq_none (by omega)]
    rw [this]
    exact ⟨rfl, (M.below hb).dropz⟩
  · rw [if_neg h] at hF
    obtain ⟨i, rfl⟩ : ∃ i : Nat, n = i := ⟨n.toNat, by omega⟩
    refine WR.call rfl rfl hF ?_
    rintro _ w2 ⟨rfl, hb⟩
    refine ⟨_, rfl, ?_⟩
    replace M := M.below hb
    have hp := M.zbox 0 rfl
    obtain ⟨g, l1, e, l2, c, f1, f, f2, v1, vb, v2, a, cp, hk, he, hfs, rfl, hv1, hv2, hev, hcp, hone, hlook, Mo⟩ := M.there p h1 h2 i (by omega)
    have hz : (List.zipWith PF.cells (f1 ++ f :: f2) (v1 ++ vb :: v2))[f1.length]? = some (f.cells vb) := zip_mid hv1
    have htop := hk.top
    (repeat (first | (refine WR.id ?_; first | refine WR.nil ?_ | refine WR.s ?_ | refine WR.g ?_) | (refine W.id ?_; first | refine W.seq fun _ _ => ?_ | refine W.region ?_ | refine W.s ?_ | refine W.e ?_) | (refine Ends.id ?_; first | refine Ends.seq (by assumption) ?_ | refine Ends.s ?_)))
    apply W.drawsTo 10 [[], [], [1], [2], [3], [], [4, 5], [], [6, 7], [8]]
      [is _, is _, is _, is _, is _, is _, is _, is _, is _, is _] (by kernel_rfl) (by kernel_rfl) (by rfl) (by kernel_rfl) (by kernel_rfl) ⟨stab_is _, stab_is _, stab_is _, stab_is _, stab_is _, stab_is _, stab_is _, stab_is _, stab_is _, stab_is _, trivial⟩ ?step1 ?fin1
    case step1 =>
      refine ⟨fun wq hbq Kq hKq => ?_, fun wq hbq Kq hKq => ?_, fun wq hbq Kq hKq => ?_, fun wq hbq Kq hKq => ?_, fun wq hbq Kq hKq => ?_, fun wq hbq Kq hKq => ?_, fun wq hbq Kq hKq => ?_, fun wq hbq Kq hKq => ?_, fun wq hbq Kq hKq => ?_, fun wq hbq Kq hKq => ?_, trivial⟩
      · have Mq := Mo.below hbq; have hB := Mq.swap.box; have hp := Mq.zbox 0 rfl; have hm := Mq.third.map; have hr := Mq.lrow.cells (g := a) rfl
        refine WR.s ?_; refine WR.nil ?_; exact Ends.one hKq rfl rfl (Below.refl _ _)
      · have Mq := Mo.below hbq; have hB := Mq.swap.box; have hp := Mq.zbox 0 rfl; have hm := Mq.third.map; have hr := Mq.lrow.cells (g := a) rfl
        refine WR.s ?_; refine WR.nil ?_; exact Ends.one hKq rfl rfl (Below.refl _ _)
      · rintro _ rfl
        have Mq := Mo.below hbq; have hB := Mq.swap.box; have hp := Mq.zbox 0 rfl; have hm := Mq.third.map; have hr := Mq.lrow.cells (g := a) rfl
        refine WR.s ?_; refine WR.nil ?_; exact Ends.one hKq rfl rfl (Below.refl _ _)
      · rintro _ rfl
        have Mq := Mo.below hbq; have hB := Mq.swap.box; have hp := Mq.zbox 0 rfl; have hm := Mq.third.map; have hr := Mq.lrow.cells (g := a) rfl
        refine WR.s ?_; refine WR.nil ?_; exact Ends.one hKq rfl rfl (Below.refl _ _)
      · rintro _ rfl
        have Mq := Mo.below hbq; have hB := Mq.swap.box; have hp := Mq.zbox 0 rfl; have hm := Mq.third.map; have hr := Mq.lrow.cells (g := a) rfl
        refine WR.s ?_; refine WR.nil ?_; exact Ends.one hKq rfl rfl (Below.refl _ _)
      · have Mq := Mo.below hbq; have hB := Mq.swap.box; have hp := Mq.zbox 0 rfl; have hm := Mq.third.map; have hr := Mq.lrow.cells (g := a) rfl
        refine WR.loadBox (by rfl) hp (by rfl) (by rfl) ?_; refine WR.nil ?_; exact Ends.one hKq rfl rfl (Below.refl _ _)
      · rintro _ rfl _ rfl
        have Mq := Mo.below hbq; have hB := Mq.swap.box; have hp := Mq.zbox 0 rfl; have hm := Mq.third.map; have hr := Mq.lrow.cells (g := a) rfl
        refine WR.lookup (by rfl) (by rfl) (hlook _ hm) (by rfl) ?_; refine WR.nil ?_; exact Ends.one hKq rfl rfl (Below.refl _ _)
      · have Mq := Mo.below hbq; have hB := Mq.swap.box; have hp := Mq.zbox 0 rfl; have hm := Mq.third.map; have hr := Mq.lrow.cells (g := a) rfl
        refine WR.s ?_; refine WR.nil ?_; exact Ends.one hKq rfl rfl (Below.refl _ _)
      · rintro _ rfl _ rfl
        have Mq := Mo.below hbq; have hB := Mq.swap.box; have hp := Mq.zbox 0 rfl; have hm := Mq.third.map; have hr := Mq.lrow.cells (g := a) rfl
        refine WR.indexAddr (j := f1.length) (by rfl) (by rfl) (by rfl) (by omega) ?_; refine WR.nil ?_; exact Ends.one hKq rfl rfl (Below.refl _ _)
      · rintro _ rfl
        have Mq := Mo.below hbq; have hB := Mq.swap.box; have hp := Mq.zbox 0 rfl; have hm := Mq.third.map; have hr := Mq.lrow.cells (g := a) rfl
        refine WR.loadRow (by rfl) (range_get (At.lit hr) cells_len4 hz) (by rfl) (by rfl) ?_; refine WR.nil ?_; exact Ends.one hKq rfl rfl (Below.refl _ _)
    intro wq hbq
    rintro _ rfl _ rfl _ rfl _ rfl _ rfl _ rfl _ rfl _ rfl _ rfl _ rfl
    refine WR.id ?_
    have Mq := Mo.below hbq; have hB := Mq.swap.box; have hp := Mq.zbox 0 rfl; have hm := Mq.third.map; have hr := Mq.lrow.cells (g := a) rfl
    obtain ⟨ho1, ho2⟩ := hok p f (by rw [hfs]; simp)
    obtain ⟨i1, i2, i3, i4, i5⟩ := right_i64 ho2
    refine WR.call rfl rfl (send_M (M.below hbq).dropz f vb i1 i2 i3 (by_bs Mq.fourth) (by omega) htop) ?_
    rintro _ w3 ⟨rfl, M⟩
    refine ⟨_, rfl, ?_⟩
    (repeat (first | (refine WR.id ?_; first | refine WR.nil ?_ | refine WR.s ?_ | refine WR.g ?_) | (refine W.id ?_; first | refine W.seq fun _ _ => ?_ | refine W.region ?_ | refine W.s ?_ | refine W.e ?_) | (refine Ends.id ?_; first | refine Ends.seq (by assumption) ?_ | refine Ends.s ?_)))
    refine Ends.ret1 rfl rfl ?_
    have : l.dbl p (f1.length : Nat) = l.send f := by
      unfold PL.dbl
      rw [if_neg (by omega), hfs]
      simp
    rw [this]
    exact ⟨rfl, M⟩

end Go.Proofs.Ytibmcpbkialbnaa
