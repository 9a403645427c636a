/- Layer 12's laws: does the layer do anything; may a flight be. No condition. -/
import Derived.Test.YtibmcpbkialbnaaLkD
namespace Go.Proofs.Ytibmcpbkialbnaa
open Go.RowKit K L E
open Go.Maps (Keyed)
set_option linter.unusedVariables false
set_option linter.unusedSimpArgs false

instance decI64 (x : Int) : Decidable (i64 x) := inferInstanceAs (Decidable (_ ∧ _))
variable {w : World} {b g c : Nat} {l : PL} {es : List MapEntry} {Os Zs : List Ass}
theorem build_fl (x y z : Int) (A : Option Addr) (n c : Nat) (w : World) : (Instr.build 24 #[(0, .int .i64 x), (1, .int .i64 y), (2, .int .i64 z), (3, .slice A n c)]).run Try.prog w = .ok (.agg #[.int .i64 x, .int .i64 y, .int .i64 z, .slice A n c]) w := by kernel_rfl
def PL.none : PL := ⟨fun _ => [], 0⟩
theorem PL.ok_none : PL.none.ok := fun p f h => by simp [PL.none] at h
theorem PL.ok_put {l : PL} (h : l.ok) {p : PK} {fs : List PF} {n : Nat} (hf : ∀ f ∈ fs, (f.frm, f.dst) = p ∧ rightB f = true) : (l.put p fs n).ok := by
  intro q f hq
  unfold PL.put at hq
  dsimp only at hq
  split at hq
  · rename_i e; subst e; exact hf f hq
  · exact h q f hq
theorem PL.ok_send {l : PL} (h : l.ok) (f : PF) : (l.send f).2.ok := by
  unfold PL.send
  split
  · exact h
  · split
    · exact h
    · rename_i hr _
      refine PL.ok_put h fun x hx => ?_
      rcases List.mem_append.1 hx with hx | hx
      · exact h _ x hx
      · obtain rfl := List.mem_singleton.1 hx
        exact ⟨rfl, by simpa using hr⟩
def wk1 : PF := ⟨1, 2, 5, [7]⟩
theorem wk_send : PL.none.send wk1 = (0, PL.none.add wk1) := by
  unfold PL.send
  rw [if_neg (by decide), if_neg (by decide)]
theorem wk_at : (PL.none.add wk1).m (1, 2) = [wk1] := rfl
theorem wk_ok : (PL.none.add wk1).ok := by have := PL.ok_send PL.ok_none wk1; rwa [wk_send] at this
theorem wk_give : (PL.none.add wk1).give (1, 2) 5 0 = (0, [7], (PL.none.add wk1).put (1, 2) [] 0) := rfl
theorem Try.elB : Elem Try.prog 22 5 1 1 (.int .u8 0) := ⟨Try.underlying22, by kernel_rfl, rfl, by decide⟩
theorem by_load {w : World} {v : Value} {bs : List UInt8} {Os Zs : List Ass} (M : Mem w (aBy v bs :: Os) Zs) (h : 0 < bs.length) : ∃ g c, v = .slice (some ⟨g, 0, none⟩) bs.length c := by
  obtain ⟨_, ⟨_, h0⟩ | ⟨g', cap, cur, h0, _⟩⟩ := M.row
  · omega
  · exact ⟨_, _, h0⟩
set_option maxHeartbeats 1000000 in
theorem wakes_M (M : Mem w Os Zs) : Calls Try.prog 9 #[] w fun r w' => r = .returned (.bool true) ∧ Mem w' Os Zs := by
  refine enter Try.func9 rfl Try.ntmps9 rfl rfl ?_
  (repeat (first | (refine WR.id ?_; first | refine WR.nil ?_ | refine WR.s ?_ | refine WR.g ?_) | (refine W.id ?_; first | refine W.seq fun _ _ => ?_ | refine W.region ?_ | refine W.s ?_ | refine W.e ?_) | (refine Ends.id ?_; first | refine Ends.seq (by assumption) ?_ | refine Ends.s ?_)))
  refine WR.call rfl rfl (new_M M) ?_
  rintro _ w1 ⟨b, rfl, M⟩
  refine ⟨_, rfl, ?_⟩
  (repeat (first | (refine WR.id ?_; first | refine WR.nil ?_ | refine WR.s ?_ | refine WR.g ?_) | (refine W.id ?_; first | refine W.seq fun _ _ => ?_ | refine W.region ?_ | refine W.s ?_ | refine W.e ?_) | (refine Ends.id ?_; first | refine Ends.seq (by assumption) ?_ | refine Ends.s ?_)))
  refine WR.row1 Try.elB (by decide) (by rfl) (by rfl) (by rfl) fun w2 hb2 hs2 => ?_
  replace M := M.below hb2
  (repeat (first | (refine WR.id ?_; first | refine WR.nil ?_ | refine WR.s ?_ | refine WR.g ?_) | (refine W.id ?_; first | refine W.seq fun _ _ => ?_ | refine W.region ?_ | refine W.s ?_ | refine W.e ?_) | (refine Ends.id ?_; first | refine Ends.seq (by assumption) ?_ | refine Ends.s ?_)))
  refine WR.buildRun (vs := #[(0, .int .i64 1), (1, .int .i64 2), (2, .int .i64 5), (3, .slice (some ⟨w1.heap.size, 0, none⟩) 1 1)]) (fun a ha => by rw [List.map_toArray]; simp only [List.map_cons, List.map_nil, ha.ev (x := .tmp 9) rfl]; rfl) rfl (build_fl _ _ _ _ _ _ _) ?_
  (repeat (first | (refine WR.id ?_; first | refine WR.nil ?_ | refine WR.s ?_ | refine WR.g ?_) | (refine W.id ?_; first | refine W.seq fun _ _ => ?_ | refine W.region ?_ | refine W.s ?_ | refine W.e ?_) | (refine Ends.id ?_; first | refine Ends.seq (by assumption) ?_ | refine Ends.s ?_)))
  refine WR.call rfl rfl (send_M (l := PL.none) M wk1 (.slice (some ⟨w1.heap.size, 0, none⟩) 1 1) (by decide) (by decide) (by decide) ⟨_, hs2⟩ (by decide) (by decide)) ?_
  rw [wk_send]
  rintro _ w3 ⟨rfl, M⟩
  refine ⟨_, rfl, ?_⟩
  (repeat (first | (refine WR.id ?_; first | refine WR.nil ?_ | refine WR.s ?_ | refine WR.g ?_) | (refine W.id ?_; first | refine W.seq fun _ _ => ?_ | refine W.region ?_ | refine W.s ?_ | refine W.e ?_) | (refine Ends.id ?_; first | refine Ends.seq (by assumption) ?_ | refine Ends.s ?_)))
  refine WR.call rfl rfl (arrivedN_M wk_ok M (1, 2) (by decide) (by decide) 4) ?_
  rintro _ w4 ⟨rfl, M⟩
  refine ⟨_, rfl, ?_⟩
  (repeat (first | (refine WR.id ?_; first | refine WR.nil ?_ | refine WR.s ?_ | refine WR.g ?_) | (refine W.id ?_; first | refine W.seq fun _ _ => ?_ | refine W.region ?_ | refine W.s ?_ | refine W.e ?_) | (refine Ends.id ?_; first | refine Ends.seq (by assumption) ?_ | refine Ends.s ?_)))
  refine WR.call rfl rfl (arrivedN_M wk_ok M (1, 2) (by decide) (by decide) 5) ?_
  rintro _ w5 ⟨rfl, M⟩
  refine ⟨_, rfl, ?_⟩
  (repeat (first | (refine WR.id ?_; first | refine WR.nil ?_ | refine WR.s ?_ | refine WR.g ?_) | (refine W.id ?_; first | refine W.seq fun _ _ => ?_ | refine W.region ?_ | refine W.s ?_ | refine W.e ?_) | (refine Ends.id ?_; first | refine Ends.seq (by assumption) ?_ | refine Ends.s ?_)))
  refine WR.call rfl rfl (give_M wk_ok M (1, 2) (by decide) (by decide) 5 0) ?_
  rw [wk_give]
  rintro _ w6 ⟨v, rfl, M⟩
  refine ⟨_, rfl, ?_⟩
  dsimp only at M
  obtain ⟨gb, cb, rfl⟩ := by_load M (by decide)
  have hc := by_cell M (j := 0) (x := 7) rfl
  (repeat (first | (refine WR.id ?_; first | refine WR.nil ?_ | refine WR.s ?_ | refine WR.g ?_) | (refine W.id ?_; first | refine W.seq fun _ _ => ?_ | refine W.region ?_ | refine W.s ?_ | refine W.e ?_) | (refine Ends.id ?_; first | refine Ends.seq (by assumption) ?_ | refine Ends.s ?_)))
  refine WR.indexAddr (j := 0) (by rfl) (by rfl) (by rfl) (by decide) ?_
  (repeat (first | (refine WR.id ?_; first | refine WR.nil ?_ | refine WR.s ?_ | refine WR.g ?_) | (refine W.id ?_; first | refine W.seq fun _ _ => ?_ | refine W.region ?_ | refine W.s ?_ | refine W.e ?_) | (refine Ends.id ?_; first | refine Ends.seq (by assumption) ?_ | refine Ends.s ?_)))
  refine WR.load (by rfl) hc (by rfl) ?_
  (repeat (first | (refine WR.id ?_; first | refine WR.nil ?_ | refine WR.s ?_ | refine WR.g ?_) | (refine W.id ?_; first | refine W.seq fun _ _ => ?_ | refine W.region ?_ | refine W.s ?_ | refine W.e ?_) | (refine Ends.id ?_; first | refine Ends.seq (by assumption) ?_ | refine Ends.s ?_)))
  refine WR.call rfl rfl (len_M M.swap) ?_
  rintro _ w7 ⟨rfl, rfl⟩
  refine ⟨_, rfl, ?_⟩
  (repeat (first | (refine WR.id ?_; first | refine WR.nil ?_ | refine WR.s ?_ | refine WR.g ?_) | (refine W.id ?_; first | refine W.seq fun _ _ => ?_ | refine W.region ?_ | refine W.s ?_ | refine W.e ?_) | (refine Ends.id ?_; first | refine Ends.seq (by assumption) ?_ | refine Ends.s ?_)))
  exact Ends.ret1 rfl rfl ⟨rfl, M.drop.drop⟩
theorem rnode_any (n : Int) (w : World) : Calls Try.prog 26 #[.int .i64 n] w fun e w' => e = .returned (.bool (nodeB n)) ∧ w' = w := by
  refine enter Try.func26 rfl Try.ntmps26 rfl rfl ?_
  by_cases h : 1 ≤ n
  · (repeat (first | (refine WR.id ?_; first | refine WR.nil ?_ | refine WR.s ?_ | refine WR.g ?_) | (refine W.id ?_; first | refine W.seq fun _ _ => ?_ | refine W.region ?_ | refine W.s ?_ | refine W.e ?_) | (refine Ends.id ?_; first | refine Ends.seq (by assumption) ?_ | refine Ends.s ?_)))
    exact Ends.ret1 rfl rfl ⟨by simp [nodeB, h], rfl⟩
  · (repeat (first | (refine WR.id ?_; first | refine WR.nil ?_ | refine WR.s ?_ | refine WR.g ?_) | (refine W.id ?_; first | refine W.seq fun _ _ => ?_ | refine W.region ?_ | refine W.s ?_ | refine W.e ?_) | (refine Ends.id ?_; first | refine Ends.seq (by assumption) ?_ | refine Ends.s ?_)))
    exact Ends.ret1 rfl rfl ⟨by simp [nodeB, h], rfl⟩
set_option maxHeartbeats 1000000 in
theorem right_any (f : PF) (A : Option Addr) (cp : Nat) (w : World) : Calls Try.prog 10 #[.agg (f.cells (.slice A f.bytes.length cp)).toArray] w fun e w' => e = .returned (.bool (rightB f)) ∧ Below w.heap.size w w' := by
  refine enter Try.func10 rfl Try.ntmps10 rfl rfl ?_
  (repeat (first | (refine WR.id ?_; first | refine WR.nil ?_ | refine WR.s ?_ | refine WR.g ?_) | (refine W.id ?_; first | refine W.seq fun _ _ => ?_ | refine W.region ?_ | refine W.s ?_ | refine W.e ?_) | (refine Ends.id ?_; first | refine Ends.seq (by assumption) ?_ | refine Ends.s ?_)))
  refine WR.box rfl (cs := #[.int .i64 f.frm, .int .i64 f.dst, .int .i64 f.tick, .slice A f.bytes.length cp]) rfl rfl fun w1 hb1 hx hs1 => ?_
  have hX : Box w1 w.heap.size [.int .i64 f.frm, .int .i64 f.dst, .int .i64 f.tick, .slice A f.bytes.length cp] := hx
  (repeat (first | (refine WR.id ?_; first | refine WR.nil ?_ | refine WR.s ?_ | refine WR.g ?_) | (refine W.id ?_; first | refine W.seq fun _ _ => ?_ | refine W.region ?_ | refine W.s ?_ | refine W.e ?_) | (refine Ends.id ?_; first | refine Ends.seq (by assumption) ?_ | refine Ends.s ?_)))
  refine WR.call rfl rfl (rnode_any _ _) ?_
  rintro _ _ ⟨rfl, rfl⟩
  refine ⟨_, rfl, ?_⟩
  cases hA : nodeB f.frm with
  | false =>
    (repeat (first | (refine WR.id ?_; first | refine WR.nil ?_ | refine WR.s ?_ | refine WR.g ?_) | (refine W.id ?_; first | refine W.seq fun _ _ => ?_ | refine W.region ?_ | refine W.s ?_ | refine W.e ?_) | (refine Ends.id ?_; first | refine Ends.seq (by assumption) ?_ | refine Ends.s ?_)))
    exact Ends.ret1 rfl rfl ⟨by simp [rightB, hA], hb1⟩
  | true =>
    (repeat (first | (refine WR.id ?_; first | refine WR.nil ?_ | refine WR.s ?_ | refine WR.g ?_) | (refine W.id ?_; first | refine W.seq fun _ _ => ?_ | refine W.region ?_ | refine W.s ?_ | refine W.e ?_) | (refine Ends.id ?_; first | refine Ends.seq (by assumption) ?_ | refine Ends.s ?_)))
    refine WR.call rfl rfl (rnode_any _ _) ?_
    rintro _ _ ⟨rfl, rfl⟩
    refine ⟨_, rfl, ?_⟩
    cases hB : nodeB f.dst with
    | false =>
      (repeat (first | (refine WR.id ?_; first | refine WR.nil ?_ | refine WR.s ?_ | refine WR.g ?_) | (refine W.id ?_; first | refine W.seq fun _ _ => ?_ | refine W.region ?_ | refine W.s ?_ | refine W.e ?_) | (refine Ends.id ?_; first | refine Ends.seq (by assumption) ?_ | refine Ends.s ?_)))
      exact Ends.ret1 rfl rfl ⟨by simp [rightB, hB], hb1⟩
    | true =>
      by_cases hC : f.frm = f.dst
      · (repeat (first | (refine WR.id ?_; first | refine WR.nil ?_ | refine WR.s ?_ | refine WR.g ?_) | (refine W.id ?_; first | refine W.seq fun _ _ => ?_ | refine W.region ?_ | refine W.s ?_ | refine W.e ?_) | (refine Ends.id ?_; first | refine Ends.seq (by assumption) ?_ | refine Ends.s ?_)))
        exact Ends.ret1 rfl rfl ⟨by simp [rightB, hC], hb1⟩
      · by_cases hD : 0 ≤ f.tick
        · by_cases hE : f.tick ≤ 1048576
          · by_cases hF : 1 ≤ f.bytes.length
            · by_cases hG : f.bytes.length ≤ 400
              · (repeat (first | (refine WR.id ?_; first | refine WR.nil ?_ | refine WR.s ?_ | refine WR.g ?_) | (refine W.id ?_; first | refine W.seq fun _ _ => ?_ | refine W.region ?_ | refine W.s ?_ | refine W.e ?_) | (refine Ends.id ?_; first | refine Ends.seq (by assumption) ?_ | refine Ends.s ?_)))
                exact Ends.ret1 rfl rfl ⟨by simp [rightB, hA, hB, hC, hD, hE, hG]; omega, hb1⟩
              · (repeat (first | (refine WR.id ?_; first | refine WR.nil ?_ | refine WR.s ?_ | refine WR.g ?_) | (refine W.id ?_; first | refine W.seq fun _ _ => ?_ | refine W.region ?_ | refine W.s ?_ | refine W.e ?_) | (refine Ends.id ?_; first | refine Ends.seq (by assumption) ?_ | refine Ends.s ?_)))
                exact Ends.ret1 rfl rfl ⟨by simp [rightB]; omega, hb1⟩
            · (repeat (first | (refine WR.id ?_; first | refine WR.nil ?_ | refine WR.s ?_ | refine WR.g ?_) | (refine W.id ?_; first | refine W.seq fun _ _ => ?_ | refine W.region ?_ | refine W.s ?_ | refine W.e ?_) | (refine Ends.id ?_; first | refine Ends.seq (by assumption) ?_ | refine Ends.s ?_)))
              exact Ends.ret1 rfl rfl ⟨by simp [rightB]; omega, hb1⟩
          · (repeat (first | (refine WR.id ?_; first | refine WR.nil ?_ | refine WR.s ?_ | refine WR.g ?_) | (refine W.id ?_; first | refine W.seq fun _ _ => ?_ | refine W.region ?_ | refine W.s ?_ | refine W.e ?_) | (refine Ends.id ?_; first | refine Ends.seq (by assumption) ?_ | refine Ends.s ?_)))
            exact Ends.ret1 rfl rfl ⟨by simp [rightB]; omega, hb1⟩
        · (repeat (first | (refine WR.id ?_; first | refine WR.nil ?_ | refine WR.s ?_ | refine WR.g ?_) | (refine W.id ?_; first | refine W.seq fun _ _ => ?_ | refine W.region ?_ | refine W.s ?_ | refine W.e ?_) | (refine Ends.id ?_; first | refine Ends.seq (by assumption) ?_ | refine Ends.s ?_)))
          exact Ends.ret1 rfl rfl ⟨by simp [rightB]; omega, hb1⟩

end Go.Proofs.Ytibmcpbkialbnaa
