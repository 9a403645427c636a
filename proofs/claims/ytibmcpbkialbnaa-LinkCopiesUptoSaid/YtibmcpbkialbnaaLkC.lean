/- How many of a pair's flights have arrived; one of them delivered. No condition beyond sizes. -/
import Derived.Test.YtibmcpbkialbnaaLkB
namespace Go.Proofs.Ytibmcpbkialbnaa
open Go.RowKit K L E
open Go.Maps (Keyed)
set_option linter.unusedVariables false
set_option linter.unusedSimpArgs false

variable {w : World} {b g c : Nat} {l : PL} {es : List MapEntry} {Os Zs : List Ass}
theorem arrivedN_M (hok : l.ok) (M : Mem w (aLk b l :: Os) Zs) (p : PK) (h1 : i64 p.1) (h2 : i64 p.2) (now : Int) :
    Calls Try.prog 17 #[.pointer (some ⟨b, 0, none⟩), .int .i64 p.1, .int .i64 p.2, .int .i64 now] w fun r w' => r = .returned (.int .i64 ((cameF (l.m p) now).length : Nat)) ∧ Mem w' (aLk b l :: Os) Zs := by
  refine enter Try.func17 rfl Try.ntmps17 rfl rfl ?_
  (repeat (first | (refine WR.id ?_; first | refine WR.nil ?_ | refine WR.s ?_ | refine WR.g ?_) | (refine W.id ?_; first | refine W.seq fun _ _ => ?_ | refine W.region ?_ | refine W.s ?_ | refine W.e ?_) | (refine Ends.id ?_; first | refine Ends.seq (by assumption) ?_ | refine Ends.s ?_)))
  refine WR.pairB rfl rfl rfl ?_
  (repeat (first | (refine WR.id ?_; first | refine WR.nil ?_ | refine WR.s ?_ | refine WR.g ?_) | (refine W.id ?_; first | refine W.seq fun _ _ => ?_ | refine W.region ?_ | refine W.s ?_ | refine W.e ?_) | (refine Ends.id ?_; first | refine Ends.seq (by assumption) ?_ | refine Ends.s ?_)))
  refine WR.call rfl rfl (arrived_M hok M p h1 h2 now) ?_
  rintro _ w1 ⟨v, rfl, M⟩
  refine ⟨_, rfl, ?_⟩
  obtain ⟨_, A, cp, rfl, -⟩ := M.lrow.sl
  (repeat (first | (refine WR.id ?_; first | refine WR.nil ?_ | refine WR.s ?_ | refine WR.g ?_) | (refine W.id ?_; first | refine W.seq fun _ _ => ?_ | refine W.region ?_ | refine W.s ?_ | refine W.e ?_) | (refine Ends.id ?_; first | refine Ends.seq (by assumption) ?_ | refine Ends.s ?_)))
  exact Ends.ret1 rfl rfl ⟨rfl, M.drop⟩
theorem arrivedN_nil (p : PK) (now : Int) (w : World) : Calls Try.prog 17 #[.pointer none, .int .i64 p.1, .int .i64 p.2, .int .i64 now] w fun r w' => r = .returned (.int .i64 0) ∧ Below w.heap.size w w' := by
  refine enter Try.func17 rfl Try.ntmps17 rfl rfl ?_
  (repeat (first | (refine WR.id ?_; first | refine WR.nil ?_ | refine WR.s ?_ | refine WR.g ?_) | (refine W.id ?_; first | refine W.seq fun _ _ => ?_ | refine W.region ?_ | refine W.s ?_ | refine W.e ?_) | (refine Ends.id ?_; first | refine Ends.seq (by assumption) ?_ | refine Ends.s ?_)))
  refine WR.pairB rfl rfl rfl ?_
  (repeat (first | (refine WR.id ?_; first | refine WR.nil ?_ | refine WR.s ?_ | refine WR.g ?_) | (refine W.id ?_; first | refine W.seq fun _ _ => ?_ | refine W.region ?_ | refine W.s ?_ | refine W.e ?_) | (refine Ends.id ?_; first | refine Ends.seq (by assumption) ?_ | refine Ends.s ?_)))
  refine WR.call rfl rfl (arrived_nil p now w) ?_
  rintro _ w1 ⟨rfl, hb⟩
  refine ⟨_, rfl, ?_⟩
  (repeat (first | (refine WR.id ?_; first | refine WR.nil ?_ | refine WR.s ?_ | refine WR.g ?_) | (refine W.id ?_; first | refine W.seq fun _ _ => ?_ | refine W.region ?_ | refine W.s ?_ | refine W.e ?_) | (refine Ends.id ?_; first | refine Ends.seq (by assumption) ?_ | refine Ends.s ?_)))
  exact Ends.ret1 rfl rfl ⟨rfl, hb⟩
def PL.give (l : PL) (p : PK) (now n : Int) : Int × List UInt8 × PL := if n < 0 then (4, [], l) else match (cameF (l.m p) now)[n.toNat]? with
  | none => (4, [], l)
  | some i => match (l.m p)[i]? with
    | none => (4, [], l)
    | some f => (0, f.bytes, l.put p ((l.m p).eraseIdx i) (l.n - 1))
theorem aBy_nil (w : World) : (aBy (.slice none 0 0) []).p w (fun _ => False) := ⟨fun x => ⟨fun h => h.elim, fun h => by cases h⟩, rfl, .inl ⟨rfl, rfl⟩⟩
theorem E.Mem.nilBy (M : Mem w Os Zs) : Mem w (aBy (.slice Option.none 0 0) [] :: Os) Zs := M.new (Below.refl _ _) (aBy_nil w) (fun x h => h.elim)
theorem field_f (f : PF) (v : Value) (w : World) : (Instr.field 24 (.agg (f.cells v).toArray) 3).run Try.prog w = .ok v w := by kernel_rfl
theorem give_M (hok : l.ok) (M : Mem w (aLk b l :: Os) Zs) (p : PK) (h1 : i64 p.1) (h2 : i64 p.2) (now n : Int) :
    Calls Try.prog 18 #[.pointer (some ⟨b, 0, none⟩), .int .i64 p.1, .int .i64 p.2, .int .i64 now, .int .i64 n] w fun r w' => ∃ v, r = .returned (.tuple #[v, .int .i64 (l.give p now n).1]) ∧ Mem w' (aBy v (l.give p now n).2.1 :: aLk b (l.give p now n).2.2 :: Os) Zs := by
  refine enter Try.func18 rfl Try.ntmps18 rfl rfl ?_
  (repeat (first | (refine WR.id ?_; first | refine WR.nil ?_ | refine WR.s ?_ | refine WR.g ?_) | (refine W.id ?_; first | refine W.seq fun _ _ => ?_ | refine W.region ?_ | refine W.s ?_ | refine W.e ?_) | (refine Ends.id ?_; first | refine Ends.seq (by assumption) ?_ | refine Ends.s ?_)))
  refine WR.pairB rfl rfl rfl ?_
  refine WR.pairV M (by rfl) (by rfl) (by rfl) fun gp w1 M => ?_
  have hp := M.zbox 0 rfl
  (repeat (first | (refine WR.id ?_; first | refine WR.nil ?_ | refine WR.s ?_ | refine WR.g ?_) | (refine W.id ?_; first | refine W.seq fun _ _ => ?_ | refine W.region ?_ | refine W.s ?_ | refine W.e ?_) | (refine Ends.id ?_; first | refine Ends.seq (by assumption) ?_ | refine Ends.s ?_)))
  refine WR.call rfl rfl (arrived_M hok M p h1 h2 now) ?_
  rintro _ w2 ⟨v, rfl, M⟩
  refine ⟨_, rfl, ?_⟩
  obtain ⟨_, A, cp, rfl, -⟩ := M.lrow.sl
  by_cases h0 : n < 0
  · have hg : l.give p now n = (4, [], l) := by unfold PL.give; rw [if_pos h0]
    (repeat (first | (refine WR.id ?_; first | refine WR.nil ?_ | refine WR.s ?_ | refine WR.g ?_) | (refine W.id ?_; first | refine W.seq fun _ _ => ?_ | refine W.region ?_ | refine W.s ?_ | refine W.e ?_) | (refine Ends.id ?_; first | refine Ends.seq (by assumption) ?_ | refine Ends.s ?_)))
    exact Ends.ret2 rfl rfl rfl (by rw [hg]; exact ⟨_, rfl, M.drop.dropz.nilBy⟩)
  · by_cases h9 : ((cameF (l.m p) now).length : Int) ≤ n
    · have hg : l.give p now n = (4, [], l) := by unfold PL.give; rw [if_neg h0, List.getElem?_eq_none (by omega)]
      (repeat (first | (refine WR.id ?_; first | refine WR.nil ?_ | refine WR.s ?_ | refine WR.g ?_) | (refine W.id ?_; first | refine W.seq fun _ _ => ?_ | refine W.region ?_ | refine W.s ?_ | refine W.e ?_) | (refine Ends.id ?_; first | refine Ends.seq (by assumption) ?_ | refine Ends.s ?_)))
      exact Ends.ret2 rfl rfl rfl (by rw [hg]; exact ⟨_, rfl, M.drop.dropz.nilBy⟩)
    · obtain ⟨k, rfl⟩ : ∃ k : Nat, n = k := ⟨n.toNat, by omega⟩
      obtain ⟨i, hi⟩ : ∃ i, (cameF (l.m p) now)[k]? = some i := ⟨_, List.getElem?_eq_getElem (by omega)⟩
      have hil := came_lt (List.mem_of_getElem? hi)
      obtain ⟨f, hf⟩ : ∃ f, (l.m p)[i]? = some f := ⟨_, List.getElem?_eq_getElem hil⟩
      have hg : l.give p now (k : Nat) = (0, f.bytes, l.put p ((l.m p).eraseIdx i) (l.n - 1)) := by unfold PL.give; rw [if_neg h0]; simp [hi, hf]
      obtain ⟨a, rfl⟩ : ∃ a, A = some ⟨a, 0, none⟩ := by
        obtain ⟨_, ⟨h0, h1⟩ | ⟨a, _, _, h0, _⟩⟩ := M.lrow
        · omega
        · cases h0; exact ⟨a, rfl⟩
      have hc : (natv (cameF (l.m p) now))[k]? = some (.int .i64 (i : Nat)) := by simp [natv, hi]
      (repeat (first | (refine WR.id ?_; first | refine WR.nil ?_ | refine WR.s ?_ | refine WR.g ?_) | (refine W.id ?_; first | refine W.seq fun _ _ => ?_ | refine W.region ?_ | refine W.s ?_ | refine W.e ?_) | (refine Ends.id ?_; first | refine Ends.seq (by assumption) ?_ | refine Ends.s ?_)))
      apply W.drawsTo 6 [[], [], [], [], [2, 3], [4]]
        [is _, is _, is _, is _, is _, is _] (by kernel_rfl) (by kernel_rfl) (by rfl) (by kernel_rfl) (by kernel_rfl) ⟨stab_is _, stab_is _, stab_is _, stab_is _, stab_is _, stab_is _, trivial⟩ ?step1 ?fin1
      case step1 =>
        refine ⟨fun wq hbq Kq hKq => ?_, fun wq hbq Kq hKq => ?_, fun wq hbq Kq hKq => ?_, fun wq hbq Kq hKq => ?_, fun wq hbq Kq hKq => ?_, fun wq hbq Kq hKq => ?_, trivial⟩
        · have Mq := M.below hbq; have hp := Mq.zbox 0 rfl; have hr := At.lit (Mq.lrow.cells (g := a) rfl)
          refine WR.s ?_; refine WR.nil ?_; exact Ends.one hKq rfl rfl (Below.refl _ _)
        · have Mq := M.below hbq; have hp := Mq.zbox 0 rfl; have hr := At.lit (Mq.lrow.cells (g := a) rfl)
          refine WR.s ?_; refine WR.nil ?_; exact Ends.one hKq rfl rfl (Below.refl _ _)
        · have Mq := M.below hbq; have hp := Mq.zbox 0 rfl; have hr := At.lit (Mq.lrow.cells (g := a) rfl)
          refine WR.s ?_; refine WR.nil ?_; exact Ends.one hKq rfl rfl (Below.refl _ _)
        · have Mq := M.below hbq; have hp := Mq.zbox 0 rfl; have hr := At.lit (Mq.lrow.cells (g := a) rfl)
          refine WR.s ?_; refine WR.nil ?_; exact Ends.one hKq rfl rfl (Below.refl _ _)
        · rintro _ rfl _ rfl
          have Mq := M.below hbq; have hp := Mq.zbox 0 rfl; have hr := At.lit (Mq.lrow.cells (g := a) rfl)
          refine WR.indexAddr (j := k) (by rfl) (by rfl) (by rfl) (by omega) ?_; refine WR.nil ?_; exact Ends.one hKq rfl rfl (Below.refl _ _)
        · rintro _ rfl
          have Mq := M.below hbq; have hp := Mq.zbox 0 rfl; have hr := At.lit (Mq.lrow.cells (g := a) rfl)
          refine WR.load (by rfl) (by rw [Nat.mul_one]; exact hr _ _ hc) (by rfl) ?_; refine WR.nil ?_; exact Ends.one hKq rfl rfl (Below.refl _ _)
      intro wq hbq
      rintro _ rfl _ rfl _ rfl _ rfl _ rfl _ rfl
      refine WR.id ?_
      have Mq := M.below hbq; have hp := Mq.zbox 0 rfl; have hr := At.lit (Mq.lrow.cells (g := a) rfl)
      replace M := M.below hbq
      refine WR.call rfl rfl (take_M M.swap p h1 h2 i hil) ?_
      rintro _ w3 ⟨f', vb, hf', rfl, M⟩
      refine ⟨_, rfl, ?_⟩
      rw [hf] at hf'
      cases hf'
      refine WR.val (v := vb) (w' := w3) rfl (fun a ha => by
        have h1 := ha.ev (x := .tmp 37) rfl
        generalize a.eval = ev at h1 ⊢
        unfold execOp
        simp only [h1, Sem.run_bind, field_f, Result.andThen_ok, Sem.run_pure]) ?_
      (repeat (first | (refine WR.id ?_; first | refine WR.nil ?_ | refine WR.s ?_ | refine WR.g ?_) | (refine W.id ?_; first | refine W.seq fun _ _ => ?_ | refine W.region ?_ | refine W.s ?_ | refine W.e ?_) | (refine Ends.id ?_; first | refine Ends.seq (by assumption) ?_ | refine Ends.s ?_)))
      exact Ends.ret2 rfl rfl rfl (by rw [hg]; exact ⟨_, rfl, M.third.drop.dropz⟩)

end Go.Proofs.Ytibmcpbkialbnaa
