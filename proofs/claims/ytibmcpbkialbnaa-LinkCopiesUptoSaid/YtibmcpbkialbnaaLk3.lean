/- Links read: a pair's flights looked up; find. No condition beyond sizes. -/
import Derived.Test.YtibmcpbkialbnaaLk1
namespace Go.Proofs.Ytibmcpbkialbnaa
open Go.RowKit K L E
open Go.Maps (Keyed)
set_option linter.unusedVariables false
set_option linter.unusedSimpArgs false

variable {w : World} {b g c : Nat} {l : PL} {es : List MapEntry} {Os Zs : List Ass}
theorem aFl_nil (w : World) : (aFl (.slice none 0 0) []).p w (fun _ => False) := ⟨[], rfl, fun _ => False, fun _ => False, ⟨fun b => ⟨fun h => h.elim, fun h => by cases h⟩, rfl, .inl ⟨rfl, rfl⟩⟩, fun _ h => h, fun _ h => h.elim, fun _ => ⟨fun h => h.elim, fun h => h.elim id id⟩⟩
theorem aFl_sl {v : Value} {fs : List PF} {F : Nat → Prop} (h : (aFl v fs).p w F) : ∃ A c, v = .slice A fs.length c := by
  obtain ⟨vs, hl, F1, F2, ⟨_, hr⟩, _⟩ := h
  obtain ⟨_, A, c, h, _⟩ := hr.sl
  exact ⟨A, c, h⟩
/-- The flights of one pair come first. -/
theorem E.Mem.pick {l1 l2 : List MapEntry} {e : MapEntry} {f : MapEntry → Ass} (M : Mem w ((l1 ++ e :: l2).map f ++ Os) Zs) : Mem w (f e :: ((l1 ++ l2).map f ++ Os)) Zs := M.perm (by
  rw [List.map_append, List.map_cons, List.map_append, List.append_assoc, List.append_assoc]
  exact List.perm_middle)
theorem EsOk.find (hk : EsOk l es) (p : PK) : ((∀ e ∈ es, e.key ≠ kv p) ∧ l.m p = []) ∨ ∃ l1 e l2, es = l1 ++ e :: l2 ∧ e.key = kv p := by
  rcases mcases es (kv p) with h | h
  · exact .inl ⟨h, hk.rest p h⟩
  · exact .inr h
theorem look_lk (hk : EsOk l es) (M : Mem w (aMap Try.prog 66 g es c :: ((es.map fun e => aFl e.val (l.m (pk e.key))) ++ Os)) Zs) (p : PK) (h1 : i64 p.1) (h2 : i64 p.2) :
    ∃ v, (∀ u, IsMap Try.prog 66 u g es c → (Instr.lookup 63 (.map (some g)) (kv p) false).run Try.prog u = .ok v u) ∧ ∃ F, (aFl v (l.m p)).p w F := by
  obtain ⟨kl, hkl⟩ := keyOf_kv p h1 h2
  rcases hk.find p with ⟨hn, h0⟩ | ⟨l1, e, l2, rfl, he⟩
  · exact ⟨_, fun u hu => run_lookup0 Try.keyed Try.underlying63 (zero_fls u) hu hkl hn, _, by rw [h0]; exact aFl_nil w⟩
  · refine ⟨_, fun u hu => run_lookup1 Try.keyed Try.underlying63 hu hkl he, ?_⟩
    have := (M.drop.pick (f := fun e => aFl e.val (l.m (pk e.key)))).get
    rwa [he, pk_kv] at this

theorem find_M (M : Mem w (aLk b l :: Os) Zs) (p : PK) (h1 : i64 p.1) (h2 : i64 p.2) (n : Int) (hn : i64 n) :
    Calls Try.prog 29 #[.pointer (some ⟨b, 0, none⟩), kv p, .int .i64 n] w fun r w' => r = .returned (.int .i64 (if n < 0 ∨ ((l.m p).length : Int) ≤ n then 4 else 0)) ∧ Below w.heap.size w w' := by
  obtain ⟨g, es, c, hk, M⟩ := M.lk
  refine enter Try.func29 rfl Try.ntmps29 rfl rfl ?_
  (repeat (first | (refine WR.id ?_; first | refine WR.nil ?_ | refine WR.s ?_ | refine WR.g ?_) | (refine W.id ?_; first | refine W.seq fun _ _ => ?_ | refine W.region ?_ | refine W.s ?_ | refine W.e ?_) | (refine Ends.id ?_; first | refine Ends.seq (by assumption) ?_ | refine Ends.s ?_)))
  refine WR.box rfl (cs := #[.int .i64 p.1, .int .i64 p.2]) rfl rfl fun w1 hb1 hx hs1 => ?_
  have M1 := M.below hb1
  have hB := M1.box
  obtain ⟨v, hlook, F, hF⟩ := look_lk hk M1.drop p h1 h2
  obtain ⟨A, cp, rfl⟩ := aFl_sl hF
  by_cases h0 : n < 0
  · (repeat (first | (refine WR.id ?_; first | refine WR.nil ?_ | refine WR.s ?_ | refine WR.g ?_) | (refine W.id ?_; first | refine W.seq fun _ _ => ?_ | refine W.region ?_ | refine W.s ?_ | refine W.e ?_) | (refine Ends.id ?_; first | refine Ends.seq (by assumption) ?_ | refine Ends.s ?_)))
    apply W.draws [[], [0], [1], [2], [2], [4, 2], [5, 2], [6, 2], [2], [7, 8, 2], [9, 2], [3, 10, 2], [2, 11], [12]]
      [is _, is _, is _, is _, is _, is _, is _, is _, is _, is _, is _, is _, is _, is _] (by kernel_rfl) (by kernel_rfl) (by rfl) (by kernel_rfl) ⟨stab_is _, stab_is _, stab_is _, stab_is _, stab_is _, stab_is _, stab_is _, stab_is _, stab_is _, stab_is _, stab_is _, stab_is _, stab_is _, stab_is _, trivial⟩ ?step1 ?fin1
    case step1 =>
      refine ⟨fun wq hbq Kq hKq => ?_, fun wq hbq Kq hKq => ?_, fun wq hbq Kq hKq => ?_, fun wq hbq Kq hKq => ?_, fun wq hbq Kq hKq => ?_, fun wq hbq Kq hKq => ?_, fun wq hbq Kq hKq => ?_, fun wq hbq Kq hKq => ?_, fun wq hbq Kq hKq => ?_, fun wq hbq Kq hKq => ?_, fun wq hbq Kq hKq => ?_, fun wq hbq Kq hKq => ?_, fun wq hbq Kq hKq => ?_, fun wq hbq Kq hKq => ?_, trivial⟩
      · have hB := hB.below hbq
        refine WR.s ?_; refine WR.nil ?_; exact Ends.one hKq rfl rfl (Below.refl _ _)
      · rintro _ rfl
        have hB := hB.below hbq
        refine WR.s ?_; refine WR.nil ?_; exact Ends.one hKq rfl rfl (Below.refl _ _)
      · rintro _ rfl
        have hB := hB.below hbq
        refine WR.s ?_; refine WR.nil ?_; exact Ends.one hKq rfl rfl (Below.refl _ _)
      · rintro _ rfl
        have hB := hB.below hbq
        first
          | (refine WR.guard_yes rfl rfl ?_; refine WR.s ?_; refine WR.nil ?_; exact Ends.one hKq rfl rfl (Below.refl _ _))
          | (refine WR.gn ?_; refine WR.nil ?_; exact Ends.one hKq rfl rfl (Below.refl _ _))
      · rintro _ rfl
        have hB := hB.below hbq
        first
          | (refine WR.guard_yes rfl rfl ?_; refine WR.s ?_; refine WR.nil ?_; exact Ends.one hKq rfl rfl (Below.refl _ _))
          | (refine WR.gn ?_; refine WR.nil ?_; exact Ends.one hKq rfl rfl (Below.refl _ _))
      · rintro _ rfl _ rfl
        have hB := hB.below hbq
        first
          | (refine WR.guard_yes rfl rfl ?_; refine WR.s ?_; refine WR.nil ?_; exact Ends.one hKq rfl rfl (Below.refl _ _))
          | (refine WR.gn ?_; refine WR.nil ?_; exact Ends.one hKq rfl rfl (Below.refl _ _))
      · rintro _ rfl _ rfl
        have hB := hB.below hbq
        first
          | (refine WR.guard_yes rfl rfl ?_; refine WR.s ?_; refine WR.nil ?_; exact Ends.one hKq rfl rfl (Below.refl _ _))
          | (refine WR.gn ?_; refine WR.nil ?_; exact Ends.one hKq rfl rfl (Below.refl _ _))
      · rintro _ rfl _ rfl
        have hB := hB.below hbq
        first
          | (refine WR.guard_yes rfl rfl ?_; refine WR.s ?_; refine WR.nil ?_; exact Ends.one hKq rfl rfl (Below.refl _ _))
          | (refine WR.gn ?_; refine WR.nil ?_; exact Ends.one hKq rfl rfl (Below.refl _ _))
      · rintro _ rfl
        have hB := hB.below hbq
        first
          | (refine WR.guard_yes rfl rfl ?_; refine WR.s ?_; refine WR.nil ?_; exact Ends.one hKq rfl rfl (Below.refl _ _))
          | (refine WR.gn ?_; refine WR.nil ?_; exact Ends.one hKq rfl rfl (Below.refl _ _))
      · rintro _ rfl _ rfl _ rfl
        have hB := hB.below hbq
        first
          | (refine WR.guard_yes rfl rfl ?_; fail; refine WR.nil ?_; exact Ends.one hKq rfl rfl (Below.refl _ _))
          | (refine WR.gn ?_; refine WR.nil ?_; exact Ends.one hKq rfl rfl (Below.refl _ _))
      · rintro _ rfl _ rfl
        have hB := hB.below hbq
        first
          | (refine WR.guard_yes rfl rfl ?_; refine WR.s ?_; refine WR.nil ?_; exact Ends.one hKq rfl rfl (Below.refl _ _))
          | (refine WR.gn ?_; refine WR.nil ?_; exact Ends.one hKq rfl rfl (Below.refl _ _))
      · rintro _ rfl _ rfl _ rfl
        have hB := hB.below hbq
        first
          | (refine WR.guard_yes rfl rfl ?_; refine WR.s ?_; refine WR.nil ?_; exact Ends.one hKq rfl rfl (Below.refl _ _))
          | (refine WR.gn ?_; refine WR.nil ?_; exact Ends.one hKq rfl rfl (Below.refl _ _))
      · rintro _ rfl _ rfl
        have hB := hB.below hbq
        refine WR.s ?_; refine WR.nil ?_; exact Ends.one hKq rfl rfl (Below.refl _ _)
      · rintro _ rfl
        have hB := hB.below hbq
        refine WR.s ?_; refine WR.nil ?_; exact Ends.one hKq rfl rfl (Below.refl _ _)
    intro wq hbq
    rintro _ rfl _ rfl _ rfl _ rfl _ rfl _ rfl _ rfl _ rfl _ rfl _ rfl _ rfl _ rfl _ rfl _ rfl
    refine Ends.id ?_
    have hB := hB.below hbq
    (repeat (first | (refine WR.id ?_; first | refine WR.nil ?_ | refine WR.s ?_ | refine WR.g ?_) | (refine W.id ?_; first | refine W.seq fun _ _ => ?_ | refine W.region ?_ | refine W.s ?_ | refine W.e ?_) | (refine Ends.id ?_; first | refine Ends.seq (by assumption) ?_ | refine Ends.s ?_)))
    exact Ends.ret1 rfl rfl ⟨by rw [if_pos (.inl h0)], hb1.trans (hbq.mono hb1.size)⟩
  · have hm := M1.drop.map
    by_cases h1 : n < (l.m p).length
    · (repeat (first | (refine WR.id ?_; first | refine WR.nil ?_ | refine WR.s ?_ | refine WR.g ?_) | (refine W.id ?_; first | refine W.seq fun _ _ => ?_ | refine W.region ?_ | refine W.s ?_ | refine W.e ?_) | (refine Ends.id ?_; first | refine Ends.seq (by assumption) ?_ | refine Ends.s ?_)))
      apply W.draws [[], [0], [1], [2], [2], [4, 2], [5, 2], [6, 2], [2], [7, 8, 2], [9, 2], [3, 10, 2], [2, 11], [12]]
        [is _, is _, is _, is _, is _, is _, is _, is _, is _, is _, is _, is _, is _, is _] (by kernel_rfl) (by kernel_rfl) (by rfl) (by kernel_rfl) ⟨stab_is _, stab_is _, stab_is _, stab_is _, stab_is _, stab_is _, stab_is _, stab_is _, stab_is _, stab_is _, stab_is _, stab_is _, stab_is _, stab_is _, trivial⟩ ?step2 ?fin2
      case step2 =>
        refine ⟨fun wq hbq Kq hKq => ?_, fun wq hbq Kq hKq => ?_, fun wq hbq Kq hKq => ?_, fun wq hbq Kq hKq => ?_, fun wq hbq Kq hKq => ?_, fun wq hbq Kq hKq => ?_, fun wq hbq Kq hKq => ?_, fun wq hbq Kq hKq => ?_, fun wq hbq Kq hKq => ?_, fun wq hbq Kq hKq => ?_, fun wq hbq Kq hKq => ?_, fun wq hbq Kq hKq => ?_, fun wq hbq Kq hKq => ?_, fun wq hbq Kq hKq => ?_, trivial⟩
        · have hB := hB.below hbq; have hx := hx.below hbq; have hm := (M1.below hbq).drop.map
          refine WR.s ?_; refine WR.nil ?_; exact Ends.one hKq rfl rfl (Below.refl _ _)
        · rintro _ rfl
          have hB := hB.below hbq; have hx := hx.below hbq; have hm := (M1.below hbq).drop.map
          refine WR.s ?_; refine WR.nil ?_; exact Ends.one hKq rfl rfl (Below.refl _ _)
        · rintro _ rfl
          have hB := hB.below hbq; have hx := hx.below hbq; have hm := (M1.below hbq).drop.map
          refine WR.s ?_; refine WR.nil ?_; exact Ends.one hKq rfl rfl (Below.refl _ _)
        · rintro _ rfl
          have hB := hB.below hbq; have hx := hx.below hbq; have hm := (M1.below hbq).drop.map
          first
            | (refine WR.guard_yes rfl rfl ?_; refine WR.s ?_; refine WR.nil ?_; exact Ends.one hKq rfl rfl (Below.refl _ _))
            | (refine WR.gn ?_; refine WR.nil ?_; exact Ends.one hKq rfl rfl (Below.refl _ _))
        · rintro _ rfl
          have hB := hB.below hbq; have hx := hx.below hbq; have hm := (M1.below hbq).drop.map
          first
            | (refine WR.guard_yes rfl rfl ?_; refine WR.s ?_; refine WR.nil ?_; exact Ends.one hKq rfl rfl (Below.refl _ _))
            | (refine WR.gn ?_; refine WR.nil ?_; exact Ends.one hKq rfl rfl (Below.refl _ _))
        · rintro _ rfl _ rfl
          have hB := hB.below hbq; have hx := hx.below hbq; have hm := (M1.below hbq).drop.map
          first
            | (refine WR.guard_yes rfl rfl ?_; refine WR.s ?_; refine WR.nil ?_; exact Ends.one hKq rfl rfl (Below.refl _ _))
            | (refine WR.gn ?_; refine WR.nil ?_; exact Ends.one hKq rfl rfl (Below.refl _ _))
        · rintro _ rfl _ rfl
          have hB := hB.below hbq; have hx := hx.below hbq; have hm := (M1.below hbq).drop.map
          first
            | (refine WR.guard_yes rfl rfl ?_; refine WR.s ?_; refine WR.nil ?_; exact Ends.one hKq rfl rfl (Below.refl _ _))
            | (refine WR.gn ?_; refine WR.nil ?_; exact Ends.one hKq rfl rfl (Below.refl _ _))
        · rintro _ rfl _ rfl
          have hB := hB.below hbq; have hx := hx.below hbq; have hm := (M1.below hbq).drop.map
          first
            | (refine WR.guard_yes rfl rfl ?_; refine WR.s ?_; refine WR.nil ?_; exact Ends.one hKq rfl rfl (Below.refl _ _))
            | (refine WR.gn ?_; refine WR.nil ?_; exact Ends.one hKq rfl rfl (Below.refl _ _))
        · rintro _ rfl
          have hB := hB.below hbq; have hx := hx.below hbq; have hm := (M1.below hbq).drop.map
          first
            | (refine WR.guard_yes rfl rfl ?_; refine WR.loadBox (by rfl) hx (by rfl) (by rfl) ?_; refine WR.nil ?_; exact Ends.one hKq rfl rfl (Below.refl _ _))
            | (refine WR.gn ?_; refine WR.nil ?_; exact Ends.one hKq rfl rfl (Below.refl _ _))
        · rintro _ rfl _ rfl _ rfl
          have hB := hB.below hbq; have hx := hx.below hbq; have hm := (M1.below hbq).drop.map
          first
            | (refine WR.guard_yes rfl rfl ?_; refine WR.lookup (by rfl) (by rfl) (hlook _ hm) (by rfl) ?_; refine WR.nil ?_; exact Ends.one hKq rfl rfl (Below.refl _ _))
            | (refine WR.gn ?_; refine WR.nil ?_; exact Ends.one hKq rfl rfl (Below.refl _ _))
        · rintro _ rfl _ rfl
          have hB := hB.below hbq; have hx := hx.below hbq; have hm := (M1.below hbq).drop.map
          first
            | (refine WR.guard_yes rfl rfl ?_; refine WR.s ?_; refine WR.nil ?_; exact Ends.one hKq rfl rfl (Below.refl _ _))
            | (refine WR.gn ?_; refine WR.nil ?_; exact Ends.one hKq rfl rfl (Below.refl _ _))
        · rintro _ rfl _ rfl _ rfl
          have hB := hB.below hbq; have hx := hx.below hbq; have hm := (M1.below hbq).drop.map
          first
            | (refine WR.guard_yes rfl rfl ?_; refine WR.s ?_; refine WR.nil ?_; exact Ends.one hKq rfl rfl (Below.refl _ _))
            | (refine WR.gn ?_; refine WR.nil ?_; exact Ends.one hKq rfl rfl (Below.refl _ _))
        · rintro _ rfl _ rfl
          have hB := hB.below hbq; have hx := hx.below hbq; have hm := (M1.below hbq).drop.map
          refine WR.s ?_; refine WR.nil ?_; exact Ends.one hKq rfl rfl (Below.refl _ _)
        · rintro _ rfl
          have hB := hB.below hbq; have hx := hx.below hbq; have hm := (M1.below hbq).drop.map
          refine WR.s ?_; refine WR.nil ?_; exact Ends.one hKq rfl rfl (Below.refl _ _)
      intro wq hbq
      rintro _ rfl _ rfl _ rfl _ rfl _ rfl _ rfl _ rfl _ rfl _ rfl _ rfl _ rfl _ rfl _ rfl _ rfl
      refine Ends.id ?_
      have hB := hB.below hbq; have hx := hx.below hbq; have hm := (M1.below hbq).drop.map
      (repeat (first | (refine WR.id ?_; first | refine WR.nil ?_ | refine WR.s ?_ | refine WR.g ?_) | (refine W.id ?_; first | refine W.seq fun _ _ => ?_ | refine W.region ?_ | refine W.s ?_ | refine W.e ?_) | (refine Ends.id ?_; first | refine Ends.seq (by assumption) ?_ | refine Ends.s ?_)))
      exact Ends.ret1 rfl rfl ⟨by rw [if_neg (by omega)], hb1.trans (hbq.mono hb1.size)⟩
    · (repeat (first | (refine WR.id ?_; first | refine WR.nil ?_ | refine WR.s ?_ | refine WR.g ?_) | (refine W.id ?_; first | refine W.seq fun _ _ => ?_ | refine W.region ?_ | refine W.s ?_ | refine W.e ?_) | (refine Ends.id ?_; first | refine Ends.seq (by assumption) ?_ | refine Ends.s ?_)))
      apply W.draws [[], [0], [1], [2], [2], [4, 2], [5, 2], [6, 2], [2], [7, 8, 2], [9, 2], [3, 10, 2], [2, 11], [12]]
        [is _, is _, is _, is _, is _, is _, is _, is _, is _, is _, is _, is _, is _, is _] (by kernel_rfl) (by kernel_rfl) (by rfl) (by kernel_rfl) ⟨stab_is _, stab_is _, stab_is _, stab_is _, stab_is _, stab_is _, stab_is _, stab_is _, stab_is _, stab_is _, stab_is _, stab_is _, stab_is _, stab_is _, trivial⟩ ?step3 ?fin3
      case step3 =>
        refine ⟨fun wq hbq Kq hKq => ?_, fun wq hbq Kq hKq => ?_, fun wq hbq Kq hKq => ?_, fun wq hbq Kq hKq => ?_, fun wq hbq Kq hKq => ?_, fun wq hbq Kq hKq => ?_, fun wq hbq Kq hKq => ?_, fun wq hbq Kq hKq => ?_, fun wq hbq Kq hKq => ?_, fun wq hbq Kq hKq => ?_, fun wq hbq Kq hKq => ?_, fun wq hbq Kq hKq => ?_, fun wq hbq Kq hKq => ?_, fun wq hbq Kq hKq => ?_, trivial⟩
        · have hB := hB.below hbq; have hx := hx.below hbq; have hm := (M1.below hbq).drop.map
          refine WR.s ?_; refine WR.nil ?_; exact Ends.one hKq rfl rfl (Below.refl _ _)
        · rintro _ rfl
          have hB := hB.below hbq; have hx := hx.below hbq; have hm := (M1.below hbq).drop.map
          refine WR.s ?_; refine WR.nil ?_; exact Ends.one hKq rfl rfl (Below.refl _ _)
        · rintro _ rfl
          have hB := hB.below hbq; have hx := hx.below hbq; have hm := (M1.below hbq).drop.map
          refine WR.s ?_; refine WR.nil ?_; exact Ends.one hKq rfl rfl (Below.refl _ _)
        · rintro _ rfl
          have hB := hB.below hbq; have hx := hx.below hbq; have hm := (M1.below hbq).drop.map
          first
            | (refine WR.guard_yes rfl rfl ?_; refine WR.s ?_; refine WR.nil ?_; exact Ends.one hKq rfl rfl (Below.refl _ _))
            | (refine WR.gn ?_; refine WR.nil ?_; exact Ends.one hKq rfl rfl (Below.refl _ _))
        · rintro _ rfl
          have hB := hB.below hbq; have hx := hx.below hbq; have hm := (M1.below hbq).drop.map
          first
            | (refine WR.guard_yes rfl rfl ?_; refine WR.s ?_; refine WR.nil ?_; exact Ends.one hKq rfl rfl (Below.refl _ _))
            | (refine WR.gn ?_; refine WR.nil ?_; exact Ends.one hKq rfl rfl (Below.refl _ _))
        · rintro _ rfl _ rfl
          have hB := hB.below hbq; have hx := hx.below hbq; have hm := (M1.below hbq).drop.map
          first
            | (refine WR.guard_yes rfl rfl ?_; refine WR.s ?_; refine WR.nil ?_; exact Ends.one hKq rfl rfl (Below.refl _ _))
            | (refine WR.gn ?_; refine WR.nil ?_; exact Ends.one hKq rfl rfl (Below.refl _ _))
        · rintro _ rfl _ rfl
          have hB := hB.below hbq; have hx := hx.below hbq; have hm := (M1.below hbq).drop.map
          first
            | (refine WR.guard_yes rfl rfl ?_; refine WR.s ?_; refine WR.nil ?_; exact Ends.one hKq rfl rfl (Below.refl _ _))
            | (refine WR.gn ?_; refine WR.nil ?_; exact Ends.one hKq rfl rfl (Below.refl _ _))
        · rintro _ rfl _ rfl
          have hB := hB.below hbq; have hx := hx.below hbq; have hm := (M1.below hbq).drop.map
          first
            | (refine WR.guard_yes rfl rfl ?_; refine WR.s ?_; refine WR.nil ?_; exact Ends.one hKq rfl rfl (Below.refl _ _))
            | (refine WR.gn ?_; refine WR.nil ?_; exact Ends.one hKq rfl rfl (Below.refl _ _))
        · rintro _ rfl
          have hB := hB.below hbq; have hx := hx.below hbq; have hm := (M1.below hbq).drop.map
          first
            | (refine WR.guard_yes rfl rfl ?_; refine WR.loadBox (by rfl) hx (by rfl) (by rfl) ?_; refine WR.nil ?_; exact Ends.one hKq rfl rfl (Below.refl _ _))
            | (refine WR.gn ?_; refine WR.nil ?_; exact Ends.one hKq rfl rfl (Below.refl _ _))
        · rintro _ rfl _ rfl _ rfl
          have hB := hB.below hbq; have hx := hx.below hbq; have hm := (M1.below hbq).drop.map
          first
            | (refine WR.guard_yes rfl rfl ?_; refine WR.lookup (by rfl) (by rfl) (hlook _ hm) (by rfl) ?_; refine WR.nil ?_; exact Ends.one hKq rfl rfl (Below.refl _ _))
            | (refine WR.gn ?_; refine WR.nil ?_; exact Ends.one hKq rfl rfl (Below.refl _ _))
        · rintro _ rfl _ rfl
          have hB := hB.below hbq; have hx := hx.below hbq; have hm := (M1.below hbq).drop.map
          first
            | (refine WR.guard_yes rfl rfl ?_; refine WR.s ?_; refine WR.nil ?_; exact Ends.one hKq rfl rfl (Below.refl _ _))
            | (refine WR.gn ?_; refine WR.nil ?_; exact Ends.one hKq rfl rfl (Below.refl _ _))
        · rintro _ rfl _ rfl _ rfl
          have hB := hB.below hbq; have hx := hx.below hbq; have hm := (M1.below hbq).drop.map
          first
            | (refine WR.guard_yes rfl rfl ?_; refine WR.s ?_; refine WR.nil ?_; exact Ends.one hKq rfl rfl (Below.refl _ _))
            | (refine WR.gn ?_; refine WR.nil ?_; exact Ends.one hKq rfl rfl (Below.refl _ _))
        · rintro _ rfl _ rfl
          have hB := hB.below hbq; have hx := hx.below hbq; have hm := (M1.below hbq).drop.map
          refine WR.s ?_; refine WR.nil ?_; exact Ends.one hKq rfl rfl (Below.refl _ _)
        · rintro _ rfl
          have hB := hB.below hbq; have hx := hx.below hbq; have hm := (M1.below hbq).drop.map
          refine WR.s ?_; refine WR.nil ?_; exact Ends.one hKq rfl rfl (Below.refl _ _)
      intro wq hbq
      rintro _ rfl _ rfl _ rfl _ rfl _ rfl _ rfl _ rfl _ rfl _ rfl _ rfl _ rfl _ rfl _ rfl _ rfl
      refine Ends.id ?_
      have hB := hB.below hbq; have hx := hx.below hbq; have hm := (M1.below hbq).drop.map
      (repeat (first | (refine WR.id ?_; first | refine WR.nil ?_ | refine WR.s ?_ | refine WR.g ?_) | (refine W.id ?_; first | refine W.seq fun _ _ => ?_ | refine W.region ?_ | refine W.s ?_ | refine W.e ?_) | (refine Ends.id ?_; first | refine Ends.seq (by assumption) ?_ | refine Ends.s ?_)))
      exact Ends.ret1 rfl rfl ⟨by rw [if_pos (by omega)], hb1.trans (hbq.mono hb1.size)⟩

end Go.Proofs.Ytibmcpbkialbnaa
