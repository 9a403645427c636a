/- Strings and bytes turned into each other, as steps of the engine. No condition beyond sizes. -/
import Derived.Test.YtjgobljclodpfaaMf
import Derived.Laws.IdiomStrings
import Derived.Test.YtjgobljclodpfaaOct3
import Derived.Test.YtjgobljclodpfaaEd4
import Derived.Test.YtjgobljclodpfaaTab
namespace Go.Proofs.Ytjgobljclodpfaa.E
open Go Go.RowKit K
set_option linter.unusedVariables false
set_option linter.unusedSimpArgs false

theorem cell_bel {w wq : World} {g o : Nat} {v : Value} (hb : Below w.heap.size w wq) (h : w.cell? ⟨g, o, none⟩ = some v) : wq.cell? ⟨g, o, none⟩ = some v :=
  (World.cell?_of_block (hb.block g (World.block_lt_of_cell? w _ h))).trans h
section
variable {P : Program} {n : Nat} {D : List Deferred} {L : Slots} {w : World} {Q : Exit → Act → World → Prop} {ops : Array Oper} {rest : List Oper} {d : Nat} {ty t u : TypeId} {pos : String} {after : Array Edge} {x y : Operand} {v vx : Value} {e : TypeId}
theorem WR.bytesOf [Us : Und P t .string] [Ud : Und P u (.slice e)] (he : P.underlying e = some (.int .u8)) {xs : List UInt8} (hx : evo L x = some (.string ⟨xs.toArray⟩)) (hd : Nat.blt d n = true) (hl : xs.length ≤ 1073741824)
    (h : ∀ A c w', Below w.heap.size w w' → Bs w' (w.heap.size ≤ ·) (.slice A xs.length c) xs → WR P n D ops rest ((d, .slice A xs.length c) :: L) w' Q) : WR P n D ops (⟨some d, .convert t u x, ty, pos, after, none⟩ :: rest) L w Q := by
  have hsz : (⟨xs.toArray⟩ : ByteArray).size = xs.length := by simp [ByteArray.size]
  have hr := run_bytes_of_string (P := P) w t u e ⟨xs.toArray⟩ Us.h Ud.h he
  rw [hsz] at hr
  have c1 := grownCap_ge w xs.length 0 e
  have c2 := grownCap_le_maxLen w xs.length 0 e (by simp only [maxLen]; omega)
  generalize grownCap w xs.length 0 e = cap at *
  generalize hw : w.drew.alloc (.cells (bytesRow ⟨xs.toArray⟩ cap) e ((bytesRow ⟨xs.toArray⟩ cap).size, (bytesRow ⟨xs.toArray⟩ cap).size + 1)) = w1 at *
  have hg : w1.heap[w.heap.size]? = some (.cells (bytesRow ⟨xs.toArray⟩ cap) e ((bytesRow ⟨xs.toArray⟩ cap).size, (bytesRow ⟨xs.toArray⟩ cap).size + 1)) := by rw [← hw]; exact heap_alloc_new w.drew _
  have hb : Below w.heap.size w w1 := by rw [← hw]; exact below_al ((Below.refl _ _).drew) _
  refine .val (v := .slice (some ⟨w.heap.size, 0, none⟩) xs.length cap) (w' := w1) hd (fun a ha => by simp only [execOp, ha.ev hx, Sem.run_bind, hr, Result.andThen_ok, Sem.run_pure]) (h _ _ _ hb ?_)
  refine ⟨by simp [bvs], _, _, rfl, c1, c2, (fun h => by cases h), fun _ => ⟨_, rfl, Nat.le_refl _, fun j z hz => ?_⟩⟩
  rw [Addr.add_lit, Nat.zero_add]
  have hj : j < xs.length := by have := (List.getElem?_eq_some_iff.1 hz).1; simpa [bvs] using this
  unfold World.cell?
  rw [hg]
  simp only [bytesRow]
  rw [Array.getElem?_append_left (by simpa using hj)]
  simp only [bvs, List.getElem?_map] at hz
  simpa [bv] using hz
theorem WR.strOf [Us : Und P t (.slice e)] [Ud : Und P u .string] (he : P.underlying e = some (.int .u8)) {F : Nat → Prop} {xs : List UInt8} (hx : evo L x = some vx) (hd : Nat.blt d n = true) (hb : Bs w F vx xs)
    (h : WR P n D ops rest ((d, .string ⟨xs.toArray⟩) :: L) w Q) : WR P n D ops (⟨some d, .convert t u x, ty, pos, after, none⟩ :: rest) L w Q :=
  .val hd (fun a ha => by simp only [execOp, ha.ev hx, Sem.run_bind, run_string (P := P) w hb Us.h he Ud.h, Result.andThen_ok, Sem.run_pure]) h
end

end Go.Proofs.Ytjgobljclodpfaa.E
namespace Go.Proofs.Ytjgobljclodpfaa
open Go.RowKit K L E
set_option linter.unusedVariables false
set_option linter.unusedSimpArgs false

/-- A reader: its box, and its bytes. -/
def Rs.ok (r : Rs) : Prop := r.pos ≤ r.xs.length ∧ r.xs.length ≤ 1000000000 ∧ (0 ≤ r.err ∧ r.err ≤ 1000)
def aRd (b : Nat) (r : Rs) : Ass := aIf r.ok (aEx fun v => aSep (aBox b [v, .int .i64 (r.pos : Nat), .int .i64 r.err]) (zSl 1 v r.xs.length (bvs r.xs)))
section
variable {w : World} {b : Nat} {r : Rs} {Os Zs : List Ass}
theorem E.Mem.rd (M : Mem w (aRd b r :: Os) Zs) : r.ok ∧ ∃ v, Mem w (aBox b [v, .int .i64 (r.pos : Nat), .int .i64 r.err] :: zSl 1 v r.xs.length (bvs r.xs) :: Os) Zs := by
  obtain ⟨hr, M⟩ := M.cond
  obtain ⟨v, M⟩ := M.ex
  exact ⟨hr, v, M.split⟩
theorem E.Mem.mkRd {v : Value} (hr : r.ok) (M : Mem w (aBox b [v, .int .i64 (r.pos : Nat), .int .i64 r.err] :: zSl 1 v r.xs.length (bvs r.xs) :: Os) Zs) : Mem w (aRd b r :: Os) Zs :=
  Mem.mkIf hr (Mem.mkEx v M.join)
theorem Rs.take_ok {r : Rs} (h : r.ok) (n : Int) : (r.take n).1.ok := by
  obtain ⟨xs, pos, err⟩ := r
  obtain ⟨h1, h2, h3⟩ := h
  unfold Rs.take
  dsimp only at *
  split
  · exact ⟨h1, h2, h3⟩
  split
  · exact ⟨h1, h2, by dsimp only; omega⟩
  split
  · exact ⟨h1, h2, by dsimp only; omega⟩
  · exact ⟨by dsimp only; omega, h2, h3⟩
theorem Rs.take_xs {r : Rs} (n : Int) : (r.take n).1.xs = r.xs := by unfold Rs.take; (repeat' split) <;> rfl

theorem build_spot (A : Option Addr) (n c : Nat) (w : World) : (Instr.build 97 #[(0, .slice A n c)]).run Try.prog w = .ok (.agg #[.slice A n c, .int .i64 0, .int .i64 0]) w := by kernel_rfl
theorem build_rdr (A : Option Addr) (n c : Nat) (w : World) : (Instr.build 99 #[(0, .agg #[.slice A n c, .int .i64 0, .int .i64 0])]).run Try.prog w = .ok (.agg #[.slice A n c, .int .i64 0, .int .i64 0]) w := by kernel_rfl
theorem bs_zsl {F : Nat → Prop} {v : Value} {xs : List UInt8} (h : Bs w F v xs) : (zSl 1 v xs.length (bvs xs)).p w (fun b => F b ∧ b < w.heap.size) := ⟨by decide, Sl.imp h (fun b hb hF => ⟨hF, hb⟩) (by decide), fun b hb => hb.2⟩
theorem E.Mem.newBs {w' : World} {v : Value} {xs : List UInt8} {e base : Nat} (M : Mem w Os Zs) (hb : Below w.heap.size w w') (h : Ob w' base e v xs) (hB : w.heap.size ≤ base) : Mem w' (zSl 1 v xs.length (bvs xs) :: Os) Zs :=
  M.new hb (bs_zsl h.bs) fun b hb => Nat.le_trans hB hb.1
theorem E.Mem.zbs {v : Value} {xs : List UInt8} (M : Mem w Os Zs) (k : Nat) (hz : Zs[k]? = some (zSl 1 v xs.length (bvs xs))) : ∃ F, Bs w F v xs := M.sl k hz
theorem E.Mem.bs {v : Value} {xs : List UInt8} (M : Mem w (zSl 1 v xs.length (bvs xs) :: Os) Zs) : ∃ F, Bs w F v xs := by obtain ⟨F, -, h, -⟩ := M.get; exact ⟨F, h⟩
set_option maxHeartbeats 400000 in
theorem read_M {v : Value} {xs : List UInt8} {F : Nat → Prop} (M : Mem w Os Zs) (h : Bs w F v xs) (hl : xs.length ≤ 1000000000) :
    Calls Try.prog 51 #[v] w fun e w' => ∃ b, e = .returned (.pointer (some ⟨b, 0, none⟩)) ∧ Mem w' (aRd b ⟨xs, 0, 0⟩ :: Os) Zs := by
  refine enter Try.func51 rfl Try.ntmps51 rfl rfl ?_
  (repeat (first | (refine WR.id ?_; first | refine WR.nil ?_ | refine WR.s ?_ | refine WR.g ?_) | (refine W.id ?_; first | refine W.seq fun _ _ => ?_ | refine W.region ?_ | refine W.s ?_ | refine W.e ?_) | (refine Ends.id ?_; first | refine Ends.seq (by assumption) ?_ | refine Ends.s ?_)))
  refine WR.call rfl rfl (clone_any _ _ _ _ h (by omega)) ?_
  rintro _ w1 ⟨v1, rfl, ho, hb⟩
  refine ⟨_, rfl, ?_⟩
  obtain ⟨A, c, rfl, -⟩ := ho.bs.open_
  replace M := M.newBs hb ho (Nat.le_refl _)
  refine WR.buildL (vs := [(0, .slice A xs.length c)]) (by rfl) (by rfl) (build_spot _ _ _ _) ?_
  refine WR.buildL (vs := [(0, .agg #[.slice A xs.length c, .int .i64 0, .int .i64 0])]) (by rfl) (by rfl) (build_rdr _ _ _ _) ?_
  refine WR.box rfl (cs := #[.slice A xs.length c, .int .i64 0, .int .i64 0]) rfl rfl fun w2 hb2 hx2 hs2 => ?_
  replace M := M.newBox (cs := [.slice A xs.length c, .int .i64 0, .int .i64 0]) hb2 hx2
  (repeat (first | (refine WR.id ?_; first | refine WR.nil ?_ | refine WR.s ?_ | refine WR.g ?_) | (refine W.id ?_; first | refine W.seq fun _ _ => ?_ | refine W.region ?_ | refine W.s ?_ | refine W.e ?_) | (refine Ends.id ?_; first | refine Ends.seq (by assumption) ?_ | refine Ends.s ?_)))
  exact Ends.ret1 rfl rfl ⟨_, rfl, M.mkRd (r := ⟨xs, 0, 0⟩) ⟨Nat.zero_le _, hl, by simp⟩⟩

set_option maxRecDepth 100000 in
set_option maxHeartbeats 1000000 in
theorem take_M {v : Value} (hr : r.ok) (M : Mem w (aBox b [v, .int .i64 (r.pos : Nat), .int .i64 r.err] :: zSl 1 v r.xs.length (bvs r.xs) :: Os) Zs) (n : Int) (hn : -9223372036854775808 ≤ n ∧ n ≤ 9223372036854775807) :
    Calls Try.prog 73 #[.pointer (some ⟨b, 0, none⟩), .int .i64 n] w fun e w' => ∃ v', e = .returned v' ∧ (∃ F, Bs w' F v' (r.take n).2) ∧ Mem w' (aBox b [v, .int .i64 ((r.take n).1.pos : Nat), .int .i64 (r.take n).1.err] :: zSl 1 v r.xs.length (bvs r.xs) :: Os) Zs ∧ Upd (fun x => x = b) w w' := by
  obtain ⟨xs, pos, err⟩ := r
  obtain ⟨h1, h2, h3, h4⟩ := hr
  dsimp only at *
  obtain ⟨Fb, -, hbs, -⟩ := M.drop.get
  obtain ⟨A, c, rfl, l1, l2, -⟩ := (show Bs w Fb v xs from hbs).open_
  unfold maxLen at l2
  refine enter Try.func73 rfl Try.ntmps73 rfl rfl ?_
  have hB := M.box
  by_cases he : err = 0
  · subst he
    by_cases hn0 : n < 0
    · have hT : Rs.take ⟨xs, pos, 0⟩ n = (⟨xs, pos, 2⟩, []) := by unfold Rs.take; rw [if_neg (by simp), if_pos hn0]
      (repeat (first | (refine WR.id ?_; first | refine WR.nil ?_ | refine WR.s ?_ | refine WR.g ?_) | (refine W.id ?_; first | refine W.seq fun _ _ => ?_ | refine W.region ?_ | refine W.s ?_ | refine W.e ?_) | (refine Ends.id ?_; first | refine Ends.seq (by assumption) ?_ | refine Ends.s ?_)))
      refine WR.storeBox M.box (by rfl) (by rfl) rfl rfl (by simp) fun w2 hu2 hx2 hs2 => ?_
      replace M := M.setBox hu2 hx2
      clear hB
      (repeat (first | (refine WR.id ?_; first | refine WR.nil ?_ | refine WR.s ?_ | refine WR.g ?_) | (refine W.id ?_; first | refine W.seq fun _ _ => ?_ | refine W.region ?_ | refine W.s ?_ | refine W.e ?_) | (refine Ends.id ?_; first | refine Ends.seq (by assumption) ?_ | refine Ends.s ?_)))
      exact Ends.ret1 rfl rfl ⟨_, rfl, by rw [hT]; exact ⟨fun _ => False, Sl.nil _ _ _⟩, by rw [hT]; exact M, hu2⟩
    obtain ⟨m, rfl⟩ := Int.eq_ofNat_of_zero_le (by omega : 0 ≤ n)
    by_cases hlen : (xs.length : Int) - pos < m
    · have hT : Rs.take ⟨xs, pos, 0⟩ (m : Int) = (⟨xs, pos, 7⟩, []) := by unfold Rs.take; rw [if_neg (by simp), if_neg hn0, if_pos hlen]
      (repeat (first | (refine WR.id ?_; first | refine WR.nil ?_ | refine WR.s ?_ | refine WR.g ?_) | (refine W.id ?_; first | refine W.seq fun _ _ => ?_ | refine W.region ?_ | refine W.s ?_ | refine W.e ?_) | (refine Ends.id ?_; first | refine Ends.seq (by assumption) ?_ | refine Ends.s ?_)))
      apply W.draws [[], [], [1], [2], [3], [4], [], [6], [7], [8], [5, 9], [0, 10], [11]]
        [is _, is _, is _, is _, is _, is _, is _, is _, is _, is _, is _, is _, is _] (by kernel_rfl) (by kernel_rfl) (by rfl) (by kernel_rfl) ⟨stab_is _, stab_is _, stab_is _, stab_is _, stab_is _, stab_is _, stab_is _, stab_is _, stab_is _, stab_is _, stab_is _, stab_is _, stab_is _, trivial⟩ ?step1 ?fin1
      case step1 =>
        refine ⟨fun wq hbq Kq hKq => ?_, fun wq hbq Kq hKq => ?_, fun wq hbq Kq hKq => ?_, fun wq hbq Kq hKq => ?_, fun wq hbq Kq hKq => ?_, fun wq hbq Kq hKq => ?_, fun wq hbq Kq hKq => ?_, fun wq hbq Kq hKq => ?_, fun wq hbq Kq hKq => ?_, fun wq hbq Kq hKq => ?_, fun wq hbq Kq hKq => ?_, fun wq hbq Kq hKq => ?_, fun wq hbq Kq hKq => ?_, trivial⟩
        · have hB := hB.below hbq
          refine WR.s ?_; refine WR.nil ?_; exact Ends.one hKq rfl rfl (Below.refl _ _)
        · have hB := hB.below hbq
          refine WR.s ?_; refine WR.nil ?_; exact Ends.one hKq rfl rfl (Below.refl _ _)
        · rintro _ rfl
          have hB := hB.below hbq
          refine WR.s ?_; refine WR.nil ?_; exact Ends.one hKq rfl rfl (Below.refl _ _)
        · rintro _ rfl
          have hB := hB.below hbq
          refine WR.s ?_; refine WR.nil ?_; exact Ends.one hKq rfl rfl (Below.refl _ _)
        · rintro _ rfl
          have hB := hB.below hbq
          refine WR.s ?_; refine WR.nil ?_; exact Ends.one hKq rfl rfl (Below.refl _ _)
        · rintro _ rfl
          have hB := hB.below hbq
          refine WR.s ?_; refine WR.nil ?_; exact Ends.one hKq rfl rfl (Below.refl _ _)
        · have hB := hB.below hbq
          refine WR.s ?_; refine WR.nil ?_; exact Ends.one hKq rfl rfl (Below.refl _ _)
        · rintro _ rfl
          have hB := hB.below hbq
          refine WR.s ?_; refine WR.nil ?_; exact Ends.one hKq rfl rfl (Below.refl _ _)
        · rintro _ rfl
          have hB := hB.below hbq
          refine WR.s ?_; refine WR.nil ?_; exact Ends.one hKq rfl rfl (Below.refl _ _)
        · rintro _ rfl
          have hB := hB.below hbq
          refine WR.s ?_; refine WR.nil ?_; exact Ends.one hKq rfl rfl (Below.refl _ _)
        · rintro _ rfl _ rfl
          have hB := hB.below hbq
          refine WR.s ?_; refine WR.nil ?_; exact Ends.one hKq rfl rfl (Below.refl _ _)
        · rintro _ rfl _ rfl
          have hB := hB.below hbq
          refine WR.s ?_; refine WR.nil ?_; exact Ends.one hKq rfl rfl (Below.refl _ _)
        · rintro _ rfl
          have hB := hB.below hbq
          refine WR.s ?_; refine WR.nil ?_; exact Ends.one hKq rfl rfl (Below.refl _ _)
      intro wq hbq
      rintro _ rfl _ rfl _ rfl _ rfl _ rfl _ rfl _ rfl _ rfl _ rfl _ rfl _ rfl _ rfl _ rfl
      refine Ends.id ?_
      have hB := hB.below hbq
      have M := M.below hbq
      (repeat (first | (refine WR.id ?_; first | refine WR.nil ?_ | refine WR.s ?_ | refine WR.g ?_) | (refine W.id ?_; first | refine W.seq fun _ _ => ?_ | refine W.region ?_ | refine W.s ?_ | refine W.e ?_) | (refine Ends.id ?_; first | refine Ends.seq (by assumption) ?_ | refine Ends.s ?_)))
      refine WR.storeBox M.box (by rfl) (by rfl) rfl rfl (by simp) fun w2 hu2 hx2 hs2 => ?_
      replace M := M.setBox hu2 hx2
      (repeat (first | (refine WR.id ?_; first | refine WR.nil ?_ | refine WR.s ?_ | refine WR.g ?_) | (refine W.id ?_; first | refine W.seq fun _ _ => ?_ | refine W.region ?_ | refine W.s ?_ | refine W.e ?_) | (refine Ends.id ?_; first | refine Ends.seq (by assumption) ?_ | refine Ends.s ?_)))
      exact Ends.ret1 rfl rfl ⟨_, rfl, by rw [hT]; exact ⟨fun _ => False, Sl.nil _ _ _⟩, by rw [hT]; exact M, (Upd.of_below hbq).trans hu2 fun _ _ h => h⟩
    · have hT : Rs.take ⟨xs, pos, 0⟩ (m : Int) = (⟨xs, pos + m, 0⟩, (xs.drop pos).take m) := by unfold Rs.take; rw [if_neg (by simp), if_neg hn0, if_neg hlen]; rfl
      (repeat (first | (refine WR.id ?_; first | refine WR.nil ?_ | refine WR.s ?_ | refine WR.g ?_) | (refine W.id ?_; first | refine W.seq fun _ _ => ?_ | refine W.region ?_ | refine W.s ?_ | refine W.e ?_) | (refine Ends.id ?_; first | refine Ends.seq (by assumption) ?_ | refine Ends.s ?_)))
      apply W.draws [[], [], [1], [2], [3], [4], [], [6], [7], [8], [5, 9], [0, 10], [11]]
        [is _, is _, is _, is _, is _, is _, is _, is _, is _, is _, is _, is _, is _] (by kernel_rfl) (by kernel_rfl) (by rfl) (by kernel_rfl) ⟨stab_is _, stab_is _, stab_is _, stab_is _, stab_is _, stab_is _, stab_is _, stab_is _, stab_is _, stab_is _, stab_is _, stab_is _, stab_is _, trivial⟩ ?step2 ?fin2
      case step2 =>
        refine ⟨fun wq hbq Kq hKq => ?_, fun wq hbq Kq hKq => ?_, fun wq hbq Kq hKq => ?_, fun wq hbq Kq hKq => ?_, fun wq hbq Kq hKq => ?_, fun wq hbq Kq hKq => ?_, fun wq hbq Kq hKq => ?_, fun wq hbq Kq hKq => ?_, fun wq hbq Kq hKq => ?_, fun wq hbq Kq hKq => ?_, fun wq hbq Kq hKq => ?_, fun wq hbq Kq hKq => ?_, fun wq hbq Kq hKq => ?_, trivial⟩
        · have hB := hB.below hbq
          refine WR.s ?_; refine WR.nil ?_; exact Ends.one hKq rfl rfl (Below.refl _ _)
        · have hB := hB.below hbq
          refine WR.s ?_; refine WR.nil ?_; exact Ends.one hKq rfl rfl (Below.refl _ _)
        · rintro _ rfl
          have hB := hB.below hbq
          refine WR.s ?_; refine WR.nil ?_; exact Ends.one hKq rfl rfl (Below.refl _ _)
        · rintro _ rfl
          have hB := hB.below hbq
          refine WR.s ?_; refine WR.nil ?_; exact Ends.one hKq rfl rfl (Below.refl _ _)
        · rintro _ rfl
          have hB := hB.below hbq
          refine WR.s ?_; refine WR.nil ?_; exact Ends.one hKq rfl rfl (Below.refl _ _)
        · rintro _ rfl
          have hB := hB.below hbq
          refine WR.s ?_; refine WR.nil ?_; exact Ends.one hKq rfl rfl (Below.refl _ _)
        · have hB := hB.below hbq
          refine WR.s ?_; refine WR.nil ?_; exact Ends.one hKq rfl rfl (Below.refl _ _)
        · rintro _ rfl
          have hB := hB.below hbq
          refine WR.s ?_; refine WR.nil ?_; exact Ends.one hKq rfl rfl (Below.refl _ _)
        · rintro _ rfl
          have hB := hB.below hbq
          refine WR.s ?_; refine WR.nil ?_; exact Ends.one hKq rfl rfl (Below.refl _ _)
        · rintro _ rfl
          have hB := hB.below hbq
          refine WR.s ?_; refine WR.nil ?_; exact Ends.one hKq rfl rfl (Below.refl _ _)
        · rintro _ rfl _ rfl
          have hB := hB.below hbq
          refine WR.s ?_; refine WR.nil ?_; exact Ends.one hKq rfl rfl (Below.refl _ _)
        · rintro _ rfl _ rfl
          have hB := hB.below hbq
          refine WR.s ?_; refine WR.nil ?_; exact Ends.one hKq rfl rfl (Below.refl _ _)
        · rintro _ rfl
          have hB := hB.below hbq
          refine WR.s ?_; refine WR.nil ?_; exact Ends.one hKq rfl rfl (Below.refl _ _)
      intro wq hbq
      rintro _ rfl _ rfl _ rfl _ rfl _ rfl _ rfl _ rfl _ rfl _ rfl _ rfl _ rfl _ rfl _ rfl
      refine Ends.id ?_
      have hB := hB.below hbq
      replace M := M.below hbq
      (repeat (first | (refine WR.id ?_; first | refine WR.nil ?_ | refine WR.s ?_ | refine WR.g ?_) | (refine W.id ?_; first | refine W.seq fun _ _ => ?_ | refine W.region ?_ | refine W.s ?_ | refine W.e ?_) | (refine Ends.id ?_; first | refine Ends.seq (by assumption) ?_ | refine Ends.s ?_)))
      refine WR.storeBox M.box (by rfl) (by rfl) rfl rfl (by simp) fun w2 hu2 hx2 hs2 => ?_
      replace M : Mem w2 (aBox b [.slice A xs.length c, .int .i64 ((pos + m : Nat) : Int), .int .i64 0] :: zSl 1 (.slice A xs.length c) xs.length (bvs xs) :: Os) Zs := by rw [Int.natCast_add]; exact M.setBox hu2 hx2
      clear hB
      have hB := M.box
      (repeat (first | (refine WR.id ?_; first | refine WR.nil ?_ | refine WR.s ?_ | refine WR.g ?_) | (refine W.id ?_; first | refine W.seq fun _ _ => ?_ | refine W.region ?_ | refine W.s ?_ | refine W.e ?_) | (refine Ends.id ?_; first | refine Ends.seq (by assumption) ?_ | refine Ends.s ?_)))
      refine W.keep (r := [(0, .pointer (some ⟨b, 0, none⟩)), (1, .int .i64 (m : Nat))]) (by repeat (first | exact .nil | refine .cons rfl ?_)) ?_
      have hupd0 : Upd (fun x => x = b) w w2 := (Upd.of_below hbq).trans hu2 fun _ _ h => h
      apply W.draws [[], [0], [1], [2], [], [4], [5], [6], [], [7, 8], [], [10], [11], [12], [3, 9, 13], [14]]
        [is _, is _, is _, is _, is _, is _, is _, is _, is _, is _, is _, is _, is _, is _, is _, is _] (by kernel_rfl) (by kernel_rfl) (by rfl) (by kernel_rfl) ⟨stab_is _, stab_is _, stab_is _, stab_is _, stab_is _, stab_is _, stab_is _, stab_is _, stab_is _, stab_is _, stab_is _, stab_is _, stab_is _, stab_is _, stab_is _, stab_is _, trivial⟩ ?step3 ?fin3
      case step3 =>
        refine ⟨fun wq hbq Kq hKq => ?_, fun wq hbq Kq hKq => ?_, fun wq hbq Kq hKq => ?_, fun wq hbq Kq hKq => ?_, fun wq hbq Kq hKq => ?_, fun wq hbq Kq hKq => ?_, fun wq hbq Kq hKq => ?_, fun wq hbq Kq hKq => ?_, fun wq hbq Kq hKq => ?_, fun wq hbq Kq hKq => ?_, fun wq hbq Kq hKq => ?_, fun wq hbq Kq hKq => ?_, fun wq hbq Kq hKq => ?_, fun wq hbq Kq hKq => ?_, fun wq hbq Kq hKq => ?_, fun wq hbq Kq hKq => ?_, trivial⟩
        · have hB := hB.below hbq
          refine WR.s ?_; refine WR.nil ?_; exact Ends.one hKq rfl rfl (Below.refl _ _)
        · rintro _ rfl
          have hB := hB.below hbq
          refine WR.s ?_; refine WR.nil ?_; exact Ends.one hKq rfl rfl (Below.refl _ _)
        · rintro _ rfl
          have hB := hB.below hbq
          refine WR.s ?_; refine WR.nil ?_; exact Ends.one hKq rfl rfl (Below.refl _ _)
        · rintro _ rfl
          have hB := hB.below hbq
          refine WR.s ?_; refine WR.nil ?_; exact Ends.one hKq rfl rfl (Below.refl _ _)
        · have hB := hB.below hbq
          refine WR.s ?_; refine WR.nil ?_; exact Ends.one hKq rfl rfl (Below.refl _ _)
        · rintro _ rfl
          have hB := hB.below hbq
          refine WR.s ?_; refine WR.nil ?_; exact Ends.one hKq rfl rfl (Below.refl _ _)
        · rintro _ rfl
          have hB := hB.below hbq
          refine WR.s ?_; refine WR.nil ?_; exact Ends.one hKq rfl rfl (Below.refl _ _)
        · rintro _ rfl
          have hB := hB.below hbq
          refine WR.s ?_; refine WR.nil ?_; exact Ends.one hKq rfl rfl (Below.refl _ _)
        · have hB := hB.below hbq
          refine WR.s ?_; refine WR.nil ?_; exact Ends.one hKq rfl rfl (Below.refl _ _)
        · rintro _ rfl _ rfl
          have hB := hB.below hbq
          refine WR.s ?_; refine WR.nil ?_; exact Ends.one hKq rfl rfl (Below.refl _ _)
        · have hB := hB.below hbq
          refine WR.s ?_; refine WR.nil ?_; exact Ends.one hKq rfl rfl (Below.refl _ _)
        · rintro _ rfl
          have hB := hB.below hbq
          refine WR.s ?_; refine WR.nil ?_; exact Ends.one hKq rfl rfl (Below.refl _ _)
        · rintro _ rfl
          have hB := hB.below hbq
          refine WR.s ?_; refine WR.nil ?_; exact Ends.one hKq rfl rfl (Below.refl _ _)
        · rintro _ rfl
          have hB := hB.below hbq
          refine WR.s ?_; refine WR.nil ?_; exact Ends.one hKq rfl rfl (Below.refl _ _)
        · rintro _ rfl _ rfl _ rfl
          have hB := hB.below hbq
          refine WR.slice_lh (l := pos) (h := pos + m) (by rfl) (congrArg (fun z => some (Value.int .i64 z)) (by omega)) (by rfl) (by rfl) (by omega) (by omega) ?_; refine WR.nil ?_; exact Ends.one hKq rfl rfl (Below.refl _ _)
        · rintro _ rfl
          have hB := hB.below hbq
          refine WR.s ?_; refine WR.nil ?_; exact Ends.one hKq rfl rfl (Below.refl _ _)
      intro wq hbq
      rintro _ rfl _ rfl _ rfl _ rfl _ rfl _ rfl _ rfl _ rfl _ rfl _ rfl _ rfl _ rfl _ rfl _ rfl _ rfl _ rfl
      refine Ends.id ?_
      have hB := hB.below hbq
      have M := M.below hbq
      have hupd : Upd (fun x => x = b) w wq := hupd0.trans (Upd.of_below hbq) fun _ _ h => h
      obtain ⟨Fs, -, hsl, -⟩ := M.drop.get
      have hsub := (show Bs wq Fs (.slice A xs.length c) xs from hsl).sub pos m (by omega)
      (repeat (first | (refine WR.id ?_; first | refine WR.nil ?_ | refine WR.s ?_ | refine WR.g ?_) | (refine W.id ?_; first | refine W.seq fun _ _ => ?_ | refine W.region ?_ | refine W.s ?_ | refine W.e ?_) | (refine Ends.id ?_; first | refine Ends.seq (by assumption) ?_ | refine Ends.s ?_)))
      refine Ends.ret1 rfl rfl ⟨_, rfl, ⟨Fs, ?_⟩, by rw [hT]; exact M, hupd⟩
      rw [hT]
      rw [Nat.mul_one, Nat.add_sub_cancel_left]
      exact hsub
  · have hT : Rs.take ⟨xs, pos, err⟩ n = (⟨xs, pos, err⟩, []) := by unfold Rs.take; rw [if_pos he]
    (repeat (first | (refine WR.id ?_; first | refine WR.nil ?_ | refine WR.s ?_ | refine WR.g ?_) | (refine W.id ?_; first | refine W.seq fun _ _ => ?_ | refine W.region ?_ | refine W.s ?_ | refine W.e ?_) | (refine Ends.id ?_; first | refine Ends.seq (by assumption) ?_ | refine Ends.s ?_)))
    exact Ends.ret1 rfl rfl ⟨_, rfl, by rw [hT]; exact ⟨fun _ => False, Sl.nil _ _ _⟩, by rw [hT]; exact M, Upd.refl _ _⟩
set_option maxHeartbeats 400000 in
theorem raw_M (M : Mem w (aRd b r :: Os) Zs) (n : Int) (hn : -9223372036854775808 ≤ n ∧ n ≤ 9223372036854775807) :
    Calls Try.prog 69 #[.pointer (some ⟨b, 0, none⟩), .int .i64 n] w fun e w' => ∃ v', e = .returned v' ∧ Mem w' (zSl 1 v' (r.take n).2.length (bvs (r.take n).2) :: aRd b (r.take n).1 :: Os) Zs ∧ Upd (fun x => x = b) w w' := by
  obtain ⟨hr, v, M⟩ := M.rd
  have hl := Rs.take_len r n hr.2.1
  refine enter Try.func69 rfl Try.ntmps69 rfl rfl ?_
  (repeat (first | (refine WR.id ?_; first | refine WR.nil ?_ | refine WR.s ?_ | refine WR.g ?_) | (refine W.id ?_; first | refine W.seq fun _ _ => ?_ | refine W.region ?_ | refine W.s ?_ | refine W.e ?_) | (refine Ends.id ?_; first | refine Ends.seq (by assumption) ?_ | refine Ends.s ?_)))
  refine WR.call rfl rfl (take_M hr M n hn) ?_
  rintro _ w1 ⟨v1, rfl, ⟨F, hbs⟩, M, hu⟩
  refine ⟨_, rfl, ?_⟩
  (repeat (first | (refine WR.id ?_; first | refine WR.nil ?_ | refine WR.s ?_ | refine WR.g ?_) | (refine W.id ?_; first | refine W.seq fun _ _ => ?_ | refine W.region ?_ | refine W.s ?_ | refine W.e ?_) | (refine Ends.id ?_; first | refine Ends.seq (by assumption) ?_ | refine Ends.s ?_)))
  refine WR.call rfl rfl (clone_any _ _ _ _ hbs (by omega)) ?_
  rintro _ w2 ⟨v2, rfl, ho, hb⟩
  refine ⟨_, rfl, ?_⟩
  rw [← Rs.take_xs (r := r) n] at M
  (repeat (first | (refine WR.id ?_; first | refine WR.nil ?_ | refine WR.s ?_ | refine WR.g ?_) | (refine W.id ?_; first | refine W.seq fun _ _ => ?_ | refine W.region ?_ | refine W.s ?_ | refine W.e ?_) | (refine Ends.id ?_; first | refine Ends.seq (by assumption) ?_ | refine Ends.s ?_)))
  exact Ends.ret1 rfl rfl ⟨_, rfl, (Mem.mkRd (Rs.take_ok hr n) M).newBs hb ho (Nat.le_refl _), hu.trans (Upd.of_below hb) fun _ _ h => h⟩
theorem shl_run {P : Program} {t : TypeId} {w : World} (q : Nat) (hq : q < 72057594037927936) : (binOp .shl t (.int .u64 (q : Nat)) (.int .u64 8)).run P w = .ok (.int .u64 ((q * 256 : Nat) : Int)) w := by
  have h : IntKind.u64.wrap ((q : Int) * 256) = ((q * 256 : Nat) : Int) := by rw [IntKind.wrap_u64]; omega
  rw [binOp_shl]
  simp [Op.shift, h, go_sem]
theorem or_run {P : Program} {t : TypeId} {w : World} (q : Nat) (c : UInt8) (hq : q < 72057594037927936) : (binOp .or t (.int .u64 ((q * 256 : Nat) : Int)) (.int .u64 (c.toNat : Int))).run P w = .ok (.int .u64 ((q * 256 + c.toNat : Nat) : Int)) w := by
  rw [binOp_or, ← or_u64 q c hq]
  simp; rfl
theorem conv_u8 (c : UInt8) : IntKind.u64.wrap (c.toNat : Int) = (c.toNat : Int) := by
  have := c.toNat_lt
  simp only [Nat.reducePow] at this
  rw [IntKind.wrap_u64]; omega
set_option maxHeartbeats 1000000 in
theorem number_M (M : Mem w (aRd b r :: Os) Zs) (n : Nat) (hn : n ≤ 8) :
    Calls Try.prog 68 #[.pointer (some ⟨b, 0, none⟩), .int .i64 n] w fun e w' => e = .returned (.int .u64 (num (r.take n).2 : Nat)) ∧ Mem w' (aRd b (r.take n).1 :: Os) Zs ∧ Upd (fun x => x = b) w w' := by
  have hl : (r.take n).2.length ≤ 8 := Nat.le_trans (r.take_at n) hn
  refine enter Try.func68 rfl Try.ntmps68 rfl rfl ?_
  (repeat (first | (refine WR.id ?_; first | refine WR.nil ?_ | refine WR.s ?_ | refine WR.g ?_) | (refine W.id ?_; first | refine W.seq fun _ _ => ?_ | refine W.region ?_ | refine W.s ?_ | refine W.e ?_) | (refine Ends.id ?_; first | refine Ends.seq (by assumption) ?_ | refine Ends.s ?_)))
  refine WR.call rfl rfl (raw_M M n (by omega)) ?_
  rintro _ w1 ⟨v1, rfl, M, hu⟩
  refine ⟨_, rfl, ?_⟩
  generalize r.take n = p at *
  obtain ⟨r', xs⟩ := p
  dsimp only at *
  obtain ⟨F, hbs⟩ := M.bs
  obtain ⟨A, c, rfl, l1, l2, -⟩ := hbs.open_
  (repeat (first | (refine WR.id ?_; first | refine WR.nil ?_ | refine WR.s ?_ | refine WR.g ?_) | (refine W.id ?_; first | refine W.seq fun _ _ => ?_ | refine W.region ?_ | refine W.s ?_ | refine W.e ?_) | (refine Ends.id ?_; first | refine Ends.seq (by assumption) ?_ | refine Ends.s ?_)))
  refine W.loop (X := Nat) (fun k => [(5, .int .u64 (num (xs.take k) : Nat)), (10, .slice A xs.length c), (11, .int .i64 (xs.length : Nat)), (12, .int .i64 (k : Nat))]) (fun k wr => k ≤ xs.length ∧ wr = w1) (fun k => xs.length - k) 0 (by repeat (first | exact .nil | refine .cons rfl ?_)) ⟨Nat.zero_le _, rfl⟩ ?_
  rintro k wr ⟨hk, rfl⟩ K hK
  (repeat (first | (refine WR.id ?_; first | refine WR.nil ?_ | refine WR.s ?_ | refine WR.g ?_) | (refine W.id ?_; first | refine W.seq fun _ _ => ?_ | refine W.region ?_ | refine W.s ?_ | refine W.e ?_) | (refine Ends.id ?_; first | refine Ends.seq (by assumption) ?_ | refine Ends.s ?_)))
  refine W.condP (by rfl) (fun hlt => ?_) (fun hlt => ?_)
  · have hkl : k < xs.length := by omega
    obtain ⟨ba, oa, hA, -, -, hcc⟩ := Sl.cells hbs (by omega) (by decide)
    subst hA
    have hx := hcc k (.int .u8 (xs[k].toNat : Int)) (by simp [bvs, bv, List.getElem?_eq_getElem hkl])
    have hnl := num_lt (xs.take k)
    rw [List.length_take_of_le hk] at hnl
    have hp : 256 ^ k ≤ 256 ^ 7 := Nat.pow_le_pow_right (by decide) (by omega)
    have hq : num (xs.take k) < 72057594037927936 := Nat.lt_of_lt_of_le hnl (Nat.le_trans hp (by decide))
    have hsn := num_snoc (xs.take k) xs[k]
    rw [← take_snoc xs k hkl] at hsn
    (repeat (first | (refine WR.id ?_; first | refine WR.nil ?_ | refine WR.s ?_ | refine WR.g ?_) | (refine W.id ?_; first | refine W.seq fun _ _ => ?_ | refine W.region ?_ | refine W.s ?_ | refine W.e ?_) | (refine Ends.id ?_; first | refine Ends.seq (by assumption) ?_ | refine Ends.s ?_)))
    refine WR.indexAddr (j := k) (by rfl) (by rfl) (by rfl) (by omega) ?_
    rw [Nat.mul_one]
    refine WR.load (by rfl) hx (by rfl) ?_
    (repeat (first | (refine WR.id ?_; first | refine WR.nil ?_ | refine WR.s ?_ | refine WR.g ?_) | (refine W.id ?_; first | refine W.seq fun _ _ => ?_ | refine W.region ?_ | refine W.s ?_ | refine W.e ?_) | (refine Ends.id ?_; first | refine Ends.seq (by assumption) ?_ | refine Ends.s ?_)))
    refine WR.bin (by rfl) (by rfl) (by rfl) guard_int (shl_run _ hq) ?_
    (repeat (first | (refine WR.id ?_; first | refine WR.nil ?_ | refine WR.s ?_ | refine WR.g ?_) | (refine W.id ?_; first | refine W.seq fun _ _ => ?_ | refine W.region ?_ | refine W.s ?_ | refine W.e ?_) | (refine Ends.id ?_; first | refine Ends.seq (by assumption) ?_ | refine Ends.s ?_)))
    rw [conv_u8]
    refine WR.bin (by rfl) (by rfl) (by rfl) guard_int (or_run _ _ hq) ?_
    (repeat (first | (refine WR.id ?_; first | refine WR.nil ?_ | refine WR.s ?_ | refine WR.g ?_) | (refine W.id ?_; first | refine W.seq fun _ _ => ?_ | refine W.region ?_ | refine W.s ?_ | refine W.e ?_) | (refine Ends.id ?_; first | refine Ends.seq (by assumption) ?_ | refine Ends.s ?_)))
    rw [← hsn]
    exact Ends.round hK (k + 1) (by repeat (first | exact .nil | refine .cons rfl ?_)) ⟨by omega, rfl⟩ (by omega)
  · obtain rfl : k = xs.length := by omega
    rw [List.take_length]
    (repeat (first | (refine WR.id ?_; first | refine WR.nil ?_ | refine WR.s ?_ | refine WR.g ?_) | (refine W.id ?_; first | refine W.seq fun _ _ => ?_ | refine W.region ?_ | refine W.s ?_ | refine W.e ?_) | (refine Ends.id ?_; first | refine Ends.seq (by assumption) ?_ | refine Ends.s ?_)))
    exact Ends.ret1 rfl rfl ⟨rfl, M.drop, hu⟩
theorem u8_M (M : Mem w (aRd b r :: Os) Zs) :
    Calls Try.prog 59 #[.pointer (some ⟨b, 0, none⟩)] w fun e w' => e = .returned (.int .u8 (num (r.take 1).2 : Nat)) ∧ Mem w' (aRd b (r.take 1).1 :: Os) Zs ∧ Upd (fun x => x = b) w w' := by
  have hnum : num (r.take 1).2 < 256 := Rs.num_lt r 1
  refine enter Try.func59 rfl Try.ntmps59 rfl rfl ?_
  (repeat (first | (refine WR.id ?_; first | refine WR.nil ?_ | refine WR.s ?_ | refine WR.g ?_) | (refine W.id ?_; first | refine W.seq fun _ _ => ?_ | refine W.region ?_ | refine W.s ?_ | refine W.e ?_) | (refine Ends.id ?_; first | refine Ends.seq (by assumption) ?_ | refine Ends.s ?_)))
  refine WR.call rfl rfl (number_M M 1 (by decide)) ?_
  rintro _ w1 ⟨rfl, M, hu⟩
  refine ⟨_, rfl, ?_⟩
  (repeat (first | (refine WR.id ?_; first | refine WR.nil ?_ | refine WR.s ?_ | refine WR.g ?_) | (refine W.id ?_; first | refine W.seq fun _ _ => ?_ | refine W.region ?_ | refine W.s ?_ | refine W.e ?_) | (refine Ends.id ?_; first | refine Ends.seq (by assumption) ?_ | refine Ends.s ?_)))
  exact Ends.ret1 rfl rfl ⟨by rw [show IntKind.u8.wrap ((num (r.take (1 : Nat)).2 : Nat) : Int) = ((num (r.take 1).2 : Nat) : Int) from by simp only [IntKind.wrap, IntKind.bits, IntKind.signed]; simp; omega], M, hu⟩
theorem u16_M (M : Mem w (aRd b r :: Os) Zs) :
    Calls Try.prog 52 #[.pointer (some ⟨b, 0, none⟩)] w fun e w' => e = .returned (.int .u16 (num (r.take 2).2 : Nat)) ∧ Mem w' (aRd b (r.take 2).1 :: Os) Zs ∧ Upd (fun x => x = b) w w' := by
  have hnum : num (r.take 2).2 < 65536 := Rs.num_lt r 2
  refine enter Try.func52 rfl Try.ntmps52 rfl rfl ?_
  (repeat (first | (refine WR.id ?_; first | refine WR.nil ?_ | refine WR.s ?_ | refine WR.g ?_) | (refine W.id ?_; first | refine W.seq fun _ _ => ?_ | refine W.region ?_ | refine W.s ?_ | refine W.e ?_) | (refine Ends.id ?_; first | refine Ends.seq (by assumption) ?_ | refine Ends.s ?_)))
  refine WR.call rfl rfl (number_M M 2 (by decide)) ?_
  rintro _ w1 ⟨rfl, M, hu⟩
  refine ⟨_, rfl, ?_⟩
  (repeat (first | (refine WR.id ?_; first | refine WR.nil ?_ | refine WR.s ?_ | refine WR.g ?_) | (refine W.id ?_; first | refine W.seq fun _ _ => ?_ | refine W.region ?_ | refine W.s ?_ | refine W.e ?_) | (refine Ends.id ?_; first | refine Ends.seq (by assumption) ?_ | refine Ends.s ?_)))
  exact Ends.ret1 rfl rfl ⟨by rw [show IntKind.u16.wrap ((num (r.take (2 : Nat)).2 : Nat) : Int) = ((num (r.take 2).2 : Nat) : Int) from by simp only [IntKind.wrap, IntKind.bits, IntKind.signed]; simp; omega], M, hu⟩
theorem err_M (M : Mem w (aRd b r :: Os) Zs) :
    Calls Try.prog 53 #[.pointer (some ⟨b, 0, none⟩)] w fun e w' => e = .returned (.int .i64 r.err) ∧ w' = w := by
  obtain ⟨hr, v, M⟩ := M.rd
  have hB := M.box
  refine enter Try.func53 rfl Try.ntmps53 rfl rfl ?_
  (repeat (first | (refine WR.id ?_; first | refine WR.nil ?_ | refine WR.s ?_ | refine WR.g ?_) | (refine W.id ?_; first | refine W.seq fun _ _ => ?_ | refine W.region ?_ | refine W.s ?_ | refine W.e ?_) | (refine Ends.id ?_; first | refine Ends.seq (by assumption) ?_ | refine Ends.s ?_)))
  exact Ends.ret1 rfl rfl ⟨rfl, rfl⟩
theorem left_M (M : Mem w (aRd b r :: Os) Zs) :
    Calls Try.prog 56 #[.pointer (some ⟨b, 0, none⟩)] w fun e w' => e = .returned (.int .i64 (r.xs.length - r.pos)) ∧ Below w.heap.size w w' := by
  obtain ⟨⟨h1, h2, h3⟩, v, M⟩ := M.rd
  obtain ⟨_, hbs⟩ := M.drop.bs
  obtain ⟨A, c, rfl, l1, l2, -⟩ := hbs.open_
  have hB := M.box
  refine enter Try.func56 rfl Try.ntmps56 rfl rfl ?_
  (repeat (first | (refine WR.id ?_; first | refine WR.nil ?_ | refine WR.s ?_ | refine WR.g ?_) | (refine W.id ?_; first | refine W.seq fun _ _ => ?_ | refine W.region ?_ | refine W.s ?_ | refine W.e ?_) | (refine Ends.id ?_; first | refine Ends.seq (by assumption) ?_ | refine Ends.s ?_)))
  refine W.keep (r := [(0, .pointer (some ⟨b, 0, none⟩))]) (by repeat (first | exact .nil | refine .cons rfl ?_)) ?_
  apply W.draws [[], [0], [1], [2], [3], [4], [], [6], [7], [8], [9], [5, 10], [11]]
    [is _, is _, is _, is _, is _, is _, is _, is _, is _, is _, is _, is _, is _] (by kernel_rfl) (by kernel_rfl) (by rfl) (by kernel_rfl) ⟨stab_is _, stab_is _, stab_is _, stab_is _, stab_is _, stab_is _, stab_is _, stab_is _, stab_is _, stab_is _, stab_is _, stab_is _, stab_is _, trivial⟩ ?step4 ?fin4
  case step4 =>
    refine ⟨fun wq hbq Kq hKq => ?_, fun wq hbq Kq hKq => ?_, fun wq hbq Kq hKq => ?_, fun wq hbq Kq hKq => ?_, fun wq hbq Kq hKq => ?_, fun wq hbq Kq hKq => ?_, fun wq hbq Kq hKq => ?_, fun wq hbq Kq hKq => ?_, fun wq hbq Kq hKq => ?_, fun wq hbq Kq hKq => ?_, fun wq hbq Kq hKq => ?_, fun wq hbq Kq hKq => ?_, fun wq hbq Kq hKq => ?_, trivial⟩
    · have hB := hB.below hbq
      refine WR.s ?_; refine WR.nil ?_; exact Ends.one hKq rfl rfl (Below.refl _ _)
    · rintro _ rfl
      have hB := hB.below hbq
      refine WR.s ?_; refine WR.nil ?_; exact Ends.one hKq rfl rfl (Below.refl _ _)
    · rintro _ rfl
      have hB := hB.below hbq
      refine WR.s ?_; refine WR.nil ?_; exact Ends.one hKq rfl rfl (Below.refl _ _)
    · rintro _ rfl
      have hB := hB.below hbq
      refine WR.s ?_; refine WR.nil ?_; exact Ends.one hKq rfl rfl (Below.refl _ _)
    · rintro _ rfl
      have hB := hB.below hbq
      refine WR.s ?_; refine WR.nil ?_; exact Ends.one hKq rfl rfl (Below.refl _ _)
    · rintro _ rfl
      have hB := hB.below hbq
      refine WR.s ?_; refine WR.nil ?_; exact Ends.one hKq rfl rfl (Below.refl _ _)
    · have hB := hB.below hbq
      refine WR.s ?_; refine WR.nil ?_; exact Ends.one hKq rfl rfl (Below.refl _ _)
    · rintro _ rfl
      have hB := hB.below hbq
      refine WR.s ?_; refine WR.nil ?_; exact Ends.one hKq rfl rfl (Below.refl _ _)
    · rintro _ rfl
      have hB := hB.below hbq
      refine WR.s ?_; refine WR.nil ?_; exact Ends.one hKq rfl rfl (Below.refl _ _)
    · rintro _ rfl
      have hB := hB.below hbq
      refine WR.s ?_; refine WR.nil ?_; exact Ends.one hKq rfl rfl (Below.refl _ _)
    · rintro _ rfl
      have hB := hB.below hbq
      refine WR.s ?_; refine WR.nil ?_; exact Ends.one hKq rfl rfl (Below.refl _ _)
    · rintro _ rfl _ rfl
      have hB := hB.below hbq
      refine WR.s ?_; refine WR.nil ?_; exact Ends.one hKq rfl rfl (Below.refl _ _)
    · rintro _ rfl
      have hB := hB.below hbq
      refine WR.s ?_; refine WR.nil ?_; exact Ends.one hKq rfl rfl (Below.refl _ _)
  intro wq hbq
  rintro _ rfl _ rfl _ rfl _ rfl _ rfl _ rfl _ rfl _ rfl _ rfl _ rfl _ rfl _ rfl _ rfl
  refine Ends.id ?_
  have hB := hB.below hbq
  (repeat (first | (refine WR.id ?_; first | refine WR.nil ?_ | refine WR.s ?_ | refine WR.g ?_) | (refine W.id ?_; first | refine W.seq fun _ _ => ?_ | refine W.region ?_ | refine W.s ?_ | refine W.e ?_) | (refine Ends.id ?_; first | refine Ends.seq (by assumption) ?_ | refine Ends.s ?_)))
  exact Ends.ret1 rfl rfl ⟨rfl, hbq⟩
end
end Go.Proofs.Ytjgobljclodpfaa
