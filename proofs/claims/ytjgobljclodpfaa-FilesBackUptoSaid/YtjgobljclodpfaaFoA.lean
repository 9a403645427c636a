/- Layer 5's operations as bytes: which may be encoded. No condition beyond sizes. -/
import Derived.Test.YtjgobljclodpfaaFcA
import Derived.Test.YtjgobljclodpfaaFr1
namespace Go.Proofs.Ytjgobljclodpfaa
open Go.RowKit Go.Shelf K L E
set_option linter.unusedVariables false
set_option linter.unusedSimpArgs false

/-- May an operation be encoded? -/
def okOp (o : FO) : Bool := decide (1 ≤ o.kind ∧ o.kind ≤ 4) && nmOk o.name && decide (o.bytes.length ≤ 4096) && decide (0 ≤ o.at_ ∧ o.at_ ≤ 4096) &&
  (if o.kind = 3 then nmOk o.new && decide (o.at_ = 0) && decide (o.bytes.length = 0) else ([] == o.new) && (decide (o.kind = 2) || decide (o.at_ = 0)) && (decide (o.kind ≠ 4) || decide (o.bytes.length = 0)))
theorem build_op2 (k : Int) (s : ByteArray) (w : World) : (Instr.build 37 #[(0, .int .i64 k), (1, .string s)]).run Try.prog w = .ok (.agg #[.int .i64 k, .string s, .string ⟨#[]⟩, .int .i64 0, .slice none 0 0]) w := by kernel_rfl
theorem op_one {k a : Int} {s t : ByteArray} {A : Option Addr} {n c : Nat} : ∀ u ∈ [Value.int .i64 k, .string s, .string t, .int .i64 a, .slice A n c], u.oneCell' = true := by
  intro u hu; simp only [List.mem_cons, List.not_mem_nil, or_false] at hu; rcases hu with rfl | rfl | rfl | rfl | rfl <;> rfl

set_option maxRecDepth 100000 in
set_option maxHeartbeats 8000000 in
theorem may_any (kind : Int) (name new : List UInt8) (at_ : Int) (bytes : List UInt8) (A : Option Addr) (c : Nat) (w : World) (hs1 : bytes.length ≤ 1048576) (hs2 : name.length ≤ 1048576) (hs3 : new.length ≤ 1048576) (ha : -9223372036854775808 ≤ at_ ∧ at_ ≤ 9223372036854775807) (hkd : -9223372036854775808 ≤ kind ∧ kind ≤ 9223372036854775807) :
    Calls Try.prog 58 #[.agg #[.int .i64 kind, .string ⟨name.toArray⟩, .string ⟨new.toArray⟩, .int .i64 at_, .slice A bytes.length c]] w fun e w' => e = .returned (.bool (okOp ⟨kind, name, new, at_, bytes⟩)) ∧ Below w.heap.size w w' := by
  have M := Mem.start w
  refine enter Try.func58 rfl Try.ntmps58 rfl rfl ?_
  (repeat (first | (refine WR.id ?_; first | refine WR.nil ?_ | refine WR.s ?_ | refine WR.g ?_) | (refine W.id ?_; first | refine W.seq fun _ _ => ?_ | refine W.region ?_ | refine W.s ?_ | refine W.e ?_) | (refine Ends.id ?_; first | refine Ends.seq (by assumption) ?_ | refine Ends.s ?_)))
  refine WR.box rfl (cs := #[.int .i64 kind, .string ⟨name.toArray⟩, .string ⟨new.toArray⟩, .int .i64 at_, .slice A bytes.length c]) rfl rfl fun w1 hb1 hx1 hs1 => ?_
  replace M := (M.newBox (cs := [.int .i64 kind, .string ⟨name.toArray⟩, .string ⟨new.toArray⟩, .int .i64 at_, .slice A bytes.length c]) hb1 hx1).freeze
  have hB := M.zbox 0 rfl
  (repeat (first | (refine WR.id ?_; first | refine WR.nil ?_ | refine WR.s ?_ | refine WR.g ?_) | (refine W.id ?_; first | refine W.seq fun _ _ => ?_ | refine W.region ?_ | refine W.s ?_ | refine W.e ?_) | (refine Ends.id ?_; first | refine Ends.seq (by assumption) ?_ | refine Ends.s ?_)))
  refine WR.buildL (vs := [(0, .int .i64 kind), (1, .string ⟨name.toArray⟩)]) (by rfl) (by rfl) (build_op2 _ _ _) ?_
  refine WR.allocStore (c := #[.int .i64 kind, .string ⟨name.toArray⟩, .string ⟨#[]⟩, .int .i64 0, .slice none 0 0]) (by rfl) (by rfl) rfl (by rfl) (by rfl) (all_oneCell_toArray op_one) (by rfl) fun w2 hb2 hx2 hs2 => ?_
  replace M := M.newBox (cs := [.int .i64 kind, .string ⟨name.toArray⟩, .string ⟨#[]⟩, .int .i64 0, .slice none 0 0]) hb2 hx2
  generalize w1.heap.size = b3 at M ⊢
  clear hx1 hx2 hB
  have hB := M.zbox 0 rfl
  have hB3 := M.box
  have hnn : (new == new) = true := beq_self_eq_true new
  by_cases k1 : kind = 1
  · subst k1
    (repeat (first | (refine WR.id ?_; first | refine WR.nil ?_ | refine WR.s ?_ | refine WR.g ?_) | (refine W.id ?_; first | refine W.seq fun _ _ => ?_ | refine W.region ?_ | refine W.s ?_ | refine W.e ?_) | (refine Ends.id ?_; first | refine Ends.seq (by assumption) ?_ | refine Ends.s ?_)))
    refine WR.storeBox M.box (by rfl) (by rfl) rfl rfl (by simp) fun w3 hu3 hx3 hs3 => ?_
    replace M := M.setBox hu3 hx3
    clear hB hB3 hx3
    have hB := M.zbox 0 rfl
    have hB3 := M.box
    (repeat (first | (refine WR.id ?_; first | refine WR.nil ?_ | refine WR.s ?_ | refine WR.g ?_) | (refine W.id ?_; first | refine W.seq fun _ _ => ?_ | refine W.region ?_ | refine W.s ?_ | refine W.e ?_) | (refine Ends.id ?_; first | refine Ends.seq (by assumption) ?_ | refine Ends.s ?_)))
    refine WR.call rfl rfl (name_any name _ (by omega)) ?_
    rintro _ _ ⟨rfl, rfl⟩
    refine ⟨_, rfl, ?_⟩
    rcases (by cases nmOk name <;> cases ([] == new) <;> by_cases at_ = 0 <;> by_cases bytes.length ≤ 4096 <;> simp_all : nmOk name = false ∨ (nmOk name = true ∧ at_ ≠ 0) ∨ (nmOk name = true ∧ at_ = 0 ∧ ([] == new) = false) ∨ (nmOk name = true ∧ at_ = 0 ∧ ([] == new) = true ∧ ¬ bytes.length ≤ 4096) ∨ (nmOk name = true ∧ at_ = 0 ∧ ([] == new) = true ∧ bytes.length ≤ 4096)) with h1 | ⟨h1, h2⟩ | ⟨h1, h2, h3⟩ | ⟨h1, h2, h3, h4⟩ | ⟨h1, h2, h3, h4⟩
    all_goals
      rw [h1]
      (repeat (first | (refine WR.id ?_; first | refine WR.nil ?_ | refine WR.s ?_ | refine WR.g ?_) | (refine W.id ?_; first | refine W.seq fun _ _ => ?_ | refine W.region ?_ | refine W.s ?_ | refine W.e ?_) | (refine Ends.id ?_; first | refine Ends.seq (by assumption) ?_ | refine Ends.s ?_)))
      exact Ends.ret1 rfl rfl ⟨by simp_all [okOp] <;> omega, M.pre 1 rfl⟩
  by_cases k2 : kind = 2
  · subst k2
    have hb3 := hB3.lt
    (repeat (first | (refine WR.id ?_; first | refine WR.nil ?_ | refine WR.s ?_ | refine WR.g ?_) | (refine W.id ?_; first | refine W.seq fun _ _ => ?_ | refine W.region ?_ | refine W.s ?_ | refine W.e ?_) | (refine Ends.id ?_; first | refine Ends.seq (by assumption) ?_ | refine Ends.s ?_)))
    apply W.draws3To 6 [5] [[], [0], [], [2], [], [4, 1]] [(0, 1), (0, 1), (0, 2), (0, 2), (0, 1), (0, 1)]
      [is _, is _, is _, is _, is _, fun _ _ => True] (fun | [] => (fun u => Mem u [aBox b3 [.int .i64 2, .string ⟨name.toArray⟩, .string ⟨#[]⟩, .int .i64 0, .slice none 0 0]] [aBox w.heap.size [.int .i64 2, .string ⟨name.toArray⟩, .string ⟨new.toArray⟩, .int .i64 at_, .slice A bytes.length c], zPre w]) | [u0] => (fun u => Mem u [aBox b3 [.int .i64 2, .string ⟨name.toArray⟩, .string ⟨#[]⟩, .int .i64 at_, .slice none 0 0]] [aBox w.heap.size [.int .i64 2, .string ⟨name.toArray⟩, .string ⟨new.toArray⟩, .int .i64 at_, .slice A bytes.length c], zPre w]) | _ => (fun u => True)) (by kernel_rfl) (by kernel_rfl) (by rfl) (by kernel_rfl) (by kernel_rfl) (by rfl) (by rfl) (by kernel_rfl) ⟨stab3_is _ _, stab3_is _ _, stab3_is _ _, stab3_is _ _, stab3_is _ _, fun _ _ _ _ _ => trivial, trivial⟩ (fun vs u u' h hb => (by rcases vs with _ | ⟨a, _ | ⟨a2, r⟩⟩ <;> first | exact Mem.below h hb | trivial)) (M) ?step3 ?fin3
    case step3 =>
      refine ⟨⟨fun wq huq hjq Kq hKq => ?_, trivial⟩, ⟨fun wq huq hjq Kq hKq => ?_, trivial⟩, ⟨fun wq huq hjq Kq hKq => ?_, fun u0 wq huq hjq Kq hKq => ?_, trivial⟩, ⟨fun wq huq hjq Kq hKq => ?_, fun u0 wq huq hjq Kq hKq => ?_, trivial⟩, ⟨fun wq huq hjq Kq hKq => ?_, trivial⟩, ⟨fun wq huq hjq Kq hKq => ?_, trivial⟩, trivial⟩
      · have hBq := hjq.zbox 0 rfl
        refine WR.s ?_; refine WR.nil ?_; exact Ends.one hKq rfl rfl (Below.refl _ _)
      · rintro _ rfl
        have hBq := hjq.zbox 0 rfl
        refine WR.s ?_; refine WR.nil ?_; exact Ends.one hKq rfl rfl (Below.refl _ _)
      · have hBq := hjq.zbox 0 rfl
        refine WR.s ?_; refine WR.nil ?_; exact Ends.one hKq rfl rfl (Below.refl _ _)
      · have hBq := hjq.zbox 0 rfl
        refine WR.s ?_; refine WR.nil ?_; exact Ends.one hKq rfl rfl (Below.refl _ _)
      · rintro _ rfl
        have hBq := hjq.zbox 0 rfl
        refine WR.s ?_; refine WR.nil ?_; exact Ends.one hKq rfl rfl (Below.refl _ _)
      · rintro _ rfl
        have hBq := hjq.zbox 0 rfl
        refine WR.s ?_; refine WR.nil ?_; exact Ends.one hKq rfl rfl (Below.refl _ _)
      · have hBq := hjq.zbox 0 rfl
        refine WR.s ?_; refine WR.nil ?_; exact Ends.one hKq rfl rfl (Below.refl _ _)
      · rintro _ rfl _ rfl
        have hBq := hjq.zbox 0 rfl
        refine WR.storeBox hjq.box (by rfl) (by rfl) rfl rfl (by simp) fun wy hu hx2 _ => ?_; refine WR.nil ?_; exact Ends.oneM0 hKq undef (hjq.setBox hu hx2) (hu.mono fun x _ hx => by omega)
    intro u0 wq huq hjq
    rintro _ rfl _ rfl _ rfl _ rfl _ rfl
    have hBq := hjq.zbox 0 rfl
    refine WR.id ?_
    clear hB hB3 M
    (repeat (first | (refine WR.id ?_; first | refine WR.nil ?_ | refine WR.s ?_ | refine WR.g ?_) | (refine W.id ?_; first | refine W.seq fun _ _ => ?_ | refine W.region ?_ | refine W.s ?_ | refine W.e ?_) | (refine Ends.id ?_; first | refine Ends.seq (by assumption) ?_ | refine Ends.s ?_)))
    refine WR.storeBox hjq.box (by rfl) (by rfl) rfl rfl (by simp) fun w3 hu3 hx3 hs3 => ?_
    have M := hjq.setBox hu3 hx3
    clear hx3
    have hB := M.zbox 0 rfl
    have hB3 := M.box
    (repeat (first | (refine WR.id ?_; first | refine WR.nil ?_ | refine WR.s ?_ | refine WR.g ?_) | (refine W.id ?_; first | refine W.seq fun _ _ => ?_ | refine W.region ?_ | refine W.s ?_ | refine W.e ?_) | (refine Ends.id ?_; first | refine Ends.seq (by assumption) ?_ | refine Ends.s ?_)))
    refine WR.call rfl rfl (name_any name _ (by omega)) ?_
    rintro _ _ ⟨rfl, rfl⟩
    refine ⟨_, rfl, ?_⟩
    rcases (by cases nmOk name <;> cases ([] == new) <;> by_cases bytes.length ≤ 4096 <;> by_cases 0 ≤ at_ <;> by_cases at_ ≤ 4096 <;> simp_all : nmOk name = false ∨ (nmOk name = true ∧ ([] == new) = false) ∨ (nmOk name = true ∧ ([] == new) = true ∧ ¬ bytes.length ≤ 4096) ∨ (nmOk name = true ∧ ([] == new) = true ∧ bytes.length ≤ 4096 ∧ ¬ 0 ≤ at_) ∨ (nmOk name = true ∧ ([] == new) = true ∧ bytes.length ≤ 4096 ∧ 0 ≤ at_ ∧ ¬ at_ ≤ 4096) ∨ (nmOk name = true ∧ ([] == new) = true ∧ bytes.length ≤ 4096 ∧ 0 ≤ at_ ∧ at_ ≤ 4096)) with h1 | ⟨h1, h2⟩ | ⟨h1, h2, h3⟩ | ⟨h1, h2, h3, h4⟩ | ⟨h1, h2, h3, h4, h5⟩ | ⟨h1, h2, h3, h4, h5⟩
    all_goals
      rw [h1]
      (repeat (first | (refine WR.id ?_; first | refine WR.nil ?_ | refine WR.s ?_ | refine WR.g ?_) | (refine W.id ?_; first | refine W.seq fun _ _ => ?_ | refine W.region ?_ | refine W.s ?_ | refine W.e ?_) | (refine Ends.id ?_; first | refine Ends.seq (by assumption) ?_ | refine Ends.s ?_)))
      exact Ends.ret1 rfl rfl ⟨by simp_all [okOp] <;> omega, M.pre 1 rfl⟩
  by_cases k3 : kind = 3
  · subst k3
    (repeat (first | (refine WR.id ?_; first | refine WR.nil ?_ | refine WR.s ?_ | refine WR.g ?_) | (refine W.id ?_; first | refine W.seq fun _ _ => ?_ | refine W.region ?_ | refine W.s ?_ | refine W.e ?_) | (refine Ends.id ?_; first | refine Ends.seq (by assumption) ?_ | refine Ends.s ?_)))
    refine WR.storeBox M.box (by rfl) (by rfl) rfl rfl (by simp) fun w3 hu3 hx3 hs3 => ?_
    replace M := M.setBox hu3 hx3
    clear hB hB3 hx3
    have hB := M.zbox 0 rfl
    have hB3 := M.box
    (repeat (first | (refine WR.id ?_; first | refine WR.nil ?_ | refine WR.s ?_ | refine WR.g ?_) | (refine W.id ?_; first | refine W.seq fun _ _ => ?_ | refine W.region ?_ | refine W.s ?_ | refine W.e ?_) | (refine Ends.id ?_; first | refine Ends.seq (by assumption) ?_ | refine Ends.s ?_)))
    refine WR.call rfl rfl (name_any new _ (by omega)) ?_
    rintro _ _ ⟨rfl, rfl⟩
    refine ⟨_, rfl, ?_⟩
    by_cases h0 : nmOk new = true
    · rw [h0]
      (repeat (first | (refine WR.id ?_; first | refine WR.nil ?_ | refine WR.s ?_ | refine WR.g ?_) | (refine W.id ?_; first | refine W.seq fun _ _ => ?_ | refine W.region ?_ | refine W.s ?_ | refine W.e ?_) | (refine Ends.id ?_; first | refine Ends.seq (by assumption) ?_ | refine Ends.s ?_)))
      refine WR.call rfl rfl (name_any name _ (by omega)) ?_
      rintro _ _ ⟨rfl, rfl⟩
      refine ⟨_, rfl, ?_⟩
      rcases (by cases nmOk name <;> by_cases bytes.length = 0 <;> by_cases at_ = 0 <;> simp_all : nmOk name = false ∨ (nmOk name = true ∧ ¬ bytes.length = 0) ∨ (nmOk name = true ∧ bytes.length = 0 ∧ ¬ at_ = 0) ∨ (nmOk name = true ∧ bytes.length = 0 ∧ at_ = 0)) with h1 | ⟨h1, h2⟩ | ⟨h1, h2, h3⟩ | ⟨h1, h2, h3⟩
      all_goals
        rw [h1]
        (repeat (first | (refine WR.id ?_; first | refine WR.nil ?_ | refine WR.s ?_ | refine WR.g ?_) | (refine W.id ?_; first | refine W.seq fun _ _ => ?_ | refine W.region ?_ | refine W.s ?_ | refine W.e ?_) | (refine Ends.id ?_; first | refine Ends.seq (by assumption) ?_ | refine Ends.s ?_)))
        exact Ends.ret1 rfl rfl ⟨by simp_all [okOp] <;> omega, M.pre 1 rfl⟩
    · rw [show nmOk new = false from by simpa using h0]
      (repeat (first | (refine WR.id ?_; first | refine WR.nil ?_ | refine WR.s ?_ | refine WR.g ?_) | (refine W.id ?_; first | refine W.seq fun _ _ => ?_ | refine W.region ?_ | refine W.s ?_ | refine W.e ?_) | (refine Ends.id ?_; first | refine Ends.seq (by assumption) ?_ | refine Ends.s ?_)))
      exact Ends.ret1 rfl rfl ⟨by simp_all [okOp] <;> omega, M.pre 1 rfl⟩
  by_cases k4 : kind = 4
  · subst k4
    (repeat (first | (refine WR.id ?_; first | refine WR.nil ?_ | refine WR.s ?_ | refine WR.g ?_) | (refine W.id ?_; first | refine W.seq fun _ _ => ?_ | refine W.region ?_ | refine W.s ?_ | refine W.e ?_) | (refine Ends.id ?_; first | refine Ends.seq (by assumption) ?_ | refine Ends.s ?_)))
    refine WR.call rfl rfl (name_any name _ (by omega)) ?_
    rintro _ _ ⟨rfl, rfl⟩
    refine ⟨_, rfl, ?_⟩
    rcases (by cases nmOk name <;> cases ([] == new) <;> by_cases bytes.length = 0 <;> by_cases at_ = 0 <;> simp_all : nmOk name = false ∨ (nmOk name = true ∧ ¬ bytes.length = 0) ∨ (nmOk name = true ∧ bytes.length = 0 ∧ ¬ at_ = 0) ∨ (nmOk name = true ∧ bytes.length = 0 ∧ at_ = 0 ∧ ([] == new) = false) ∨ (nmOk name = true ∧ bytes.length = 0 ∧ at_ = 0 ∧ ([] == new) = true)) with h1 | ⟨h1, h2⟩ | ⟨h1, h2, h3⟩ | ⟨h1, h2, h3, h4⟩ | ⟨h1, h2, h3, h4⟩
    all_goals
      rw [h1]
      (repeat (first | (refine WR.id ?_; first | refine WR.nil ?_ | refine WR.s ?_ | refine WR.g ?_) | (refine W.id ?_; first | refine W.seq fun _ _ => ?_ | refine W.region ?_ | refine W.s ?_ | refine W.e ?_) | (refine Ends.id ?_; first | refine Ends.seq (by assumption) ?_ | refine Ends.s ?_)))
      exact Ends.ret1 rfl rfl ⟨by simp_all [okOp] <;> omega, M.pre 1 rfl⟩
  · (repeat (first | (refine WR.id ?_; first | refine WR.nil ?_ | refine WR.s ?_ | refine WR.g ?_) | (refine W.id ?_; first | refine W.seq fun _ _ => ?_ | refine W.region ?_ | refine W.s ?_ | refine W.e ?_) | (refine Ends.id ?_; first | refine Ends.seq (by assumption) ?_ | refine Ends.s ?_)))
    refine Ends.ret1 rfl rfl ⟨?_, M.pre 1 rfl⟩
    rw [show okOp ⟨kind, name, new, at_, bytes⟩ = false from by unfold okOp; rw [decide_eq_false (by dsimp only; omega)]; rfl]
end Go.Proofs.Ytjgobljclodpfaa
namespace Go.Proofs.Ytjgobljclodpfaa
open Go.RowKit Go.Shelf K L E
set_option linter.unusedVariables false
set_option linter.unusedSimpArgs false

theorem six (b : Bool) (p q r s : Prop) : b = false ∨ (b = true ∧ ¬ p ∧ ¬ q) ∨ (b = true ∧ p) ∨ (b = true ∧ ¬ p ∧ q ∧ r ∧ ¬ s) ∨ (b = true ∧ ¬ p ∧ q ∧ r ∧ s) ∨ (b = true ∧ ¬ p ∧ q ∧ ¬ r) := by
  by_cases p <;> by_cases q <;> by_cases r <;> by_cases s <;> cases b <;> simp_all
set_option maxRecDepth 100000 in
set_option maxHeartbeats 8000000 in
theorem rightOp_any (kind : Int) (name new : List UInt8) (at_ : Int) (bytes : List UInt8) (A : Option Addr) (c : Nat) (w : World) (hs1 : bytes.length ≤ 1048576) (hs2 : name.length ≤ 1048576) (hs3 : new.length ≤ 1048576) (ha : -9223372036854775808 ≤ at_ ∧ at_ ≤ 9223372036854775807) (hkd : -9223372036854775808 ≤ kind ∧ kind ≤ 9223372036854775807) :
    Calls Try.prog 31 #[.agg #[.int .i64 kind, .string ⟨name.toArray⟩, .string ⟨new.toArray⟩, .int .i64 at_, .slice A bytes.length c]] w fun e w' => e = .returned (.bool (okOp ⟨kind, name, new, at_, bytes⟩)) ∧ Below w.heap.size w w' := by
  have M := Mem.start w
  refine enter Try.func31 rfl Try.ntmps31 rfl rfl ?_
  (repeat (first | (refine WR.id ?_; first | refine WR.nil ?_ | refine WR.s ?_ | refine WR.g ?_) | (refine W.id ?_; first | refine W.seq fun _ _ => ?_ | refine W.region ?_ | refine W.s ?_ | refine W.e ?_) | (refine Ends.id ?_; first | refine Ends.seq (by assumption) ?_ | refine Ends.s ?_)))
  refine WR.box rfl (cs := #[.int .i64 kind, .string ⟨name.toArray⟩, .string ⟨new.toArray⟩, .int .i64 at_, .slice A bytes.length c]) rfl rfl fun w1 hb1 hx1 hs1 => ?_
  replace M := (M.newBox (cs := [.int .i64 kind, .string ⟨name.toArray⟩, .string ⟨new.toArray⟩, .int .i64 at_, .slice A bytes.length c]) hb1 hx1).freeze
  clear hx1
  have hB := M.zbox 0 rfl
  by_cases k1 : kind < 1
  · (repeat (first | (refine WR.id ?_; first | refine WR.nil ?_ | refine WR.s ?_ | refine WR.g ?_) | (refine W.id ?_; first | refine W.seq fun _ _ => ?_ | refine W.region ?_ | refine W.s ?_ | refine W.e ?_) | (refine Ends.id ?_; first | refine Ends.seq (by assumption) ?_ | refine Ends.s ?_)))
    exact Ends.ret1 rfl rfl ⟨by rw [show okOp ⟨kind, name, new, at_, bytes⟩ = false from by unfold okOp; rw [decide_eq_false (by dsimp only; omega)]; rfl], M.pre 1 rfl⟩
  by_cases k4 : 4 < kind
  · (repeat (first | (refine WR.id ?_; first | refine WR.nil ?_ | refine WR.s ?_ | refine WR.g ?_) | (refine W.id ?_; first | refine W.seq fun _ _ => ?_ | refine W.region ?_ | refine W.s ?_ | refine W.e ?_) | (refine Ends.id ?_; first | refine Ends.seq (by assumption) ?_ | refine Ends.s ?_)))
    exact Ends.ret1 rfl rfl ⟨by rw [show okOp ⟨kind, name, new, at_, bytes⟩ = false from by unfold okOp; rw [decide_eq_false (by dsimp only; omega)]; rfl], M.pre 1 rfl⟩
  (repeat (first | (refine WR.id ?_; first | refine WR.nil ?_ | refine WR.s ?_ | refine WR.g ?_) | (refine W.id ?_; first | refine W.seq fun _ _ => ?_ | refine W.region ?_ | refine W.s ?_ | refine W.e ?_) | (refine Ends.id ?_; first | refine Ends.seq (by assumption) ?_ | refine Ends.s ?_)))
  refine WR.call rfl rfl (rname_any name _ (by omega)) ?_
  rintro _ _ ⟨rfl, rfl⟩
  refine ⟨_, rfl, ?_⟩
  have hkk : 1 ≤ kind ∧ kind ≤ 4 := by omega
  rcases (by cases nmOk name <;> by_cases bytes.length ≤ 4096 <;> by_cases 0 ≤ at_ <;> by_cases at_ ≤ 4096 <;> simp_all : nmOk name = false ∨ (nmOk name = true ∧ ¬ bytes.length ≤ 4096) ∨ (nmOk name = true ∧ bytes.length ≤ 4096 ∧ ¬ 0 ≤ at_) ∨ (nmOk name = true ∧ bytes.length ≤ 4096 ∧ 0 ≤ at_ ∧ ¬ at_ ≤ 4096) ∨ (nmOk name = true ∧ bytes.length ≤ 4096 ∧ 0 ≤ at_ ∧ at_ ≤ 4096)) with h1 | ⟨h1, h2⟩ | ⟨h1, h2, h3⟩ | ⟨h1, h2, h3, h4⟩ | ⟨h1, h2, h3, h4⟩
  iterate 4
    rw [h1]
    (repeat (first | (refine WR.id ?_; first | refine WR.nil ?_ | refine WR.s ?_ | refine WR.g ?_) | (refine W.id ?_; first | refine W.seq fun _ _ => ?_ | refine W.region ?_ | refine W.s ?_ | refine W.e ?_) | (refine Ends.id ?_; first | refine Ends.seq (by assumption) ?_ | refine Ends.s ?_)))
    exact Ends.ret1 rfl rfl ⟨by simp_all [okOp] <;> omega, M.pre 1 rfl⟩
  rw [h1]
  by_cases k3 : kind = 3
  · subst k3
    (repeat (first | (refine WR.id ?_; first | refine WR.nil ?_ | refine WR.s ?_ | refine WR.g ?_) | (refine W.id ?_; first | refine W.seq fun _ _ => ?_ | refine W.region ?_ | refine W.s ?_ | refine W.e ?_) | (refine Ends.id ?_; first | refine Ends.seq (by assumption) ?_ | refine Ends.s ?_)))
    refine WR.call rfl rfl (rname_any new _ (by omega)) ?_
    rintro _ _ ⟨rfl, rfl⟩
    refine ⟨_, rfl, ?_⟩
    rcases (by cases nmOk new <;> by_cases bytes.length = 0 <;> by_cases at_ = 0 <;> simp_all : nmOk new = false ∨ (nmOk new = true ∧ ¬ at_ = 0) ∨ (nmOk new = true ∧ at_ = 0 ∧ ¬ bytes.length = 0) ∨ (nmOk new = true ∧ at_ = 0 ∧ bytes.length = 0)) with h5 | ⟨h5, h6⟩ | ⟨h5, h6, h7⟩ | ⟨h5, h6, h7⟩
    all_goals
      rw [h5]
      (repeat (first | (refine WR.id ?_; first | refine WR.nil ?_ | refine WR.s ?_ | refine WR.g ?_) | (refine W.id ?_; first | refine W.seq fun _ _ => ?_ | refine W.region ?_ | refine W.s ?_ | refine W.e ?_) | (refine Ends.id ?_; first | refine Ends.seq (by assumption) ?_ | refine Ends.s ?_)))
      exact Ends.ret1 rfl rfl ⟨by simp_all [okOp] <;> omega, M.pre 1 rfl⟩
  · have e0 : (new == []) = ([] == new) := by cases new <;> rfl
    rcases six (new == []) (kind = 2) (at_ = 0) (kind = 4) (bytes.length = 0) with h5 | ⟨h5, h6, h7⟩ | ⟨h5, h6⟩ | ⟨h5, h6, h7, h8, h9⟩ | ⟨h5, h6, h7, h8, h9⟩ | ⟨h5, h6, h7, h8⟩
    all_goals
      (repeat (first | (refine WR.id ?_; first | refine WR.nil ?_ | refine WR.s ?_ | refine WR.g ?_) | (refine W.id ?_; first | refine W.seq fun _ _ => ?_ | refine W.region ?_ | refine W.s ?_ | refine W.e ?_) | (refine Ends.id ?_; first | refine Ends.seq (by assumption) ?_ | refine Ends.s ?_)))
      exact Ends.ret1 rfl rfl ⟨by simp_all [okOp] <;> omega, M.pre 1 rfl⟩
end Go.Proofs.Ytjgobljclodpfaa
namespace Go.Proofs.Ytjgobljclodpfaa
open Go.RowKit Go.Shelf K L E
set_option linter.unusedVariables false
set_option linter.unusedSimpArgs false

/-- An operation's bytes; those of several. -/
def opB (o : FO) : List UInt8 := UInt8.ofNat o.kind.toNat :: (nameB o.name ++ ((if o.kind = 2 then be o.at_.toNat 2 else []) ++ ((if o.kind ≤ 2 then countB o.bytes else []) ++ (if o.kind = 3 then nameB o.new else []))))
def opsB (l : List FO) : List UInt8 := be l.length 2 ++ l.flatMap opB
def encO (l : List FO) : Int × List UInt8 := if 64 < l.length then (3, []) else if l.all okOp = true then (0, opsB l) else (151, [])
theorem okOp_parts {o : FO} (h : okOp o = true) : 1 ≤ o.kind ∧ o.kind ≤ 4 ∧ o.name.length ≤ 24 ∧ o.bytes.length ≤ 4096 ∧ 0 ≤ o.at_ ∧ o.at_ ≤ 4096 ∧ (o.kind = 3 → o.new.length ≤ 24) := by
  simp only [okOp, Bool.and_eq_true, decide_eq_true_eq] at h
  obtain ⟨⟨⟨⟨h1, h2⟩, h3⟩, h4⟩, h5⟩ := h
  have hn : o.name.length ≤ 24 := by simp [nmOk] at h2; omega
  refine ⟨h1.1, h1.2, hn, h3, h4.1, h4.2, fun hk => ?_⟩
  rw [if_pos hk] at h5
  simp only [Bool.and_eq_true] at h5
  have := h5.1.1
  simp [nmOk] at this; omega
theorem opB_len {o : FO} (h : okOp o = true) : (opB o).length ≤ 4200 := by
  obtain ⟨h1, h2, h3, h4, h5, h6, h7⟩ := okOp_parts h
  unfold opB
  simp only [List.length_cons, List.length_append, nameB]
  by_cases k2 : o.kind = 2
  · rw [if_pos k2, if_pos (by omega), if_neg (by omega), be_len]
    simp only [countB, List.length_append, be_len, List.length_nil]; omega
  · rw [if_neg k2]
    by_cases k3 : o.kind = 3
    · rw [if_neg (by omega), if_pos k3]
      have := h7 k3
      simp only [List.length_nil, List.length_cons]; omega
    · rw [if_neg k3]
      by_cases kl : o.kind ≤ 2
      · rw [if_pos kl]; simp only [countB, List.length_append, be_len, List.length_nil]; omega
      · rw [if_neg kl]; simp only [List.length_nil]; omega
theorem ops_lens : ∀ {l : List FO}, l.all okOp = true → (l.flatMap opB).length ≤ 4200 * l.length
  | [], _ => Nat.le_refl _
  | o :: l, h => by
    rw [List.all_cons, Bool.and_eq_true] at h
    have h1 := opB_len h.1
    have h2 := ops_lens h.2
    rw [List.flatMap_cons, List.length_append, List.length_cons]; omega
theorem all_take_succ {l : List FO} {i : Nat} {o : FO} (h : (l.take i).all okOp = true) (ho : l[i]? = some o) (hk : okOp o = true) : (l.take (i + 1)).all okOp = true := by
  rw [List.take_add_one, ho, List.all_append, h]; simp [hk]
theorem flat_take_succ {l : List FO} {i : Nat} {o : FO} (ho : l[i]? = some o) : (l.take (i + 1)).flatMap opB = (l.take i).flatMap opB ++ opB o := by
  rw [List.take_add_one, ho, List.flatMap_append]; simp
theorem not_all {l : List FO} {i : Nat} {o : FO} (ho : l[i]? = some o) (hk : okOp o = false) : ¬ l.all okOp = true := fun h => by
  have := List.all_eq_true.1 h o (List.mem_of_getElem? ho)
  rw [hk] at this; cases this
theorem ops_at' {w : World} {F : Nat → Prop} {A : Option Addr} {n c i : Nat} {os : List OE} {o : FO} {vb : Value} (h : OpsF w F (.slice A n c) os) (ho : os[i]? = some (o, vb)) : ∃ b p, A = some ⟨b, p, none⟩ ∧ w.rangeAt b (p + i * 5) [.int .i64 o.kind, .string ⟨o.name.toArray⟩, .string ⟨o.new.toArray⟩, .int .i64 o.at_, vb] ∧ Bs w F vb o.bytes := by
  obtain ⟨hi, he⟩ := List.getElem?_eq_some_iff.1 ho
  obtain ⟨b, p, hA, hr⟩ := ops_row h.1 i hi
  rw [he] at hr
  exact ⟨b, p, hA, hr, h.2 _ (List.mem_of_getElem? ho)⟩

set_option maxRecDepth 100000 in
set_option maxHeartbeats 4000000 in
theorem encOps_any (vl : Value) (os : List OE) (w : World) (F : Nat → Prop) (ho : OpsF w F vl os) (hok : ∀ o ∈ os, o.1.ok ∧ -9223372036854775808 ≤ o.1.kind ∧ o.1.kind ≤ 9223372036854775807) :
    Calls Try.prog 30 #[vl] w fun e w' => ∃ v', e = .returned (.tuple #[v', .int .i64 (encO (ops os)).1]) ∧ Fresh w w' (aBr v' (encO (ops os)).2) := by
  obtain ⟨Ao, co, rfl, m1, m2⟩ := ops_form ho.ops
  have M := (Mem.start w).inOps 0 rfl ho
  refine enter Try.func30 rfl Try.ntmps30 rfl rfl ?_
  by_cases h64 : 64 < os.length
  · have hD : encO (ops os) = (3, []) := by unfold encO; rw [if_pos (by rw [ops_len]; exact h64)]
    (repeat (first | (refine WR.id ?_; first | refine WR.nil ?_ | refine WR.s ?_ | refine WR.g ?_) | (refine W.id ?_; first | refine W.seq fun _ _ => ?_ | refine W.region ?_ | refine W.s ?_ | refine W.e ?_) | (refine Ends.id ?_; first | refine Ends.seq (by assumption) ?_ | refine Ends.s ?_)))
    exact Ends.ret2 rfl rfl rfl ⟨_, by rw [hD], by rw [hD]; exact br_nil (M.pre 1 rfl)⟩
  have hD : encO (ops os) = if (ops os).all okOp = true then (0, opsB (ops os)) else (151, []) := by unfold encO; rw [if_neg (by rw [ops_len]; exact h64)]
  (repeat (first | (refine WR.id ?_; first | refine WR.nil ?_ | refine WR.s ?_ | refine WR.g ?_) | (refine W.id ?_; first | refine W.seq fun _ _ => ?_ | refine W.region ?_ | refine W.s ?_ | refine W.e ?_) | (refine Ends.id ?_; first | refine Ends.seq (by assumption) ?_ | refine Ends.s ?_)))
  rw [conv16 (by omega)]
  refine WR.call rfl rfl (put16_any (.slice none 0 0) [] os.length _ (fun _ => False) (Sl.nil _ _ _) (by simp) (by omega)) ?_
  rintro _ w3 ⟨v3, rfl, hob, hb⟩
  refine ⟨_, rfl, ?_⟩
  replace M := M.newBr hb hob (Nat.le_refl _)
  (repeat (first | (refine WR.id ?_; first | refine WR.nil ?_ | refine WR.s ?_ | refine WR.g ?_) | (refine W.id ?_; first | refine W.seq fun _ _ => ?_ | refine W.region ?_ | refine W.s ?_ | refine W.e ?_) | (refine Ends.id ?_; first | refine Ends.seq (by assumption) ?_ | refine Ends.s ?_)))
  refine W.loop (X := Nat × Value) (fun x => [(4, x.2), (14, .slice Ao os.length co), (15, .int .i64 (os.length : Nat)), (16, .int .i64 (x.1 : Nat))])
    (fun x wr => x.1 ≤ os.length ∧ ((ops os).take x.1).all okOp = true ∧ Mem wr [aBr x.2 (be os.length 2 ++ ((ops os).take x.1).flatMap opB)] [zOps (.slice Ao os.length co) os, zPre w]) (fun x => os.length - x.1)
    (0, v3) (by repeat (first | exact .nil | refine .cons rfl ?_)) ⟨Nat.zero_le _, rfl, M⟩ ?_
  clear M hob
  rintro ⟨i, vr⟩ wr ⟨hi, hall, M⟩ K hK
  dsimp only at hi hall M
  dsimp only
  have hxl : (be os.length 2 ++ ((ops os).take i).flatMap opB).length ≤ 300000 := by
    have := ops_lens hall
    rw [List.length_append, be_len]
    rw [List.length_take, ops_len] at this
    omega
  obtain ⟨xs, hxs⟩ : ∃ xs, be os.length 2 ++ ((ops os).take i).flatMap opB = xs := ⟨_, rfl⟩
  rw [hxs] at M hxl
  obtain ⟨Ar, cr, rfl, -⟩ := M.br.bs.open_
  (repeat (first | (refine WR.id ?_; first | refine WR.nil ?_ | refine WR.s ?_ | refine WR.g ?_) | (refine W.id ?_; first | refine W.seq fun _ _ => ?_ | refine W.region ?_ | refine W.s ?_ | refine W.e ?_) | (refine Ends.id ?_; first | refine Ends.seq (by assumption) ?_ | refine Ends.s ?_)))
  refine W.condP (by rfl) (fun hlt => ?_) (fun hlt => ?_)
  · have hil : i < os.length := by omega
    obtain ⟨⟨o, vb⟩, hx⟩ : ∃ x, os[i]? = some x := ⟨_, List.getElem?_eq_getElem hil⟩
    have hx2 : (ops os)[i]? = some o := by unfold ops; rw [List.getElem?_map, hx]; rfl
    obtain ⟨hoo, hkd⟩ := hok _ (List.mem_of_getElem? hx)
    obtain ⟨_, hz⟩ := M.ops 0 rfl
    obtain ⟨ba, oa, hA, hrng, hbi⟩ := ops_at' hz hx
    subst hA
    obtain ⟨Ay, cy, rfl, -⟩ := hbi.open_
    obtain ⟨kind, name, new, at_, bytes⟩ := o
    obtain ⟨hs1, hs2, hs3, ha1, ha2⟩ := hoo
    dsimp only at *
    (repeat (first | (refine WR.id ?_; first | refine WR.nil ?_ | refine WR.s ?_ | refine WR.g ?_) | (refine W.id ?_; first | refine W.seq fun _ _ => ?_ | refine W.region ?_ | refine W.s ?_ | refine W.e ?_) | (refine Ends.id ?_; first | refine Ends.seq (by assumption) ?_ | refine Ends.s ?_)))
    refine WR.indexAddr (j := i) (by rfl) (by rfl) (by rfl) (by omega) ?_
    refine WR.loadRow (by rfl) hrng (by rfl) (by rfl) ?_
    refine WR.allocStore (c := #[.int .i64 kind, .string ⟨name.toArray⟩, .string ⟨new.toArray⟩, .int .i64 at_, .slice Ay bytes.length cy]) (by rfl) (by rfl) rfl (by rfl) (by rfl) (all_oneCell_toArray op_one) (by rfl) fun w6 hb6 hx6 hs6 => ?_
    replace M := (M.newBox (cs := [.int .i64 kind, .string ⟨name.toArray⟩, .string ⟨new.toArray⟩, .int .i64 at_, .slice Ay bytes.length cy]) hb6 hx6).freeze
    generalize wr.heap.size = b6 at M ⊢
    clear hz hrng hbi hx6
    have hB := M.zbox 0 rfl
    (repeat (first | (refine WR.id ?_; first | refine WR.nil ?_ | refine WR.s ?_ | refine WR.g ?_) | (refine W.id ?_; first | refine W.seq fun _ _ => ?_ | refine W.region ?_ | refine W.s ?_ | refine W.e ?_) | (refine Ends.id ?_; first | refine Ends.seq (by assumption) ?_ | refine Ends.s ?_)))
    refine WR.call rfl rfl (may_any kind name new at_ bytes Ay cy _ hs1 hs2 hs3 ⟨ha1, ha2⟩ hkd) ?_
    rintro _ w7 ⟨rfl, hb7⟩
    refine ⟨_, rfl, ?_⟩
    replace M := M.below hb7
    clear hB
    by_cases hop : okOp ⟨kind, name, new, at_, bytes⟩ = true
    case neg =>
      have hop' : okOp ⟨kind, name, new, at_, bytes⟩ = false := by simpa using hop
      rw [if_neg (not_all hx2 hop')] at hD
      rw [hop']
      (repeat (first | (refine WR.id ?_; first | refine WR.nil ?_ | refine WR.s ?_ | refine WR.g ?_) | (refine W.id ?_; first | refine W.seq fun _ _ => ?_ | refine W.region ?_ | refine W.s ?_ | refine W.e ?_) | (refine Ends.id ?_; first | refine Ends.seq (by assumption) ?_ | refine Ends.s ?_)))
      exact Ends.ret2 rfl rfl rfl ⟨_, by rw [hD], by rw [hD]; exact br_nil (M.pre 2 rfl)⟩
    rw [hop]
    obtain ⟨p1, p2, p3, p4, p5, p6, p7⟩ := okOp_parts hop
    dsimp only at p1 p2 p3 p4 p5 p6 p7
    obtain ⟨k, rfl⟩ := Int.eq_ofNat_of_zero_le (by omega : 0 ≤ kind)
    have hown := M.br
    have hbox := M.zbox 0 rfl
    (repeat (first | (refine WR.id ?_; first | refine WR.nil ?_ | refine WR.s ?_ | refine WR.g ?_) | (refine W.id ?_; first | refine W.seq fun _ _ => ?_ | refine W.region ?_ | refine W.s ?_ | refine W.e ?_) | (refine Ends.id ?_; first | refine Ends.seq (by assumption) ?_ | refine Ends.s ?_)))
    refine W.keep (r := [(6, .pointer (some ⟨b6, 0, none⟩)), (4, .slice Ar xs.length cr), (14, .slice (some ⟨ba, oa, none⟩) os.length co), (15, .int .i64 (os.length : Nat)), (16, .int .i64 (i : Nat))]) (by repeat (first | exact .nil | refine .cons rfl ?_)) ?_
    apply W.draws3ToS (fun _ => True) 9 [4, 5, 8] [[], [], [1], [2], [3], [0, 4], [], [6], [5, 7]] [(0, 2), (0, 1), (0, 1), (0, 1), (0, 1), (1, 1), (0, 3), (0, 3), (2, 1)]
      [is _, is _, is _, is _, fun _ _ => True, fun _ _ => True, is _, is _, fun _ _ => True] (fun | [] => (fun u => Mem u [aBr (.slice Ar xs.length cr) xs] [aBox b6 [.int .i64 (k : Nat), .string ⟨name.toArray⟩, .string ⟨new.toArray⟩, .int .i64 at_, .slice Ay bytes.length cy], zOps (.slice (some ⟨ba, oa, none⟩) os.length co) os, zPre w]) | [u0] => (fun u => Mem u [aBr (.slice Ar xs.length cr) xs] (zSl 1 u0 1 [.int .u8 ((UInt8.ofNat k).toNat : Int)] :: [aBox b6 [.int .i64 (k : Nat), .string ⟨name.toArray⟩, .string ⟨new.toArray⟩, .int .i64 at_, .slice Ay bytes.length cy], zOps (.slice (some ⟨ba, oa, none⟩) os.length co) os, zPre w])) | [u0, u1] => (fun u => Mem u [aBr u1 (xs ++ [UInt8.ofNat k])] [aBox b6 [.int .i64 (k : Nat), .string ⟨name.toArray⟩, .string ⟨new.toArray⟩, .int .i64 at_, .slice Ay bytes.length cy], zOps (.slice (some ⟨ba, oa, none⟩) os.length co) os, zPre w]) | [u0, u1, u2] => (fun u => Mem u [aBr u2 ((xs ++ [UInt8.ofNat k]) ++ nameB name)] [aBox b6 [.int .i64 (k : Nat), .string ⟨name.toArray⟩, .string ⟨new.toArray⟩, .int .i64 at_, .slice Ay bytes.length cy], zOps (.slice (some ⟨ba, oa, none⟩) os.length co) os, zPre w]) | _ => (fun u => True)) (by kernel_rfl) (by kernel_rfl) (by rfl) (by kernel_rfl) (by kernel_rfl) (by rfl) (by rfl) (by kernel_rfl) ⟨stab3_is _ _, stab3_is _ _, stab3_is _ _, stab3_is _ _, fun _ _ _ _ _ => trivial, fun _ _ _ _ _ => trivial, stab3_is _ _, stab3_is _ _, fun _ _ _ _ _ => trivial, trivial⟩ (fun vs u u' h hb => (by rcases vs with _ | ⟨a, _ | ⟨a2, _ | ⟨a3, _ | ⟨a4, r⟩⟩⟩⟩ <;> first | exact Mem.below h hb | trivial)) (M) ?step4 ?fin4
    case step4 =>
      refine ⟨⟨fun wq huq hjq Kq hKq => ?_, fun u0 wq huq hjq Kq hKq => ?_, trivial⟩, ⟨fun wq huq hjq Kq hKq => ?_, trivial⟩, ⟨fun wq huq hjq Kq hKq => ?_, trivial⟩, ⟨fun wq huq hjq Kq hKq => ?_, trivial⟩, ⟨fun wq huq hjq Kq hKq => ?_, trivial⟩, ⟨fun u0 wq huq hjq Kq hKq => ?_, trivial⟩, ⟨fun wq huq hjq Kq hKq => ?_, fun u0 wq huq hjq Kq hKq => ?_, fun u0 u1 wq huq hjq Kq hKq => ?_, trivial⟩, ⟨fun wq huq hjq Kq hKq => ?_, fun u0 wq huq hjq Kq hKq => ?_, fun u0 u1 wq huq hjq Kq hKq => ?_, trivial⟩, ⟨fun u0 u1 wq huq hjq Kq hKq => ?_, trivial⟩, trivial⟩
      · have hBq := hjq.zbox 0 rfl
        refine WR.s ?_; refine WR.nil ?_; exact Ends.one hKq rfl rfl (Below.refl _ _)
      · have hBq := hjq.zbox 1 rfl
        refine WR.s ?_; refine WR.nil ?_; exact Ends.one hKq rfl rfl (Below.refl _ _)
      · have hBq := hjq.zbox 0 rfl
        refine WR.s ?_; refine WR.nil ?_; exact Ends.one hKq rfl rfl (Below.refl _ _)
      · rintro _ rfl
        have hBq := hjq.zbox 0 rfl
        refine WR.s ?_; refine WR.nil ?_; exact Ends.one hKq rfl rfl (Below.refl _ _)
      · rintro _ rfl
        have hBq := hjq.zbox 0 rfl
        refine WR.s ?_; refine WR.nil ?_; exact Ends.one hKq rfl rfl (Below.refl _ _)
      · rintro _ rfl
        have hBq := hjq.zbox 0 rfl
        refine WR.row1 Try.el8 (by decide) (by rfl) (by rfl) (by rfl) fun wy hby hsy => ?_; refine WR.nil ?_; rw [conv8] at hsy; exact Ends.oneM hKq rfl (hjq.new hby (zsl_of (by decide) hsy) fun b hb => hb.1).freeze (Upd.of_below hby)
      · rintro _ rfl u0 rfl
        have hBq := hjq.zbox 1 rfl
        obtain ⟨_, hsl⟩ := hjq.sl 0 rfl; refine WR.app Try.el8 (by rfl) (by rfl) (by rfl) hjq.br hsl (by intro u hu; obtain rfl := List.mem_singleton.1 hu; rfl) (by omega) (by decide) (Nat.zero_le _) fun v' wy ho' hu' hv' => ?_; refine WR.nil ?_; exact Ends.oneM hKq rfl (hjq.setBr hu' (Ob.push (UInt8.ofNat k) ho' rfl) hv').dropz (hu'.mono fun _ _ _ => trivial)
      · have hBq := hjq.zbox 0 rfl
        refine WR.s ?_; refine WR.nil ?_; exact Ends.one hKq rfl rfl (Below.refl _ _)
      · have hBq := hjq.zbox 1 rfl
        refine WR.s ?_; refine WR.nil ?_; exact Ends.one hKq rfl rfl (Below.refl _ _)
      · have hBq := hjq.zbox 0 rfl
        refine WR.s ?_; refine WR.nil ?_; exact Ends.one hKq rfl rfl (Below.refl _ _)
      · rintro _ rfl
        have hBq := hjq.zbox 0 rfl
        refine WR.s ?_; refine WR.nil ?_; exact Ends.one hKq rfl rfl (Below.refl _ _)
      · rintro _ rfl
        have hBq := hjq.zbox 1 rfl
        refine WR.s ?_; refine WR.nil ?_; exact Ends.one hKq rfl rfl (Below.refl _ _)
      · rintro _ rfl
        have hBq := hjq.zbox 0 rfl
        refine WR.s ?_; refine WR.nil ?_; exact Ends.one hKq rfl rfl (Below.refl _ _)
      · rintro u1 rfl _ rfl
        have hBq := hjq.zbox 0 rfl
        refine WR.call (by rfl) (by rfl) (putName_M hjq name (by omega) (by simp; omega)) ?_; rintro _ wy ⟨v', rfl, My, hu'⟩; refine ⟨_, rfl, ?_⟩; refine WR.nil ?_; exact Ends.oneM hKq rfl My (hu'.mono fun _ _ _ => trivial)
    intro u0 u1 u2 wq huq hjq
    rintro _ rfl _ rfl _ rfl _ rfl u0 rfl u1 rfl _ rfl _ rfl u2 rfl
    have hBq := hjq.zbox 0 rfl
    refine WR.id ?_
    have hc : ∀ tail, opB ⟨(k : Int), name, new, at_, bytes⟩ = UInt8.ofNat k :: (nameB name ++ tail) → be os.length 2 ++ ((ops os).take (i + 1)).flatMap opB = ((xs ++ [UInt8.ofNat k]) ++ nameB name) ++ tail := fun tail ht => by
      rw [flat_take_succ hx2, ht, ← List.append_assoc, hxs]; simp [List.append_assoc]
    have M2 : Mem wq [aBr u2 ((xs ++ [UInt8.ofNat k]) ++ nameB name)] [aBox b6 [.int .i64 (k : Nat), .string ⟨name.toArray⟩, .string ⟨new.toArray⟩, .int .i64 at_, .slice Ay bytes.length cy], zOps (.slice (some ⟨ba, oa, none⟩) os.length co) os, zPre w] := hjq
    have hyl : (((xs ++ [UInt8.ofNat k]) ++ nameB name)).length ≤ 300100 := by simp only [List.length_append, nameB, List.length_cons, List.length_nil]; omega
    have hnext := all_take_succ hall hx2 hop
    clear hjq M hown hbox hBq
    obtain ⟨A2, c2, rfl, -⟩ := M2.br.bs.open_
    obtain ⟨_, hz⟩ := M2.ops 1 rfl
    obtain ⟨_, _, _, _, hbi⟩ := ops_at' hz hx
    dsimp only at hbi
    have hB := M2.zbox 0 rfl
    rcases (by omega : k = 1 ∨ k = 2 ∨ k = 3 ∨ k = 4) with rfl | rfl | rfl | rfl
    · (repeat (first | (refine WR.id ?_; first | refine WR.nil ?_ | refine WR.s ?_ | refine WR.g ?_) | (refine W.id ?_; first | refine W.seq fun _ _ => ?_ | refine W.region ?_ | refine W.s ?_ | refine W.e ?_) | (refine Ends.id ?_; first | refine Ends.seq (by assumption) ?_ | refine Ends.s ?_)))
      refine WR.call rfl rfl (putBytes_any M2.br.bs hbi (by omega) (by omega)) ?_
      rintro _ w8 ⟨v8, rfl, ho8, hb8⟩
      refine ⟨_, rfl, ?_⟩
      have M := M2.drop.newBr hb8 ho8 (Nat.le_refl _)
      rw [← hc _ (by simp [opB])] at M
      clear hB
      (repeat (first | (refine WR.id ?_; first | refine WR.nil ?_ | refine WR.s ?_ | refine WR.g ?_) | (refine W.id ?_; first | refine W.seq fun _ _ => ?_ | refine W.region ?_ | refine W.s ?_ | refine W.e ?_) | (refine Ends.id ?_; first | refine Ends.seq (by assumption) ?_ | refine Ends.s ?_)))
      exact Ends.round hK (i + 1, v8) (by repeat (first | exact .nil | refine .cons rfl ?_)) ⟨by dsimp only; omega, hnext, M.dropz⟩ (by dsimp only; omega)
    · obtain ⟨a, rfl⟩ := Int.eq_ofNat_of_zero_le p5
      have hrow := M2.br.bs
      generalize hys : ((xs ++ [UInt8.ofNat 2]) ++ nameB name) = ys at *
      (repeat (first | (refine WR.id ?_; first | refine WR.nil ?_ | refine WR.s ?_ | refine WR.g ?_) | (refine W.id ?_; first | refine W.seq fun _ _ => ?_ | refine W.region ?_ | refine W.s ?_ | refine W.e ?_) | (refine Ends.id ?_; first | refine Ends.seq (by assumption) ?_ | refine Ends.s ?_)))
      refine W.keep (r := [(6, .pointer (some ⟨b6, 0, none⟩)), (4, .slice A2 ys.length c2), (14, .slice (some ⟨ba, oa, none⟩) os.length co), (15, .int .i64 (os.length : Nat)), (16, .int .i64 (i : Nat))]) (by repeat (first | exact .nil | refine .cons rfl ?_)) ?_
      apply W.drawsTo 8 [[], [], [1], [2], [0, 3], [], [5], [4, 6]]
        [is _, is _, is _, is _, (fun u v => Bs u (wq.heap.size ≤ ·) v (ys ++ be a 2)), is _, is _, (fun u v => Ob u wq.heap.size 5 v ((ys ++ be a 2) ++ countB bytes))] (by kernel_rfl) (by kernel_rfl) (by rfl) (by kernel_rfl) (by kernel_rfl) ⟨stab_is _, stab_is _, stab_is _, stab_is _, (fun _ _ _ h hb => Bs.below h hb), stab_is _, stab_is _, (fun _ _ _ h hb => G.ob_fresh h hb), trivial⟩ ?step1 ?fin1
      case step1 =>
        refine ⟨fun wq hbq Kq hKq => ?_, fun wq hbq Kq hKq => ?_, fun wq hbq Kq hKq => ?_, fun wq hbq Kq hKq => ?_, fun wq hbq Kq hKq => ?_, fun wq hbq Kq hKq => ?_, fun wq hbq Kq hKq => ?_, fun wq hbq Kq hKq => ?_, trivial⟩
        · have hB := hB.below hbq
          refine WR.s ?_; refine WR.nil ?_; exact Ends.one hKq rfl rfl (Below.refl _ _)
        · have hB := hB.below hbq
          refine WR.s ?_; refine WR.nil ?_; exact Ends.one hKq rfl rfl (Below.refl _ _)
        · rintro _ rfl
          have hB := hB.below hbq
          refine WR.s ?_; refine WR.nil ?_; exact Ends.one hKq rfl rfl (Below.refl _ _)
        · rintro _ rfl
          have hB := hB.below hbq
          refine WR.conv (by rfl) (by rfl) ?_; rw [conv16 (by omega)]; refine WR.nil ?_; exact Ends.one hKq rfl rfl (Below.refl _ _)
        · rintro _ rfl _ rfl
          have hB := hB.below hbq
          refine WR.call (by rfl) (by rfl) (put16_any _ _ a _ _ (Bs.below hrow hbq) (by omega) (by omega)) ?_; rintro _ wy ⟨v', rfl, h1, hb⟩; refine ⟨_, rfl, ?_⟩; refine WR.nil ?_; exact Ends.one hKq rfl (h1.low hbq.size).bs hb 
        · have hB := hB.below hbq
          refine WR.s ?_; refine WR.nil ?_; exact Ends.one hKq rfl rfl (Below.refl _ _)
        · rintro _ rfl
          have hB := hB.below hbq
          refine WR.s ?_; refine WR.nil ?_; exact Ends.one hKq rfl rfl (Below.refl _ _)
        · rintro v4 h4 _ rfl
          have hB := hB.below hbq
          refine WR.call (by rfl) (by rfl) (putBytes_any h4 (Bs.below hbi hbq) (by rw [List.length_append, be_len]; omega) (by omega)) ?_; rintro _ wy ⟨v', rfl, h1, hb⟩; refine ⟨_, rfl, ?_⟩; refine WR.nil ?_; exact Ends.one hKq rfl (h1.low hbq.size) hb 
      intro wq hbq
      rintro _ rfl _ rfl _ rfl _ rfl v4 h4 _ rfl _ rfl v7 h7
      refine WR.id ?_
      have hB := hB.below hbq
      have M := M2.drop.newBr hbq h7 (Nat.le_refl _)
      rw [List.append_assoc, ← hc _ (by simp [opB])] at M
      clear hB
      (repeat (first | (refine WR.id ?_; first | refine WR.nil ?_ | refine WR.s ?_ | refine WR.g ?_) | (refine W.id ?_; first | refine W.seq fun _ _ => ?_ | refine W.region ?_ | refine W.s ?_ | refine W.e ?_) | (refine Ends.id ?_; first | refine Ends.seq (by assumption) ?_ | refine Ends.s ?_)))
      exact Ends.round hK (i + 1, v7) (by repeat (first | exact .nil | refine .cons rfl ?_)) ⟨by dsimp only; omega, hnext, M.dropz⟩ (by dsimp only; omega)
    · have hnew := p7 rfl
      (repeat (first | (refine WR.id ?_; first | refine WR.nil ?_ | refine WR.s ?_ | refine WR.g ?_) | (refine W.id ?_; first | refine W.seq fun _ _ => ?_ | refine W.region ?_ | refine W.s ?_ | refine W.e ?_) | (refine Ends.id ?_; first | refine Ends.seq (by assumption) ?_ | refine Ends.s ?_)))
      refine WR.call rfl rfl (putName_M M2 new (by omega) (by omega)) ?_
      rintro _ w8 ⟨v8, rfl, M, hu8⟩
      refine ⟨_, rfl, ?_⟩
      rw [← hc _ (by simp [opB])] at M
      clear hB
      (repeat (first | (refine WR.id ?_; first | refine WR.nil ?_ | refine WR.s ?_ | refine WR.g ?_) | (refine W.id ?_; first | refine W.seq fun _ _ => ?_ | refine W.region ?_ | refine W.s ?_ | refine W.e ?_) | (refine Ends.id ?_; first | refine Ends.seq (by assumption) ?_ | refine Ends.s ?_)))
      exact Ends.round hK (i + 1, v8) (by repeat (first | exact .nil | refine .cons rfl ?_)) ⟨by dsimp only; omega, hnext, M.dropz⟩ (by dsimp only; omega)
    · have e := hc [] (by simp [opB])
      rw [List.append_nil] at e
      (repeat (first | (refine WR.id ?_; first | refine WR.nil ?_ | refine WR.s ?_ | refine WR.g ?_) | (refine W.id ?_; first | refine W.seq fun _ _ => ?_ | refine W.region ?_ | refine W.s ?_ | refine W.e ?_) | (refine Ends.id ?_; first | refine Ends.seq (by assumption) ?_ | refine Ends.s ?_)))
      exact Ends.round hK (i + 1, .slice A2 ((xs ++ [UInt8.ofNat 4]) ++ nameB name).length c2) (by repeat (first | exact .nil | refine .cons rfl ?_)) ⟨by dsimp only; omega, hnext, by dsimp only; rw [e]; exact M2.dropz⟩ (by dsimp only; omega)
  · have hal : (ops os).all okOp = true := by rw [List.take_of_length_le (by rw [ops_len]; omega)] at hall; exact hall
    rw [if_pos hal] at hD
    (repeat (first | (refine WR.id ?_; first | refine WR.nil ?_ | refine WR.s ?_ | refine WR.g ?_) | (refine W.id ?_; first | refine W.seq fun _ _ => ?_ | refine W.region ?_ | refine W.s ?_ | refine W.e ?_) | (refine Ends.id ?_; first | refine Ends.seq (by assumption) ?_ | refine Ends.s ?_)))
    refine Ends.ret2 rfl rfl rfl ⟨_, by rw [hD], ?_⟩
    rw [hD, show opsB (ops os) = xs from by unfold opsB; rw [← hxs, ops_len, List.take_of_length_le (by rw [ops_len]; omega)]]
    exact M.fresh 1 rfl
end Go.Proofs.Ytjgobljclodpfaa
namespace Go.Proofs.Ytjgobljclodpfaa
open Go.RowKit Go.Shelf K L E
set_option linter.unusedVariables false
set_option linter.unusedSimpArgs false

theorem op_cells {w : World} {Os Zs : List Ass} {A : Option Addr} {n c i : Nat} {os : List OE} {o : FO} {vb : Value} (M : Mem w Os Zs) (k : Nat) (hz : Zs[k]? = some (zOps (.slice A n c) os)) (hx : os[i]? = some (o, vb)) :
    ∃ b p F, A = some ⟨b, p, none⟩ ∧ w.cell? ⟨b, p + i * 5 + 0, none⟩ = some (.int .i64 o.kind) ∧ w.cell? ⟨b, p + i * 5 + 1, none⟩ = some (.string ⟨o.name.toArray⟩) ∧ w.cell? ⟨b, p + i * 5 + 2, none⟩ = some (.string ⟨o.new.toArray⟩) ∧ w.cell? ⟨b, p + i * 5 + 3, none⟩ = some (.int .i64 o.at_) ∧ w.cell? ⟨b, p + i * 5 + 4, none⟩ = some vb ∧ Bs w F vb o.bytes := by
  obtain ⟨F, hz⟩ := M.ops k hz
  obtain ⟨b, p, hA, hr, hb⟩ := ops_at' hz hx
  exact ⟨b, p, F, hA, hr 0 _ rfl, hr 1 _ rfl, hr 2 _ rfl, hr 3 _ rfl, hr 4 _ rfl, hb⟩

set_option maxRecDepth 100000 in
set_option maxHeartbeats 4000000 in
theorem rops_any (vl : Value) (os : List OE) (w : World) (F : Nat → Prop) (ho : OpsF w F vl os) (hal : (ops os).all okOp = true) (h64 : os.length ≤ 64) :
    Calls Try.prog 32 #[vl] w fun e w' => ∃ v', e = .returned v' ∧ (∃ G, Bs w' G v' (opsB (ops os))) ∧ Below w.heap.size w w' := by
  obtain ⟨Ao, co, rfl, m1, m2⟩ := ops_form ho.ops
  have M := (Mem.start w).inOps 0 rfl ho
  refine enter Try.func32 rfl Try.ntmps32 rfl rfl ?_
  (repeat (first | (refine WR.id ?_; first | refine WR.nil ?_ | refine WR.s ?_ | refine WR.g ?_) | (refine W.id ?_; first | refine W.seq fun _ _ => ?_ | refine W.region ?_ | refine W.s ?_ | refine W.e ?_) | (refine Ends.id ?_; first | refine Ends.seq (by assumption) ?_ | refine Ends.s ?_)))
  rw [show IntKind.u64.wrap ((os.length : Nat) : Int) = ((os.length : Nat) : Int) from by rw [IntKind.wrap_u64]; omega]
  refine WR.call rfl rfl (high_any os.length 2 _ (by decide) (by omega)) ?_
  rintro _ w2 ⟨v2, rfl, hob, hb⟩
  refine ⟨_, rfl, ?_⟩
  obtain ⟨Ar, cr, rfl, -⟩ := hob.bs.open_
  replace M := (M.newBs hb hob (Nat.le_refl _)).freeze
  clear hob
  (repeat (first | (refine WR.id ?_; first | refine WR.nil ?_ | refine WR.s ?_ | refine WR.g ?_) | (refine W.id ?_; first | refine W.seq fun _ _ => ?_ | refine W.region ?_ | refine W.s ?_ | refine W.e ?_) | (refine Ends.id ?_; first | refine Ends.seq (by assumption) ?_ | refine Ends.s ?_)))
  refine W.loop (X := Nat × List UInt8 × Option Addr × Nat) (fun x => [(0, .slice Ao os.length co), (3, .slice x.2.2.1 x.2.1.length x.2.2.2), (4, .int .i64 (x.1 : Nat))])
    (fun x wr => x.1 ≤ os.length ∧ x.2.1 = be os.length 2 ++ ((ops os).take x.1).flatMap opB ∧ Mem wr [] [zSl 1 (.slice x.2.2.1 x.2.1.length x.2.2.2) x.2.1.length (bvs x.2.1), zOps (.slice Ao os.length co) os, zPre w]) (fun x => os.length - x.1)
    (0, be os.length 2, Ar, cr) (by repeat (first | exact .nil | refine .cons rfl ?_)) ⟨Nat.zero_le _, by simp, M⟩ ?_
  clear M
  rintro ⟨i, out, Ar, cr⟩ wr ⟨hi, hout, M⟩ K hK
  dsimp only at hi hout M
  dsimp only
  have hol : out.length ≤ 300000 := by
    have hall : ((ops os).take i).all okOp = true := List.all_eq_true.2 fun o ho => List.all_eq_true.1 hal o (List.mem_of_mem_take ho)
    have := ops_lens hall
    rw [hout, List.length_append, be_len]
    rw [List.length_take, ops_len] at this
    omega
  (repeat (first | (refine WR.id ?_; first | refine WR.nil ?_ | refine WR.s ?_ | refine WR.g ?_) | (refine W.id ?_; first | refine W.seq fun _ _ => ?_ | refine W.region ?_ | refine W.s ?_ | refine W.e ?_) | (refine Ends.id ?_; first | refine Ends.seq (by assumption) ?_ | refine Ends.s ?_)))
  refine W.condP (by rfl) (fun hlt => ?_) (fun hlt => ?_)
  · have hil : i < os.length := by omega
    obtain ⟨⟨o, vb⟩, hx⟩ : ∃ x, os[i]? = some x := ⟨_, List.getElem?_eq_getElem hil⟩
    have hx2 : (ops os)[i]? = some o := by unfold ops; rw [List.getElem?_map, hx]; rfl
    have hop := List.all_eq_true.1 hal o (List.mem_of_getElem? hx2)
    obtain ⟨ba, oa, Fb, hA, c0, c1, c2, c3, c4, hbi⟩ := op_cells M 1 rfl hx
    subst hA
    obtain ⟨Ay, cy, rfl, -⟩ := hbi.open_
    obtain ⟨p1, p2, p3, p4, p5, p6, p7⟩ := okOp_parts hop
    obtain ⟨kind, name, new, at_, bytes⟩ := o
    dsimp only at *
    obtain ⟨k, rfl⟩ := Int.eq_ofNat_of_zero_le (by omega : 0 ≤ kind)
    obtain ⟨a, rfl⟩ := Int.eq_ofNat_of_zero_le p5
    obtain ⟨_, hob⟩ := M.zbs 0 rfl
    have hc : ∀ tail, opB ⟨(k : Int), name, new, (a : Int), bytes⟩ = UInt8.ofNat k :: (nameB name ++ tail) → be os.length 2 ++ ((ops os).take (i + 1)).flatMap opB = (out ++ ([UInt8.ofNat k] ++ nameB name)) ++ tail := fun tail ht => by
      rw [flat_take_succ hx2, ht, ← List.append_assoc, ← hout]; simp [List.append_assoc]
    have hln : (nameB name).length ≤ 25 := by simp only [nameB, List.length_cons]; omega
    (repeat (first | (refine WR.id ?_; first | refine WR.nil ?_ | refine WR.s ?_ | refine WR.g ?_) | (refine W.id ?_; first | refine W.seq fun _ _ => ?_ | refine W.region ?_ | refine W.s ?_ | refine W.e ?_) | (refine Ends.id ?_; first | refine Ends.seq (by assumption) ?_ | refine Ends.s ?_)))
    apply W.drawsTo 16 [[], [], [], [1, 2], [3], [4], [5], [6], [], [], [8, 9], [10], [11], [12], [7, 13], [0, 14]]
      [is _, is _, is _, is _, is _, is _, is _, (fun u v => Bs u (wr.heap.size ≤ ·) v [UInt8.ofNat k]), is _, is _, is _, is _, is _, (fun u v => Bs u (wr.heap.size ≤ ·) v (nameB name)), (fun u v => Bs u (wr.heap.size ≤ ·) v ([UInt8.ofNat k] ++ nameB name)), (fun u v => Bs u (wr.heap.size ≤ ·) v (out ++ ([UInt8.ofNat k] ++ nameB name)))] (by kernel_rfl) (by kernel_rfl) (by rfl) (by kernel_rfl) (by kernel_rfl) ⟨stab_is _, stab_is _, stab_is _, stab_is _, stab_is _, stab_is _, stab_is _, (fun _ _ _ h hb => Bs.below h hb), stab_is _, stab_is _, stab_is _, stab_is _, stab_is _, (fun _ _ _ h hb => Bs.below h hb), (fun _ _ _ h hb => Bs.below h hb), (fun _ _ _ h hb => Bs.below h hb), trivial⟩ ?step2 ?fin2
    case step2 =>
      refine ⟨fun wq hbq Kq hKq => ?_, fun wq hbq Kq hKq => ?_, fun wq hbq Kq hKq => ?_, fun wq hbq Kq hKq => ?_, fun wq hbq Kq hKq => ?_, fun wq hbq Kq hKq => ?_, fun wq hbq Kq hKq => ?_, fun wq hbq Kq hKq => ?_, fun wq hbq Kq hKq => ?_, fun wq hbq Kq hKq => ?_, fun wq hbq Kq hKq => ?_, fun wq hbq Kq hKq => ?_, fun wq hbq Kq hKq => ?_, fun wq hbq Kq hKq => ?_, fun wq hbq Kq hKq => ?_, fun wq hbq Kq hKq => ?_, trivial⟩
      · have c0 := cell_bel hbq c0; have c1 := cell_bel hbq c1
        refine WR.s ?_; refine WR.nil ?_; exact Ends.one hKq rfl rfl (Below.refl _ _)
      · have c0 := cell_bel hbq c0; have c1 := cell_bel hbq c1
        refine WR.s ?_; refine WR.nil ?_; exact Ends.one hKq rfl rfl (Below.refl _ _)
      · have c0 := cell_bel hbq c0; have c1 := cell_bel hbq c1
        refine WR.s ?_; refine WR.nil ?_; exact Ends.one hKq rfl rfl (Below.refl _ _)
      · rintro _ rfl _ rfl
        have c0 := cell_bel hbq c0; have c1 := cell_bel hbq c1
        refine WR.ix ?_; refine WR.nil ?_; exact Ends.one hKq rfl rfl (Below.refl _ _)
      · rintro _ rfl
        have c0 := cell_bel hbq c0; have c1 := cell_bel hbq c1
        refine WR.s ?_; refine WR.nil ?_; exact Ends.one hKq rfl rfl (Below.refl _ _)
      · rintro _ rfl
        have c0 := cell_bel hbq c0; have c1 := cell_bel hbq c1
        refine WR.ix ?_; refine WR.nil ?_; exact Ends.one hKq rfl rfl (Below.refl _ _)
      · rintro _ rfl
        have c0 := cell_bel hbq c0; have c1 := cell_bel hbq c1
        refine WR.conv (by rfl) (by rfl) ?_; rw [conv8]; refine WR.nil ?_; exact Ends.one hKq rfl rfl (Below.refl _ _)
      · rintro _ rfl
        have c0 := cell_bel hbq c0; have c1 := cell_bel hbq c1
        refine WR.row1 Try.el8 (by decide) (by rfl) (by rfl) (by rfl) fun wy hby hsy => ?_; refine WR.nil ?_; exact Ends.one hKq rfl (show Bs wy _ _ [UInt8.ofNat k] from Sl.imp hsy (fun b _ hb => Nat.le_trans hbq.size hb) (by decide)) hby 
      · have c0 := cell_bel hbq c0; have c1 := cell_bel hbq c1
        refine WR.s ?_; refine WR.nil ?_; exact Ends.one hKq rfl rfl (Below.refl _ _)
      · have c0 := cell_bel hbq c0; have c1 := cell_bel hbq c1
        refine WR.s ?_; refine WR.nil ?_; exact Ends.one hKq rfl rfl (Below.refl _ _)
      · rintro _ rfl _ rfl
        have c0 := cell_bel hbq c0; have c1 := cell_bel hbq c1
        refine WR.ix ?_; refine WR.nil ?_; exact Ends.one hKq rfl rfl (Below.refl _ _)
      · rintro _ rfl
        have c0 := cell_bel hbq c0; have c1 := cell_bel hbq c1
        refine WR.s ?_; refine WR.nil ?_; exact Ends.one hKq rfl rfl (Below.refl _ _)
      · rintro _ rfl
        have c0 := cell_bel hbq c0; have c1 := cell_bel hbq c1
        refine WR.ix ?_; refine WR.nil ?_; exact Ends.one hKq rfl rfl (Below.refl _ _)
      · rintro _ rfl
        have c0 := cell_bel hbq c0; have c1 := cell_bel hbq c1
        refine WR.call (by rfl) (by rfl) (named_any name _ (by omega)) ?_; rintro _ wy ⟨v', rfl, h1, hb⟩; refine ⟨_, rfl, ?_⟩; refine WR.nil ?_; exact Ends.one hKq rfl (h1.low hbq.size).bs hb 
      · rintro v7 h7 v13 h13
        have c0 := cell_bel hbq c0; have c1 := cell_bel hbq c1
        refine WR.call (by rfl) (by rfl) (both_any _ _ _ _ _ _ _ h7 h13 (by simp) (by omega)) ?_; rintro _ wy ⟨v', rfl, h1, hb⟩; refine ⟨_, rfl, ?_⟩; refine WR.nil ?_; exact Ends.one hKq rfl (h1.low hbq.size).bs hb 
      · rintro _ rfl v14 h14
        have c0 := cell_bel hbq c0; have c1 := cell_bel hbq c1
        refine WR.call (by rfl) (by rfl) (both_any _ _ _ _ _ _ _ (Bs.below hob hbq) h14 (by omega) (by simp only [List.length_append, List.length_cons, List.length_nil]; omega)) ?_; rintro _ wy ⟨v', rfl, h1, hb⟩; refine ⟨_, rfl, ?_⟩; refine WR.nil ?_; exact Ends.one hKq rfl (h1.low hbq.size).bs hb 
    intro wq hbq
    rintro _ rfl _ rfl _ rfl _ rfl _ rfl _ rfl _ rfl v7 h7 _ rfl _ rfl _ rfl _ rfl _ rfl v13 h13 v14 h14 v15 h15
    refine WR.id ?_
    have c0 := cell_bel hbq c0; have c1 := cell_bel hbq c1
    replace M := (M.new hbq (bs_zsl h15) fun b hb => hb.1).freeze.dropz2
    obtain ⟨A3, c5, rfl, -⟩ := Bs.open_ h15
    have hyl : (out ++ ([UInt8.ofNat k] ++ nameB name)).length ≤ 300100 := by simp only [List.length_append, List.length_cons, List.length_nil]; omega
    clear hob h7 h13 h14 h15 hbi c0 c1 c2 c3 c4
    obtain ⟨_, _, Fb2, hA, c0, c1, c2, c3, c4, hbi⟩ := op_cells M 1 rfl hx
    cases hA
    obtain ⟨_, hob⟩ := M.zbs 0 rfl
    dsimp only at c0 c1 c2 c3 c4 hbi
    rcases (by omega : k = 1 ∨ k = 2 ∨ k = 3 ∨ k = 4) with rfl | rfl | rfl | rfl
    · (repeat (first | (refine WR.id ?_; first | refine WR.nil ?_ | refine WR.s ?_ | refine WR.g ?_ | refine WR.ix ?_) | (refine W.id ?_; first | refine W.seq fun _ _ => ?_ | refine W.region ?_ | refine W.s ?_ | refine W.e ?_) | (refine Ends.id ?_; first | refine Ends.seq (by assumption) ?_ | refine Ends.s ?_)))
      refine WR.call rfl rfl (counted_any hbi (by omega)) ?_
      rintro _ wx1 ⟨vx1, rfl, hx1, hbx1⟩
      refine ⟨_, rfl, ?_⟩
      replace M := M.below hbx1
      (repeat (first | (refine WR.id ?_; first | refine WR.nil ?_ | refine WR.s ?_ | refine WR.g ?_) | (refine W.id ?_; first | refine W.seq fun _ _ => ?_ | refine W.region ?_ | refine W.s ?_ | refine W.e ?_) | (refine Ends.id ?_; first | refine Ends.seq (by assumption) ?_ | refine Ends.s ?_)))
      refine WR.call rfl rfl (both_any _ _ _ _ _ _ _ (Bs.below hob hbx1) hx1.bs (by omega) (by simp only [countB, List.length_append, be_len]; omega)) ?_
      rintro _ wy1 ⟨vy1, rfl, hy1, hby1⟩
      refine ⟨_, rfl, ?_⟩
      replace M := (M.new hby1 (bs_zsl hy1.bs) fun b hb => hb.1).freeze.dropz2
      obtain ⟨Ay1, cy1, rfl, -⟩ := hy1.bs.open_
      clear hx1 hy1
      clear c0 c1 c2 c3 c4 hbi hob
      obtain ⟨_, _, Fb3, hA, c0, c1, c2, c3, c4, hbi⟩ := op_cells M 1 rfl hx
      cases hA
      obtain ⟨_, hob⟩ := M.zbs 0 rfl
      dsimp only at c0 c1 c2 c3 c4 hbi
      (repeat (first | (refine WR.id ?_; first | refine WR.nil ?_ | refine WR.s ?_ | refine WR.g ?_ | refine WR.ix ?_) | (refine W.id ?_; first | refine W.seq fun _ _ => ?_ | refine W.region ?_ | refine W.s ?_ | refine W.e ?_) | (refine Ends.id ?_; first | refine Ends.seq (by assumption) ?_ | refine Ends.s ?_)))
      exact Ends.round hK (i + 1, (out ++ ([UInt8.ofNat 1] ++ nameB name)) ++ countB bytes, Ay1, cy1) (by repeat (first | exact .nil | refine .cons rfl ?_)) ⟨by dsimp only; omega, (hc _ (by simp [opB])).symm, M⟩ (by dsimp only; omega)
    · (repeat (first | (refine WR.id ?_; first | refine WR.nil ?_ | refine WR.s ?_ | refine WR.g ?_ | refine WR.ix ?_) | (refine W.id ?_; first | refine W.seq fun _ _ => ?_ | refine W.region ?_ | refine W.s ?_ | refine W.e ?_) | (refine Ends.id ?_; first | refine Ends.seq (by assumption) ?_ | refine Ends.s ?_)))
      rw [show IntKind.u64.wrap ((a : Nat) : Int) = ((a : Nat) : Int) from by rw [IntKind.wrap_u64]; omega]
      refine WR.call rfl rfl (high_any a 2 _ (by decide) (by omega)) ?_
      rintro _ wx1 ⟨vx1, rfl, hx1, hbx1⟩
      refine ⟨_, rfl, ?_⟩
      replace M := M.below hbx1
      (repeat (first | (refine WR.id ?_; first | refine WR.nil ?_ | refine WR.s ?_ | refine WR.g ?_) | (refine W.id ?_; first | refine W.seq fun _ _ => ?_ | refine W.region ?_ | refine W.s ?_ | refine W.e ?_) | (refine Ends.id ?_; first | refine Ends.seq (by assumption) ?_ | refine Ends.s ?_)))
      refine WR.call rfl rfl (both_any _ _ _ _ _ _ _ (Bs.below hob hbx1) hx1.bs (by omega) (by rw [be_len]; decide)) ?_
      rintro _ wy1 ⟨vy1, rfl, hy1, hby1⟩
      refine ⟨_, rfl, ?_⟩
      replace M := (M.new hby1 (bs_zsl hy1.bs) fun b hb => hb.1).freeze.dropz2
      obtain ⟨Ay1, cy1, rfl, -⟩ := hy1.bs.open_
      clear hx1 hy1
      clear c0 c1 c2 c3 c4 hbi hob
      obtain ⟨_, _, Fb3, hA, c0, c1, c2, c3, c4, hbi⟩ := op_cells M 1 rfl hx
      cases hA
      obtain ⟨_, hob⟩ := M.zbs 0 rfl
      dsimp only at c0 c1 c2 c3 c4 hbi
      (repeat (first | (refine WR.id ?_; first | refine WR.nil ?_ | refine WR.s ?_ | refine WR.g ?_ | refine WR.ix ?_) | (refine W.id ?_; first | refine W.seq fun _ _ => ?_ | refine W.region ?_ | refine W.s ?_ | refine W.e ?_) | (refine Ends.id ?_; first | refine Ends.seq (by assumption) ?_ | refine Ends.s ?_)))
      refine WR.call rfl rfl (counted_any hbi (by omega)) ?_
      rintro _ wx2 ⟨vx2, rfl, hx2, hbx2⟩
      refine ⟨_, rfl, ?_⟩
      replace M := M.below hbx2
      (repeat (first | (refine WR.id ?_; first | refine WR.nil ?_ | refine WR.s ?_ | refine WR.g ?_) | (refine W.id ?_; first | refine W.seq fun _ _ => ?_ | refine W.region ?_ | refine W.s ?_ | refine W.e ?_) | (refine Ends.id ?_; first | refine Ends.seq (by assumption) ?_ | refine Ends.s ?_)))
      refine WR.call rfl rfl (both_any _ _ _ _ _ _ _ (Bs.below hob hbx2) hx2.bs (by rw [List.length_append, be_len]; omega) (by simp only [countB, List.length_append, be_len]; omega)) ?_
      rintro _ wy2 ⟨vy2, rfl, hy2, hby2⟩
      refine ⟨_, rfl, ?_⟩
      replace M := (M.new hby2 (bs_zsl hy2.bs) fun b hb => hb.1).freeze.dropz2
      obtain ⟨Ay2, cy2, rfl, -⟩ := hy2.bs.open_
      clear hx2 hy2
      clear c0 c1 c2 c3 c4 hbi hob
      obtain ⟨_, _, Fb3, hA, c0, c1, c2, c3, c4, hbi⟩ := op_cells M 1 rfl hx
      cases hA
      obtain ⟨_, hob⟩ := M.zbs 0 rfl
      dsimp only at c0 c1 c2 c3 c4 hbi
      (repeat (first | (refine WR.id ?_; first | refine WR.nil ?_ | refine WR.s ?_ | refine WR.g ?_ | refine WR.ix ?_) | (refine W.id ?_; first | refine W.seq fun _ _ => ?_ | refine W.region ?_ | refine W.s ?_ | refine W.e ?_) | (refine Ends.id ?_; first | refine Ends.seq (by assumption) ?_ | refine Ends.s ?_)))
      exact Ends.round hK (i + 1, ((out ++ ([UInt8.ofNat 2] ++ nameB name)) ++ be a 2) ++ countB bytes, Ay2, cy2) (by repeat (first | exact .nil | refine .cons rfl ?_)) ⟨by dsimp only; omega, by dsimp only; rw [List.append_assoc (out ++ ([UInt8.ofNat 2] ++ nameB name))]; exact (hc _ (by simp [opB])).symm, M⟩ (by dsimp only; omega)
    · have hnew := p7 rfl
      (repeat (first | (refine WR.id ?_; first | refine WR.nil ?_ | refine WR.s ?_ | refine WR.g ?_ | refine WR.ix ?_) | (refine W.id ?_; first | refine W.seq fun _ _ => ?_ | refine W.region ?_ | refine W.s ?_ | refine W.e ?_) | (refine Ends.id ?_; first | refine Ends.seq (by assumption) ?_ | refine Ends.s ?_)))
      refine WR.call rfl rfl (named_any new _ (by omega)) ?_
      rintro _ wx1 ⟨vx1, rfl, hx1, hbx1⟩
      refine ⟨_, rfl, ?_⟩
      replace M := M.below hbx1
      (repeat (first | (refine WR.id ?_; first | refine WR.nil ?_ | refine WR.s ?_ | refine WR.g ?_) | (refine W.id ?_; first | refine W.seq fun _ _ => ?_ | refine W.region ?_ | refine W.s ?_ | refine W.e ?_) | (refine Ends.id ?_; first | refine Ends.seq (by assumption) ?_ | refine Ends.s ?_)))
      refine WR.call rfl rfl (both_any _ _ _ _ _ _ _ (Bs.below hob hbx1) hx1.bs (by omega) (by simp only [nameB, List.length_cons]; omega)) ?_
      rintro _ wy1 ⟨vy1, rfl, hy1, hby1⟩
      refine ⟨_, rfl, ?_⟩
      replace M := (M.new hby1 (bs_zsl hy1.bs) fun b hb => hb.1).freeze.dropz2
      obtain ⟨Ay1, cy1, rfl, -⟩ := hy1.bs.open_
      clear hx1 hy1
      clear c0 c1 c2 c3 c4 hbi hob
      obtain ⟨_, _, Fb3, hA, c0, c1, c2, c3, c4, hbi⟩ := op_cells M 1 rfl hx
      cases hA
      obtain ⟨_, hob⟩ := M.zbs 0 rfl
      dsimp only at c0 c1 c2 c3 c4 hbi
      (repeat (first | (refine WR.id ?_; first | refine WR.nil ?_ | refine WR.s ?_ | refine WR.g ?_ | refine WR.ix ?_) | (refine W.id ?_; first | refine W.seq fun _ _ => ?_ | refine W.region ?_ | refine W.s ?_ | refine W.e ?_) | (refine Ends.id ?_; first | refine Ends.seq (by assumption) ?_ | refine Ends.s ?_)))
      exact Ends.round hK (i + 1, (out ++ ([UInt8.ofNat 3] ++ nameB name)) ++ nameB new, Ay1, cy1) (by repeat (first | exact .nil | refine .cons rfl ?_)) ⟨by dsimp only; omega, (hc _ (by simp [opB])).symm, M⟩ (by dsimp only; omega)
    · (repeat (first | (refine WR.id ?_; first | refine WR.nil ?_ | refine WR.s ?_ | refine WR.g ?_ | refine WR.ix ?_) | (refine W.id ?_; first | refine W.seq fun _ _ => ?_ | refine W.region ?_ | refine W.s ?_ | refine W.e ?_) | (refine Ends.id ?_; first | refine Ends.seq (by assumption) ?_ | refine Ends.s ?_)))
      exact Ends.round hK (i + 1, (out ++ ([UInt8.ofNat 4] ++ nameB name)), A3, c5) (by repeat (first | exact .nil | refine .cons rfl ?_)) ⟨by dsimp only; omega, by
        have e := hc [] (by simp [opB])
        rw [List.append_nil] at e
        exact e.symm, M⟩ (by dsimp only; omega)
  · obtain rfl : i = os.length := by omega
    obtain ⟨_, hob⟩ := M.zbs 0 rfl
    (repeat (first | (refine WR.id ?_; first | refine WR.nil ?_ | refine WR.s ?_ | refine WR.g ?_) | (refine W.id ?_; first | refine W.seq fun _ _ => ?_ | refine W.region ?_ | refine W.s ?_ | refine W.e ?_) | (refine Ends.id ?_; first | refine Ends.seq (by assumption) ?_ | refine Ends.s ?_)))
    refine Ends.ret1 rfl rfl ⟨_, rfl, ⟨_, by rw [show opsB (ops os) = out from by rw [hout]; unfold opsB; rw [ops_len, List.take_of_length_le (by rw [ops_len]; omega)]]; exact hob⟩, M.pre 2 rfl⟩
end Go.Proofs.Ytjgobljclodpfaa
