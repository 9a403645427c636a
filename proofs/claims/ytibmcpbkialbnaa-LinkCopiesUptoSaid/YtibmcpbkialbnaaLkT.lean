/- Layer 12's reference: spoilt. No condition beyond sizes. -/
import Derived.Test.YtibmcpbkialbnaaLkS
namespace Go.Proofs.Ytibmcpbkialbnaa
open Go.RowKit K L E
open Go.Maps (Keyed)
set_option linter.unusedVariables false
set_option linter.unusedSimpArgs false

theorem bit_xor : ∀ (x : Fin 256) (s : Fin 8), (x.val ^^^ 2 ^ s.val) = if x.val / 2 ^ s.val % 2 = 1 then x.val - 2 ^ s.val else x.val + 2 ^ s.val := by decide +kernel
theorem bit_u8 (x : UInt8) (s : Nat) (h : s ≤ 7) : ((x ^^^ UInt8.ofNat (2 ^ s)).toNat) = if x.toNat / 2 ^ s % 2 = 1 then x.toNat - 2 ^ s else x.toNat + 2 ^ s := by
  have hx := x.toNat_lt
  have h2 : 2 ^ s < 256 := Nat.lt_of_le_of_lt (Nat.pow_le_pow_right (by decide) h) (by decide)
  have e : (UInt8.ofNat (2 ^ s)).toNat = 2 ^ s := by rw [UInt8.toNat_ofNat']; exact Nat.mod_eq_of_lt h2
  rw [UInt8.toNat_xor, e]
  exact bit_xor ⟨x.toNat, by simpa using hx⟩ ⟨s, by omega⟩
theorem dbl_u8 {P : Program} {t : TypeId} {w : World} (s : Nat) (h : s < 7) : (binOp .mul t (.int .u8 ((2 ^ s : Nat) : Int)) (.int .u8 2)).run P w = .ok (.int .u8 ((2 ^ (s + 1) : Nat) : Int)) w := by
  rcases (by omega : s = 0 ∨ s = 1 ∨ s = 2 ∨ s = 3 ∨ s = 4 ∨ s = 5 ∨ s = 6) with rfl | rfl | rfl | rfl | rfl | rfl | rfl <;> rfl
theorem wrap_u8 {i : Nat} (h : i < 256) : IntKind.u8.wrap (i : Int) = (i : Nat) := by
  simp [IntKind.wrap, IntKind.bits, IntKind.signed]; omega
theorem sub_u8 {P : Program} {t : TypeId} {w : World} (a b : Nat) (h : b ≤ a) (ha : a < 256) : (binOp .sub t (.int .u8 (a : Nat)) (.int .u8 (b : Nat))).run P w = .ok (.int .u8 ((a - b : Nat) : Int)) w := by
  rw [binOp_sub]
  simp only [Op.intArith]
  rw [show ((a : Int) - (b : Int)) = ((a - b : Nat) : Int) from by omega, wrap_u8 (by omega)]
  rfl
theorem add_u8 {P : Program} {t : TypeId} {w : World} (a b : Nat) (h : a + b < 256) : (binOp .add t (.int .u8 (a : Nat)) (.int .u8 (b : Nat))).run P w = .ok (.int .u8 ((a + b : Nat) : Int)) w := by
  rw [binOp_add]
  simp only [Op.intArith]
  rw [show ((a : Int) + (b : Int)) = ((a + b : Nat) : Int) from by omega, wrap_u8 h]
  rfl
variable {w : World} {Os Zs : List Ass}
/-- A row of flights shut again, with one of them another. -/
theorem E.Mem.unflight1 {w : World} {v vb : Value} {f1 f2 : List PF} {f : PF} {v1 v2 : List Value} {n : Nat} {x : Ass} {Os Zs : List Ass} (hv1 : v1.length = f1.length) (hv2 : v2.length = f2.length) (hn : n = (f1 ++ f :: f2).length)
    (M : Mem w (aBy vb f.bytes :: aLr 24 4 v n (List.zipWith PF.cells (f1 ++ f :: f2) (v1 ++ vb :: v2)).flatten :: x :: (List.zipWith (fun v (f : PF) => aBy v f.bytes) (v1 ++ v2) (f1 ++ f2) ++ Os)) Zs) : Mem w (aFl v (f1 ++ f :: f2) :: Os) Zs := by
  subst hn
  refine (E.Mem.mkFl (v1 ++ vb :: v2) (by simp [hv1, hv2]) ?_)
  refine M.swap.under1 fun M => ?_
  refine M.swap.drop.perm ?_
  rw [List.zipWith_append hv1, List.zipWith_append hv1, List.zipWith_cons_cons, List.append_assoc, List.append_assoc]
  exact List.perm_middle.symm
set_option maxHeartbeats 2000000 in
theorem rspoil_any (v : Value) (fs : List PF) (p : PK) (n bit : Int) (w : World) (F : Nat → Prop) (h : (aFl v fs).p w F) (hn : fs.length ≤ 512) (hb : ∀ f ∈ fs, f.bytes.length ≤ 1048576) (hbit : i64 bit) :
    Calls Try.prog 36 #[.agg #[v], .int .i64 p.1, .int .i64 p.2, .int .i64 n, .int .i64 bit] w fun r w' => ∃ v', r = .returned (.tuple #[.agg #[v'], .int .i64 (RF.spoil fs p n bit).1]) ∧ GotZ w w' F (aFl v' (RF.spoil fs p n bit).2) := by
  obtain ⟨vs, hvl, hx⟩ := afl_fx h
  obtain ⟨A, cp, rfl⟩ := aFl_sl h
  have M := Mem.src hx
  refine enter Try.func36 rfl Try.ntmps36 rfl rfl ?_
  (repeat (first | (refine WR.id ?_; first | refine WR.nil ?_ | refine WR.s ?_ | refine WR.g ?_) | (refine W.id ?_; first | refine W.seq fun _ _ => ?_ | refine W.region ?_ | refine W.s ?_ | refine W.e ?_) | (refine Ends.id ?_; first | refine Ends.seq (by assumption) ?_ | refine Ends.s ?_)))
  refine WR.box rfl (cs := #[.slice A fs.length cp]) rfl rfl fun w1 hb1 hx1 hs1 => ?_
  replace M := (M.newBox (cs := [.slice A fs.length cp]) hb1 hx1)
  refine WR.alloc (by rfl) fun w2 hb2 hx2 hs2 => ?_
  replace M := (M.newBox (cs := [.slice none 0 0]) hb2 hx2)
  have hb8 := hb1.size
  generalize w1.heap.size = b8 at M hb8 ⊢
  have hB := M.swap.box
  (repeat (first | (refine WR.id ?_; first | refine WR.nil ?_ | refine WR.s ?_ | refine WR.g ?_) | (refine W.id ?_; first | refine W.seq fun _ _ => ?_ | refine W.region ?_ | refine W.s ?_ | refine W.e ?_) | (refine Ends.id ?_; first | refine Ends.seq (by assumption) ?_ | refine Ends.s ?_)))
  refine WR.call rfl rfl (of_any _ fs p _ _ (fl_below h (M.pre 1 rfl)) (by omega)) ?_
  clear hB
  rintro _ w3 ⟨Ao, co, rfl, hfo⟩
  refine ⟨_, rfl, ?_⟩
  replace M := (M.add hfo).freeze
  have hB := M.swap.box
  have hol : (RF.of fs p).length ≤ fs.length := idx_le _ _
  by_cases h0 : n < 0
  · have hr : RF.spoil fs p n bit = (4, fs) := by unfold RF.spoil; rw [if_pos h0]
    (repeat (first | (refine WR.id ?_; first | refine WR.nil ?_ | refine WR.s ?_ | refine WR.g ?_) | (refine W.id ?_; first | refine W.seq fun _ _ => ?_ | refine W.region ?_ | refine W.s ?_ | refine W.e ?_) | (refine Ends.id ?_; first | refine Ends.seq (by assumption) ?_ | refine Ends.s ?_)))
    refine WR.storeAgg (cs' := [.slice A fs.length cp]) M.box (by rfl) (by rfl) (by rfl) (by rfl) (by intro u hu; obtain rfl := List.mem_singleton.1 hu; rfl) fun w5 hu5 hx5 hs5 => ?_
    replace M := M.setBox hu5 hx5
    (repeat (first | (refine WR.id ?_; first | refine WR.nil ?_ | refine WR.s ?_ | refine WR.g ?_) | (refine W.id ?_; first | refine W.seq fun _ _ => ?_ | refine W.region ?_ | refine W.s ?_ | refine W.e ?_) | (refine Ends.id ?_; first | refine Ends.seq (by assumption) ?_ | refine Ends.s ?_)))
    exact Ends.retCT rfl (by rfl) (by rfl) (hx5.load (by rfl)) (by rw [hr]; exact ⟨_, rfl, GotZ.keep h (M.pre 2 rfl)⟩)
  by_cases h9 : ((RF.of fs p).length : Int) ≤ n
  · have hr : RF.spoil fs p n bit = (4, fs) := by unfold RF.spoil; rw [if_neg h0, List.getElem?_eq_none (by omega)]
    (repeat (first | (refine WR.id ?_; first | refine WR.nil ?_ | refine WR.s ?_ | refine WR.g ?_) | (refine W.id ?_; first | refine W.seq fun _ _ => ?_ | refine W.region ?_ | refine W.s ?_ | refine W.e ?_) | (refine Ends.id ?_; first | refine Ends.seq (by assumption) ?_ | refine Ends.s ?_)))
    refine WR.storeAgg (cs' := [.slice A fs.length cp]) M.box (by rfl) (by rfl) (by rfl) (by rfl) (by intro u hu; obtain rfl := List.mem_singleton.1 hu; rfl) fun w5 hu5 hx5 hs5 => ?_
    replace M := M.setBox hu5 hx5
    (repeat (first | (refine WR.id ?_; first | refine WR.nil ?_ | refine WR.s ?_ | refine WR.g ?_) | (refine W.id ?_; first | refine W.seq fun _ _ => ?_ | refine W.region ?_ | refine W.s ?_ | refine W.e ?_) | (refine Ends.id ?_; first | refine Ends.seq (by assumption) ?_ | refine Ends.s ?_)))
    exact Ends.retCT rfl (by rfl) (by rfl) (hx5.load (by rfl)) (by rw [hr]; exact ⟨_, rfl, GotZ.keep h (M.pre 2 rfl)⟩)
  obtain ⟨k, rfl⟩ : ∃ k : Nat, n = k := ⟨n.toNat, by omega⟩
  obtain ⟨i, hi⟩ : ∃ i, (RF.of fs p)[k]? = some i := ⟨_, List.getElem?_eq_getElem (by omega)⟩
  have hil : i < fs.length := idx_lt (List.mem_of_getElem? hi)
  obtain ⟨f, hf⟩ : ∃ f, fs[i]? = some f := ⟨_, List.getElem?_eq_getElem hil⟩
  have hr : RF.spoil fs p (k : Nat) bit = if bit < 0 ∨ 8 * (f.bytes.length : Int) ≤ bit then (2, fs) else (0, fs.set i { f with bytes := turnB f.bytes bit.toNat }) := by unfold RF.spoil; rw [if_neg h0]; simp only [Int.toNat_natCast, hi, hf]
  obtain ⟨Fo, hFo⟩ := M.z 0 rfl
  obtain ⟨go, rfl⟩ := lrow_some hFo.2 (by omega)
  have hci := nat_cell hFo.2 hi
  obtain ⟨Fz, hz⟩ := M.z 1 rfl
  obtain ⟨g, c, Ab, q, hA, hrg, -⟩ := elem_fl hvl hz hf
  cases hA
  have hrc := hrg 3 _ rfl
  have hfb := hb f (List.mem_of_getElem? hf)
  by_cases hk0 : bit < 0
  · rw [if_pos (.inl hk0)] at hr
    (repeat (first | (refine WR.id ?_; first | refine WR.nil ?_ | refine WR.s ?_ | refine WR.g ?_) | (refine W.id ?_; first | refine W.seq fun _ _ => ?_ | refine W.region ?_ | refine W.s ?_ | refine W.e ?_) | (refine Ends.id ?_; first | refine Ends.seq (by assumption) ?_ | refine Ends.s ?_)))
    apply W.draws [[], [0], [1], [2], [2], [4, 2], [2], [2], [6, 7, 2], [8, 2], [5, 9, 2], [10, 2], [11, 2], [12, 2], [13, 2], [3, 14, 2], [2, 15]]
      [is _, is _, is _, is _, is _, is _, is _, is _, is _, is _, is _, is _, is _, is _, is _, is _, is _] (by kernel_rfl) (by kernel_rfl) (by rfl) (by kernel_rfl) ⟨stab_is _, stab_is _, stab_is _, stab_is _, stab_is _, stab_is _, stab_is _, stab_is _, stab_is _, stab_is _, stab_is _, stab_is _, stab_is _, stab_is _, stab_is _, stab_is _, stab_is _, trivial⟩ ?step1 ?fin1
    case step1 =>
      refine ⟨fun wq hbq Kq hKq => ?_, fun wq hbq Kq hKq => ?_, fun wq hbq Kq hKq => ?_, fun wq hbq Kq hKq => ?_, fun wq hbq Kq hKq => ?_, fun wq hbq Kq hKq => ?_, fun wq hbq Kq hKq => ?_, fun wq hbq Kq hKq => ?_, fun wq hbq Kq hKq => ?_, fun wq hbq Kq hKq => ?_, fun wq hbq Kq hKq => ?_, fun wq hbq Kq hKq => ?_, fun wq hbq Kq hKq => ?_, fun wq hbq Kq hKq => ?_, fun wq hbq Kq hKq => ?_, fun wq hbq Kq hKq => ?_, fun wq hbq Kq hKq => ?_, trivial⟩
      · have Mq := M.below hbq; have hB := Mq.swap.box
        refine WR.s ?_; refine WR.nil ?_; exact Ends.one hKq rfl rfl (Below.refl _ _)
      · rintro _ rfl
        have Mq := M.below hbq; have hB := Mq.swap.box
        refine WR.s ?_; refine WR.nil ?_; exact Ends.one hKq rfl rfl (Below.refl _ _)
      · rintro _ rfl
        have Mq := M.below hbq; have hB := Mq.swap.box
        refine WR.s ?_; refine WR.nil ?_; exact Ends.one hKq rfl rfl (Below.refl _ _)
      · rintro _ rfl
        have Mq := M.below hbq; have hB := Mq.swap.box
        first
          | (refine WR.guard_yes rfl rfl ?_; refine WR.s ?_; refine WR.nil ?_; exact Ends.one hKq rfl rfl (Below.refl _ _))
          | (refine WR.gn ?_; refine WR.nil ?_; exact Ends.one hKq rfl rfl (Below.refl _ _))
      · rintro _ rfl
        have Mq := M.below hbq; have hB := Mq.swap.box
        first
          | (refine WR.guard_yes rfl rfl ?_; refine WR.s ?_; refine WR.nil ?_; exact Ends.one hKq rfl rfl (Below.refl _ _))
          | (refine WR.gn ?_; refine WR.nil ?_; exact Ends.one hKq rfl rfl (Below.refl _ _))
      · rintro _ rfl _ rfl
        have Mq := M.below hbq; have hB := Mq.swap.box
        first
          | (refine WR.guard_yes rfl rfl ?_; refine WR.s ?_; refine WR.nil ?_; exact Ends.one hKq rfl rfl (Below.refl _ _))
          | (refine WR.gn ?_; refine WR.nil ?_; exact Ends.one hKq rfl rfl (Below.refl _ _))
      · rintro _ rfl
        have Mq := M.below hbq; have hB := Mq.swap.box
        first
          | (refine WR.guard_yes rfl rfl ?_; refine WR.s ?_; refine WR.nil ?_; exact Ends.one hKq rfl rfl (Below.refl _ _))
          | (refine WR.gn ?_; refine WR.nil ?_; exact Ends.one hKq rfl rfl (Below.refl _ _))
      · rintro _ rfl
        have Mq := M.below hbq; have hB := Mq.swap.box
        first
          | (refine WR.guard_yes rfl rfl ?_; refine WR.s ?_; refine WR.nil ?_; exact Ends.one hKq rfl rfl (Below.refl _ _))
          | (refine WR.gn ?_; refine WR.nil ?_; exact Ends.one hKq rfl rfl (Below.refl _ _))
      · rintro _ rfl _ rfl _ rfl
        have Mq := M.below hbq; have hB := Mq.swap.box
        first
          | (refine WR.guard_yes rfl rfl ?_; fail; refine WR.nil ?_; exact Ends.one hKq rfl rfl (Below.refl _ _))
          | (refine WR.gn ?_; refine WR.nil ?_; exact Ends.one hKq rfl rfl (Below.refl _ _))
      · rintro _ rfl _ rfl
        have Mq := M.below hbq; have hB := Mq.swap.box
        first
          | (refine WR.guard_yes rfl rfl ?_; refine WR.s ?_; refine WR.nil ?_; exact Ends.one hKq rfl rfl (Below.refl _ _))
          | (refine WR.gn ?_; refine WR.nil ?_; exact Ends.one hKq rfl rfl (Below.refl _ _))
      · rintro _ rfl _ rfl _ rfl
        have Mq := M.below hbq; have hB := Mq.swap.box
        first
          | (refine WR.guard_yes rfl rfl ?_; fail; refine WR.nil ?_; exact Ends.one hKq rfl rfl (Below.refl _ _))
          | (refine WR.gn ?_; refine WR.nil ?_; exact Ends.one hKq rfl rfl (Below.refl _ _))
      · rintro _ rfl _ rfl
        have Mq := M.below hbq; have hB := Mq.swap.box
        first
          | (refine WR.guard_yes rfl rfl ?_; refine WR.s ?_; refine WR.nil ?_; exact Ends.one hKq rfl rfl (Below.refl _ _))
          | (refine WR.gn ?_; refine WR.nil ?_; exact Ends.one hKq rfl rfl (Below.refl _ _))
      · rintro _ rfl _ rfl
        have Mq := M.below hbq; have hB := Mq.swap.box
        first
          | (refine WR.guard_yes rfl rfl ?_; refine WR.s ?_; refine WR.nil ?_; exact Ends.one hKq rfl rfl (Below.refl _ _))
          | (refine WR.gn ?_; refine WR.nil ?_; exact Ends.one hKq rfl rfl (Below.refl _ _))
      · rintro _ rfl _ rfl
        have Mq := M.below hbq; have hB := Mq.swap.box
        first
          | (refine WR.guard_yes rfl rfl ?_; refine WR.s ?_; refine WR.nil ?_; exact Ends.one hKq rfl rfl (Below.refl _ _))
          | (refine WR.gn ?_; refine WR.nil ?_; exact Ends.one hKq rfl rfl (Below.refl _ _))
      · rintro _ rfl _ rfl
        have Mq := M.below hbq; have hB := Mq.swap.box
        first
          | (refine WR.guard_yes rfl rfl ?_; fail; refine WR.nil ?_; exact Ends.one hKq rfl rfl (Below.refl _ _))
          | (refine WR.gn ?_; refine WR.nil ?_; exact Ends.one hKq rfl rfl (Below.refl _ _))
      · rintro _ rfl _ rfl _ rfl
        have Mq := M.below hbq; have hB := Mq.swap.box
        first
          | (refine WR.guard_yes rfl rfl ?_; refine WR.s ?_; refine WR.nil ?_; exact Ends.one hKq rfl rfl (Below.refl _ _))
          | (refine WR.gn ?_; refine WR.nil ?_; exact Ends.one hKq rfl rfl (Below.refl _ _))
      · rintro _ rfl _ rfl
        have Mq := M.below hbq; have hB := Mq.swap.box
        refine WR.s ?_; refine WR.nil ?_; exact Ends.one hKq rfl rfl (Below.refl _ _)
    intro wq hbq
    rintro _ rfl _ rfl _ rfl _ rfl _ rfl _ rfl _ rfl _ rfl _ rfl _ rfl _ rfl _ rfl _ rfl _ rfl _ rfl _ rfl _ rfl
    refine Ends.id ?_
    have Mq := M.below hbq; have hB := Mq.swap.box
    replace M := Mq
    (repeat (first | (refine WR.id ?_; first | refine WR.nil ?_ | refine WR.s ?_ | refine WR.g ?_) | (refine W.id ?_; first | refine W.seq fun _ _ => ?_ | refine W.region ?_ | refine W.s ?_ | refine W.e ?_) | (refine Ends.id ?_; first | refine Ends.seq (by assumption) ?_ | refine Ends.s ?_)))
    refine WR.storeAgg (cs' := [.slice (some ⟨g, 0, none⟩) fs.length cp]) M.box (by rfl) (by rfl) (by rfl) (by rfl) (by intro u hu; obtain rfl := List.mem_singleton.1 hu; rfl) fun w5 hu5 hx5 hs5 => ?_
    replace M := M.setBox hu5 hx5
    (repeat (first | (refine WR.id ?_; first | refine WR.nil ?_ | refine WR.s ?_ | refine WR.g ?_) | (refine W.id ?_; first | refine W.seq fun _ _ => ?_ | refine W.region ?_ | refine W.s ?_ | refine W.e ?_) | (refine Ends.id ?_; first | refine Ends.seq (by assumption) ?_ | refine Ends.s ?_)))
    exact Ends.retCT rfl (by rfl) (by rfl) (hx5.load (by rfl)) (by rw [hr]; exact ⟨_, rfl, GotZ.keep h (M.pre 2 rfl)⟩)
  by_cases hk8 : 8 * (f.bytes.length : Int) ≤ bit
  · rw [if_pos (.inr hk8)] at hr
    (repeat (first | (refine WR.id ?_; first | refine WR.nil ?_ | refine WR.s ?_ | refine WR.g ?_) | (refine W.id ?_; first | refine W.seq fun _ _ => ?_ | refine W.region ?_ | refine W.s ?_ | refine W.e ?_) | (refine Ends.id ?_; first | refine Ends.seq (by assumption) ?_ | refine Ends.s ?_)))
    apply W.draws [[], [0], [1], [2], [2], [4, 2], [2], [2], [6, 7, 2], [8, 2], [5, 9, 2], [10, 2], [11, 2], [12, 2], [13, 2], [3, 14, 2], [2, 15]]
      [is _, is _, is _, is _, is _, is _, is _, is _, is _, is _, is _, is _, is _, is _, is _, is _, is _] (by kernel_rfl) (by kernel_rfl) (by rfl) (by kernel_rfl) ⟨stab_is _, stab_is _, stab_is _, stab_is _, stab_is _, stab_is _, stab_is _, stab_is _, stab_is _, stab_is _, stab_is _, stab_is _, stab_is _, stab_is _, stab_is _, stab_is _, stab_is _, trivial⟩ ?step2 ?fin2
    case step2 =>
      refine ⟨fun wq hbq Kq hKq => ?_, fun wq hbq Kq hKq => ?_, fun wq hbq Kq hKq => ?_, fun wq hbq Kq hKq => ?_, fun wq hbq Kq hKq => ?_, fun wq hbq Kq hKq => ?_, fun wq hbq Kq hKq => ?_, fun wq hbq Kq hKq => ?_, fun wq hbq Kq hKq => ?_, fun wq hbq Kq hKq => ?_, fun wq hbq Kq hKq => ?_, fun wq hbq Kq hKq => ?_, fun wq hbq Kq hKq => ?_, fun wq hbq Kq hKq => ?_, fun wq hbq Kq hKq => ?_, fun wq hbq Kq hKq => ?_, fun wq hbq Kq hKq => ?_, trivial⟩
      · have Mq := M.below hbq; have hB := Mq.swap.box; have hcq := cel_bl hbq hci; have hrq := cel_bl hbq hrc
        refine WR.s ?_; refine WR.nil ?_; exact Ends.one hKq rfl rfl (Below.refl _ _)
      · rintro _ rfl
        have Mq := M.below hbq; have hB := Mq.swap.box; have hcq := cel_bl hbq hci; have hrq := cel_bl hbq hrc
        refine WR.s ?_; refine WR.nil ?_; exact Ends.one hKq rfl rfl (Below.refl _ _)
      · rintro _ rfl
        have Mq := M.below hbq; have hB := Mq.swap.box; have hcq := cel_bl hbq hci; have hrq := cel_bl hbq hrc
        refine WR.s ?_; refine WR.nil ?_; exact Ends.one hKq rfl rfl (Below.refl _ _)
      · rintro _ rfl
        have Mq := M.below hbq; have hB := Mq.swap.box; have hcq := cel_bl hbq hci; have hrq := cel_bl hbq hrc
        first
          | (refine WR.guard_yes rfl rfl ?_; refine WR.s ?_; refine WR.nil ?_; exact Ends.one hKq rfl rfl (Below.refl _ _))
          | (refine WR.gn ?_; refine WR.nil ?_; exact Ends.one hKq rfl rfl (Below.refl _ _))
      · rintro _ rfl
        have Mq := M.below hbq; have hB := Mq.swap.box; have hcq := cel_bl hbq hci; have hrq := cel_bl hbq hrc
        first
          | (refine WR.guard_yes rfl rfl ?_; refine WR.s ?_; refine WR.nil ?_; exact Ends.one hKq rfl rfl (Below.refl _ _))
          | (refine WR.gn ?_; refine WR.nil ?_; exact Ends.one hKq rfl rfl (Below.refl _ _))
      · rintro _ rfl _ rfl
        have Mq := M.below hbq; have hB := Mq.swap.box; have hcq := cel_bl hbq hci; have hrq := cel_bl hbq hrc
        first
          | (refine WR.guard_yes rfl rfl ?_; refine WR.s ?_; refine WR.nil ?_; exact Ends.one hKq rfl rfl (Below.refl _ _))
          | (refine WR.gn ?_; refine WR.nil ?_; exact Ends.one hKq rfl rfl (Below.refl _ _))
      · rintro _ rfl
        have Mq := M.below hbq; have hB := Mq.swap.box; have hcq := cel_bl hbq hci; have hrq := cel_bl hbq hrc
        first
          | (refine WR.guard_yes rfl rfl ?_; refine WR.s ?_; refine WR.nil ?_; exact Ends.one hKq rfl rfl (Below.refl _ _))
          | (refine WR.gn ?_; refine WR.nil ?_; exact Ends.one hKq rfl rfl (Below.refl _ _))
      · rintro _ rfl
        have Mq := M.below hbq; have hB := Mq.swap.box; have hcq := cel_bl hbq hci; have hrq := cel_bl hbq hrc
        first
          | (refine WR.guard_yes rfl rfl ?_; refine WR.s ?_; refine WR.nil ?_; exact Ends.one hKq rfl rfl (Below.refl _ _))
          | (refine WR.gn ?_; refine WR.nil ?_; exact Ends.one hKq rfl rfl (Below.refl _ _))
      · rintro _ rfl _ rfl _ rfl
        have Mq := M.below hbq; have hB := Mq.swap.box; have hcq := cel_bl hbq hci; have hrq := cel_bl hbq hrc
        first
          | (refine WR.guard_yes rfl rfl ?_; refine WR.indexAddr (j := k) (by rfl) (by rfl) (by rfl) (by omega) ?_; refine WR.nil ?_; exact Ends.one hKq rfl rfl (Below.refl _ _))
          | (refine WR.gn ?_; refine WR.nil ?_; exact Ends.one hKq rfl rfl (Below.refl _ _))
      · rintro _ rfl _ rfl
        have Mq := M.below hbq; have hB := Mq.swap.box; have hcq := cel_bl hbq hci; have hrq := cel_bl hbq hrc
        first
          | (refine WR.guard_yes rfl rfl ?_; refine WR.load (by rfl) (by exact hcq) (by rfl) ?_; refine WR.nil ?_; exact Ends.one hKq rfl rfl (Below.refl _ _))
          | (refine WR.gn ?_; refine WR.nil ?_; exact Ends.one hKq rfl rfl (Below.refl _ _))
      · rintro _ rfl _ rfl _ rfl
        have Mq := M.below hbq; have hB := Mq.swap.box; have hcq := cel_bl hbq hci; have hrq := cel_bl hbq hrc
        first
          | (refine WR.guard_yes rfl rfl ?_; refine WR.indexAddr (j := i) (by rfl) (by rfl) (by rfl) hil ?_; refine WR.nil ?_; exact Ends.one hKq rfl rfl (Below.refl _ _))
          | (refine WR.gn ?_; refine WR.nil ?_; exact Ends.one hKq rfl rfl (Below.refl _ _))
      · rintro _ rfl _ rfl
        have Mq := M.below hbq; have hB := Mq.swap.box; have hcq := cel_bl hbq hci; have hrq := cel_bl hbq hrc
        first
          | (refine WR.guard_yes rfl rfl ?_; refine WR.s ?_; refine WR.nil ?_; exact Ends.one hKq rfl rfl (Below.refl _ _))
          | (refine WR.gn ?_; refine WR.nil ?_; exact Ends.one hKq rfl rfl (Below.refl _ _))
      · rintro _ rfl _ rfl
        have Mq := M.below hbq; have hB := Mq.swap.box; have hcq := cel_bl hbq hci; have hrq := cel_bl hbq hrc
        first
          | (refine WR.guard_yes rfl rfl ?_; refine WR.load (by rfl) (by exact hrq) (by rfl) ?_; refine WR.nil ?_; exact Ends.one hKq rfl rfl (Below.refl _ _))
          | (refine WR.gn ?_; refine WR.nil ?_; exact Ends.one hKq rfl rfl (Below.refl _ _))
      · rintro _ rfl _ rfl
        have Mq := M.below hbq; have hB := Mq.swap.box; have hcq := cel_bl hbq hci; have hrq := cel_bl hbq hrc
        first
          | (refine WR.guard_yes rfl rfl ?_; refine WR.s ?_; refine WR.nil ?_; exact Ends.one hKq rfl rfl (Below.refl _ _))
          | (refine WR.gn ?_; refine WR.nil ?_; exact Ends.one hKq rfl rfl (Below.refl _ _))
      · rintro _ rfl _ rfl
        have Mq := M.below hbq; have hB := Mq.swap.box; have hcq := cel_bl hbq hci; have hrq := cel_bl hbq hrc
        first
          | (refine WR.guard_yes rfl rfl ?_; refine WR.mul rfl rfl rfl (by omega) (by omega) ?_; refine WR.nil ?_; exact Ends.one hKq rfl rfl (Below.refl _ _))
          | (refine WR.gn ?_; refine WR.nil ?_; exact Ends.one hKq rfl rfl (Below.refl _ _))
      · rintro _ rfl _ rfl _ rfl
        have Mq := M.below hbq; have hB := Mq.swap.box; have hcq := cel_bl hbq hci; have hrq := cel_bl hbq hrc
        first
          | (refine WR.guard_yes rfl rfl ?_; refine WR.s ?_; refine WR.nil ?_; exact Ends.one hKq rfl rfl (Below.refl _ _))
          | (refine WR.gn ?_; refine WR.nil ?_; exact Ends.one hKq rfl rfl (Below.refl _ _))
      · rintro _ rfl _ rfl
        have Mq := M.below hbq; have hB := Mq.swap.box; have hcq := cel_bl hbq hci; have hrq := cel_bl hbq hrc
        refine WR.s ?_; refine WR.nil ?_; exact Ends.one hKq rfl rfl (Below.refl _ _)
    intro wq hbq
    rintro _ rfl _ rfl _ rfl _ rfl _ rfl _ rfl _ rfl _ rfl _ rfl _ rfl _ rfl _ rfl _ rfl _ rfl _ rfl _ rfl _ rfl
    refine Ends.id ?_
    have Mq := M.below hbq; have hB := Mq.swap.box; have hcq := cel_bl hbq hci; have hrq := cel_bl hbq hrc
    replace M := Mq
    (repeat (first | (refine WR.id ?_; first | refine WR.nil ?_ | refine WR.s ?_ | refine WR.g ?_) | (refine W.id ?_; first | refine W.seq fun _ _ => ?_ | refine W.region ?_ | refine W.s ?_ | refine W.e ?_) | (refine Ends.id ?_; first | refine Ends.seq (by assumption) ?_ | refine Ends.s ?_)))
    refine WR.storeAgg (cs' := [.slice (some ⟨g, 0, none⟩) fs.length cp]) M.box (by rfl) (by rfl) (by rfl) (by rfl) (by intro u hu; obtain rfl := List.mem_singleton.1 hu; rfl) fun w5 hu5 hx5 hs5 => ?_
    replace M := M.setBox hu5 hx5
    (repeat (first | (refine WR.id ?_; first | refine WR.nil ?_ | refine WR.s ?_ | refine WR.g ?_) | (refine W.id ?_; first | refine W.seq fun _ _ => ?_ | refine W.region ?_ | refine W.s ?_ | refine W.e ?_) | (refine Ends.id ?_; first | refine Ends.seq (by assumption) ?_ | refine Ends.s ?_)))
    exact Ends.retCT rfl (by rfl) (by rfl) (hx5.load (by rfl)) (by rw [hr]; exact ⟨_, rfl, GotZ.keep h (M.pre 2 rfl)⟩)
  rw [if_neg (by omega)] at hr
  obtain ⟨kn, rfl⟩ : ∃ kn : Nat, bit = kn := ⟨bit.toNat, by omega⟩
  rw [Int.toNat_natCast] at hr
  (repeat (first | (refine WR.id ?_; first | refine WR.nil ?_ | refine WR.s ?_ | refine WR.g ?_) | (refine W.id ?_; first | refine W.seq fun _ _ => ?_ | refine W.region ?_ | refine W.s ?_ | refine W.e ?_) | (refine Ends.id ?_; first | refine Ends.seq (by assumption) ?_ | refine Ends.s ?_)))
  apply W.draws [[], [0], [1], [2], [2], [4, 2], [2], [2], [6, 7, 2], [8, 2], [5, 9, 2], [10, 2], [11, 2], [12, 2], [13, 2], [3, 14, 2], [2, 15]]
    [is _, is _, is _, is _, is _, is _, is _, is _, is _, is _, is _, is _, is _, is _, is _, is _, is _] (by kernel_rfl) (by kernel_rfl) (by rfl) (by kernel_rfl) ⟨stab_is _, stab_is _, stab_is _, stab_is _, stab_is _, stab_is _, stab_is _, stab_is _, stab_is _, stab_is _, stab_is _, stab_is _, stab_is _, stab_is _, stab_is _, stab_is _, stab_is _, trivial⟩ ?step3 ?fin3
  case step3 =>
    refine ⟨fun wq hbq Kq hKq => ?_, fun wq hbq Kq hKq => ?_, fun wq hbq Kq hKq => ?_, fun wq hbq Kq hKq => ?_, fun wq hbq Kq hKq => ?_, fun wq hbq Kq hKq => ?_, fun wq hbq Kq hKq => ?_, fun wq hbq Kq hKq => ?_, fun wq hbq Kq hKq => ?_, fun wq hbq Kq hKq => ?_, fun wq hbq Kq hKq => ?_, fun wq hbq Kq hKq => ?_, fun wq hbq Kq hKq => ?_, fun wq hbq Kq hKq => ?_, fun wq hbq Kq hKq => ?_, fun wq hbq Kq hKq => ?_, fun wq hbq Kq hKq => ?_, trivial⟩
    · have Mq := M.below hbq; have hB := Mq.swap.box; have hcq := cel_bl hbq hci; have hrq := cel_bl hbq hrc
      refine WR.s ?_; refine WR.nil ?_; exact Ends.one hKq rfl rfl (Below.refl _ _)
    · rintro _ rfl
      have Mq := M.below hbq; have hB := Mq.swap.box; have hcq := cel_bl hbq hci; have hrq := cel_bl hbq hrc
      refine WR.s ?_; refine WR.nil ?_; exact Ends.one hKq rfl rfl (Below.refl _ _)
    · rintro _ rfl
      have Mq := M.below hbq; have hB := Mq.swap.box; have hcq := cel_bl hbq hci; have hrq := cel_bl hbq hrc
      refine WR.s ?_; refine WR.nil ?_; exact Ends.one hKq rfl rfl (Below.refl _ _)
    · rintro _ rfl
      have Mq := M.below hbq; have hB := Mq.swap.box; have hcq := cel_bl hbq hci; have hrq := cel_bl hbq hrc
      first
        | (refine WR.guard_yes rfl rfl ?_; refine WR.s ?_; refine WR.nil ?_; exact Ends.one hKq rfl rfl (Below.refl _ _))
        | (refine WR.gn ?_; refine WR.nil ?_; exact Ends.one hKq rfl rfl (Below.refl _ _))
    · rintro _ rfl
      have Mq := M.below hbq; have hB := Mq.swap.box; have hcq := cel_bl hbq hci; have hrq := cel_bl hbq hrc
      first
        | (refine WR.guard_yes rfl rfl ?_; refine WR.s ?_; refine WR.nil ?_; exact Ends.one hKq rfl rfl (Below.refl _ _))
        | (refine WR.gn ?_; refine WR.nil ?_; exact Ends.one hKq rfl rfl (Below.refl _ _))
    · rintro _ rfl _ rfl
      have Mq := M.below hbq; have hB := Mq.swap.box; have hcq := cel_bl hbq hci; have hrq := cel_bl hbq hrc
      first
        | (refine WR.guard_yes rfl rfl ?_; refine WR.s ?_; refine WR.nil ?_; exact Ends.one hKq rfl rfl (Below.refl _ _))
        | (refine WR.gn ?_; refine WR.nil ?_; exact Ends.one hKq rfl rfl (Below.refl _ _))
    · rintro _ rfl
      have Mq := M.below hbq; have hB := Mq.swap.box; have hcq := cel_bl hbq hci; have hrq := cel_bl hbq hrc
      first
        | (refine WR.guard_yes rfl rfl ?_; refine WR.s ?_; refine WR.nil ?_; exact Ends.one hKq rfl rfl (Below.refl _ _))
        | (refine WR.gn ?_; refine WR.nil ?_; exact Ends.one hKq rfl rfl (Below.refl _ _))
    · rintro _ rfl
      have Mq := M.below hbq; have hB := Mq.swap.box; have hcq := cel_bl hbq hci; have hrq := cel_bl hbq hrc
      first
        | (refine WR.guard_yes rfl rfl ?_; refine WR.s ?_; refine WR.nil ?_; exact Ends.one hKq rfl rfl (Below.refl _ _))
        | (refine WR.gn ?_; refine WR.nil ?_; exact Ends.one hKq rfl rfl (Below.refl _ _))
    · rintro _ rfl _ rfl _ rfl
      have Mq := M.below hbq; have hB := Mq.swap.box; have hcq := cel_bl hbq hci; have hrq := cel_bl hbq hrc
      first
        | (refine WR.guard_yes rfl rfl ?_; refine WR.indexAddr (j := k) (by rfl) (by rfl) (by rfl) (by omega) ?_; refine WR.nil ?_; exact Ends.one hKq rfl rfl (Below.refl _ _))
        | (refine WR.gn ?_; refine WR.nil ?_; exact Ends.one hKq rfl rfl (Below.refl _ _))
    · rintro _ rfl _ rfl
      have Mq := M.below hbq; have hB := Mq.swap.box; have hcq := cel_bl hbq hci; have hrq := cel_bl hbq hrc
      first
        | (refine WR.guard_yes rfl rfl ?_; refine WR.load (by rfl) (by exact hcq) (by rfl) ?_; refine WR.nil ?_; exact Ends.one hKq rfl rfl (Below.refl _ _))
        | (refine WR.gn ?_; refine WR.nil ?_; exact Ends.one hKq rfl rfl (Below.refl _ _))
    · rintro _ rfl _ rfl _ rfl
      have Mq := M.below hbq; have hB := Mq.swap.box; have hcq := cel_bl hbq hci; have hrq := cel_bl hbq hrc
      first
        | (refine WR.guard_yes rfl rfl ?_; refine WR.indexAddr (j := i) (by rfl) (by rfl) (by rfl) hil ?_; refine WR.nil ?_; exact Ends.one hKq rfl rfl (Below.refl _ _))
        | (refine WR.gn ?_; refine WR.nil ?_; exact Ends.one hKq rfl rfl (Below.refl _ _))
    · rintro _ rfl _ rfl
      have Mq := M.below hbq; have hB := Mq.swap.box; have hcq := cel_bl hbq hci; have hrq := cel_bl hbq hrc
      first
        | (refine WR.guard_yes rfl rfl ?_; refine WR.s ?_; refine WR.nil ?_; exact Ends.one hKq rfl rfl (Below.refl _ _))
        | (refine WR.gn ?_; refine WR.nil ?_; exact Ends.one hKq rfl rfl (Below.refl _ _))
    · rintro _ rfl _ rfl
      have Mq := M.below hbq; have hB := Mq.swap.box; have hcq := cel_bl hbq hci; have hrq := cel_bl hbq hrc
      first
        | (refine WR.guard_yes rfl rfl ?_; refine WR.load (by rfl) (by exact hrq) (by rfl) ?_; refine WR.nil ?_; exact Ends.one hKq rfl rfl (Below.refl _ _))
        | (refine WR.gn ?_; refine WR.nil ?_; exact Ends.one hKq rfl rfl (Below.refl _ _))
    · rintro _ rfl _ rfl
      have Mq := M.below hbq; have hB := Mq.swap.box; have hcq := cel_bl hbq hci; have hrq := cel_bl hbq hrc
      first
        | (refine WR.guard_yes rfl rfl ?_; refine WR.s ?_; refine WR.nil ?_; exact Ends.one hKq rfl rfl (Below.refl _ _))
        | (refine WR.gn ?_; refine WR.nil ?_; exact Ends.one hKq rfl rfl (Below.refl _ _))
    · rintro _ rfl _ rfl
      have Mq := M.below hbq; have hB := Mq.swap.box; have hcq := cel_bl hbq hci; have hrq := cel_bl hbq hrc
      first
        | (refine WR.guard_yes rfl rfl ?_; refine WR.mul rfl rfl rfl (by omega) (by omega) ?_; refine WR.nil ?_; exact Ends.one hKq rfl rfl (Below.refl _ _))
        | (refine WR.gn ?_; refine WR.nil ?_; exact Ends.one hKq rfl rfl (Below.refl _ _))
    · rintro _ rfl _ rfl _ rfl
      have Mq := M.below hbq; have hB := Mq.swap.box; have hcq := cel_bl hbq hci; have hrq := cel_bl hbq hrc
      first
        | (refine WR.guard_yes rfl rfl ?_; refine WR.s ?_; refine WR.nil ?_; exact Ends.one hKq rfl rfl (Below.refl _ _))
        | (refine WR.gn ?_; refine WR.nil ?_; exact Ends.one hKq rfl rfl (Below.refl _ _))
    · rintro _ rfl _ rfl
      have Mq := M.below hbq; have hB := Mq.swap.box; have hcq := cel_bl hbq hci; have hrq := cel_bl hbq hrc
      refine WR.s ?_; refine WR.nil ?_; exact Ends.one hKq rfl rfl (Below.refl _ _)
  intro wq hbq
  rintro _ rfl _ rfl _ rfl _ rfl _ rfl _ rfl _ rfl _ rfl _ rfl _ rfl _ rfl _ rfl _ rfl _ rfl _ rfl _ rfl _ rfl
  refine Ends.id ?_
  have Mq := M.below hbq; have hB := Mq.swap.box; have hcq := cel_bl hbq hci; have hrq := cel_bl hbq hrc
  replace M := Mq
  clear hcq hrq
  (repeat (first | (refine WR.id ?_; first | refine WR.nil ?_ | refine WR.s ?_ | refine WR.g ?_) | (refine W.id ?_; first | refine W.seq fun _ _ => ?_ | refine W.region ?_ | refine W.s ?_ | refine W.e ?_) | (refine Ends.id ?_; first | refine Ends.seq (by assumption) ?_ | refine Ends.s ?_)))
  refine WR.call rfl rfl (copied_any _ fs _ _ (fl_below h (M.pre 2 rfl)) (by omega) hb) ?_
  clear hB
  rintro _ w5 ⟨v5, rfl, hf5⟩
  refine ⟨_, rfl, ?_⟩
  replace M := (M.add hf5).third
  obtain ⟨A5, c5, rfl⟩ : ∃ A c, v5 = .slice A fs.length c := by obtain ⟨F, hF⟩ := M.swap.get; exact aFl_sl hF
  refine WR.storeAgg (cs' := [.slice A5 fs.length c5]) M.box (by rfl) (by rfl) (by rfl) (by rfl) (by intro u hu; obtain rfl := List.mem_singleton.1 hu; rfl) fun w6 hu6 hx6 hs6 => ?_
  replace M := (M.setBox hu6 hx6).swap
  clear hx6
  (repeat (first | (refine WR.id ?_; first | refine WR.nil ?_ | refine WR.s ?_ | refine WR.g ?_) | (refine W.id ?_; first | refine W.seq fun _ _ => ?_ | refine W.region ?_ | refine W.s ?_ | refine W.e ?_) | (refine Ends.id ?_; first | refine Ends.seq (by assumption) ?_ | refine Ends.s ?_)))
  refine WR.rem kn 8 (by decide) rfl rfl rfl ?_
  obtain ⟨s, hs⟩ : ∃ s, s = 7 - kn % 8 := ⟨_, rfl⟩
  refine WR.sub rfl rfl rfl (by omega) (by omega) ?_
  rw [show (7 - ((kn % 8 : Nat) : Int)) = (s : Nat) from by omega]
  (repeat (first | (refine WR.id ?_; first | refine WR.nil ?_ | refine WR.s ?_ | refine WR.g ?_) | (refine W.id ?_; first | refine W.seq fun _ _ => ?_ | refine W.region ?_ | refine W.s ?_ | refine W.e ?_) | (refine Ends.id ?_; first | refine Ends.seq (by assumption) ?_ | refine Ends.s ?_)))
  refine W.loop (X := Nat) (fun j => [(3, .int .i64 (k : Nat)), (4, .int .i64 (kn : Nat)), (5, .pointer (some ⟨w.heap.size, 0, none⟩)), (10, .pointer (some ⟨b8, 0, none⟩)), (12, .slice (some ⟨go, 0, none⟩) (RF.of fs p).length co), (13, .int .u8 ((2 ^ j : Nat) : Int)), (50, .int .i64 (s : Nat)), (51, .int .i64 (j : Nat))])
    (fun j wr => j ≤ s ∧ wr = w6) (fun j => s - j) 0 (by repeat (first | exact .nil | refine .cons rfl ?_)) ⟨Nat.zero_le _, rfl⟩ ?_
  rintro j wr ⟨hj, rfl⟩ K hK
  (repeat (first | (refine WR.id ?_; first | refine WR.nil ?_ | refine WR.s ?_ | refine WR.g ?_) | (refine W.id ?_; first | refine W.seq fun _ _ => ?_ | refine W.region ?_ | refine W.s ?_ | refine W.e ?_) | (refine Ends.id ?_; first | refine Ends.seq (by assumption) ?_ | refine Ends.s ?_)))
  refine W.condP (by rfl) (fun hlt => ?_) (fun hlt => ?_)
  · (repeat (first | (refine WR.id ?_; first | refine WR.nil ?_ | refine WR.s ?_ | refine WR.g ?_) | (refine W.id ?_; first | refine W.seq fun _ _ => ?_ | refine W.region ?_ | refine W.s ?_ | refine W.e ?_) | (refine Ends.id ?_; first | refine Ends.seq (by assumption) ?_ | refine Ends.s ?_)))
    refine WR.bin (by rfl) (by rfl) (by rfl) guard_int (dbl_u8 j (by omega)) ?_
    (repeat (first | (refine WR.id ?_; first | refine WR.nil ?_ | refine WR.s ?_ | refine WR.g ?_) | (refine W.id ?_; first | refine W.seq fun _ _ => ?_ | refine W.region ?_ | refine W.s ?_ | refine W.e ?_) | (refine Ends.id ?_; first | refine Ends.seq (by assumption) ?_ | refine Ends.s ?_)))
    exact Ends.round hK (j + 1) (by repeat (first | exact .nil | refine .cons rfl ?_)) ⟨by omega, rfl⟩ (by omega)
  obtain rfl : j = s := by omega
  (repeat (first | (refine WR.id ?_; first | refine WR.nil ?_ | refine WR.s ?_ | refine WR.g ?_) | (refine W.id ?_; first | refine W.seq fun _ _ => ?_ | refine W.region ?_ | refine W.s ?_ | refine W.e ?_) | (refine Ends.id ?_; first | refine Ends.seq (by assumption) ?_ | refine Ends.s ?_)))
  clear hrg hrc hFo hz hci
  obtain ⟨f1, f', f2, v1, vb, v2, a, cq, hfs, rfl, hv1, hv2, hev, hone, M⟩ := M.flight i hil
  cases hev
  obtain rfl : f' = f := by rw [hfs] at hf; simpa using hf
  replace M := M.pull2
  obtain ⟨Fo, hFo⟩ := M.z 0 rfl
  have hci := nat_cell hFo.2 hi
  have hrg := range_get (At.lit (M.lrow.cells (g := a) rfl)) cells_len4 (zip_mid hv1 (f := f') (vb := vb) (f2 := f2) (v2 := v2)) 3 _ rfl
  have hk9 : kn / 8 < f'.bytes.length := by omega
  obtain ⟨gb, cb, rfl⟩ := by_load M.fourth (by omega)
  apply W.draws [[], [0], [], [], [2, 3], [4], [1, 5], [6], [7], [8]]
    [is _, is _, is _, is _, is _, is _, is _, is _, is _, is _] (by kernel_rfl) (by kernel_rfl) (by rfl) (by kernel_rfl) ⟨stab_is _, stab_is _, stab_is _, stab_is _, stab_is _, stab_is _, stab_is _, stab_is _, stab_is _, stab_is _, trivial⟩ ?step4 ?fin4
  case step4 =>
    refine ⟨fun wq hbq Kq hKq => ?_, fun wq hbq Kq hKq => ?_, fun wq hbq Kq hKq => ?_, fun wq hbq Kq hKq => ?_, fun wq hbq Kq hKq => ?_, fun wq hbq Kq hKq => ?_, fun wq hbq Kq hKq => ?_, fun wq hbq Kq hKq => ?_, fun wq hbq Kq hKq => ?_, fun wq hbq Kq hKq => ?_, trivial⟩
    · have Mq := M.below hbq; have hB := Mq.swap.box; have hcq := cel_bl hbq hci; have hrq := cel_bl hbq hrg
      refine WR.s ?_; refine WR.nil ?_; exact Ends.one hKq rfl rfl (Below.refl _ _)
    · rintro _ rfl
      have Mq := M.below hbq; have hB := Mq.swap.box; have hcq := cel_bl hbq hci; have hrq := cel_bl hbq hrg
      refine WR.s ?_; refine WR.nil ?_; exact Ends.one hKq rfl rfl (Below.refl _ _)
    · have Mq := M.below hbq; have hB := Mq.swap.box; have hcq := cel_bl hbq hci; have hrq := cel_bl hbq hrg
      refine WR.s ?_; refine WR.nil ?_; exact Ends.one hKq rfl rfl (Below.refl _ _)
    · have Mq := M.below hbq; have hB := Mq.swap.box; have hcq := cel_bl hbq hci; have hrq := cel_bl hbq hrg
      refine WR.s ?_; refine WR.nil ?_; exact Ends.one hKq rfl rfl (Below.refl _ _)
    · rintro _ rfl _ rfl
      have Mq := M.below hbq; have hB := Mq.swap.box; have hcq := cel_bl hbq hci; have hrq := cel_bl hbq hrg
      refine WR.indexAddr (j := k) (by rfl) (by rfl) (by rfl) (by omega) ?_; refine WR.nil ?_; exact Ends.one hKq rfl rfl (Below.refl _ _)
    · rintro _ rfl
      have Mq := M.below hbq; have hB := Mq.swap.box; have hcq := cel_bl hbq hci; have hrq := cel_bl hbq hrg
      refine WR.load (by rfl) (by exact hcq) (by rfl) ?_; refine WR.nil ?_; exact Ends.one hKq rfl rfl (Below.refl _ _)
    · rintro _ rfl _ rfl
      have Mq := M.below hbq; have hB := Mq.swap.box; have hcq := cel_bl hbq hci; have hrq := cel_bl hbq hrg
      refine WR.indexAddr (j := f1.length) (by rfl) (by rfl) (by rfl) hil ?_; refine WR.nil ?_; exact Ends.one hKq rfl rfl (Below.refl _ _)
    · rintro _ rfl
      have Mq := M.below hbq; have hB := Mq.swap.box; have hcq := cel_bl hbq hci; have hrq := cel_bl hbq hrg
      refine WR.s ?_; refine WR.nil ?_; exact Ends.one hKq rfl rfl (Below.refl _ _)
    · rintro _ rfl
      have Mq := M.below hbq; have hB := Mq.swap.box; have hcq := cel_bl hbq hci; have hrq := cel_bl hbq hrg
      refine WR.load (by rfl) (by exact hrq) (by rfl) ?_; refine WR.nil ?_; exact Ends.one hKq rfl rfl (Below.refl _ _)
    · rintro _ rfl
      have Mq := M.below hbq; have hB := Mq.swap.box; have hcq := cel_bl hbq hci; have hrq := cel_bl hbq hrg
      refine WR.s ?_; refine WR.nil ?_; exact Ends.one hKq rfl rfl (Below.refl _ _)
  intro wq hbq
  rintro _ rfl _ rfl _ rfl _ rfl _ rfl _ rfl _ rfl _ rfl _ rfl _ rfl
  refine Ends.id ?_
  have Mq := M.below hbq; have hB := Mq.swap.box; have hcq := cel_bl hbq hci; have hrq := cel_bl hbq hrg
  have Mx := Mq.fourth
  clear hB hcq hrq
  obtain ⟨x, hx⟩ : ∃ x, f'.bytes[kn / 8]? = some x := ⟨_, List.getElem?_eq_getElem hk9⟩
  have hby := by_cell Mx hx
  have hj7 : j ≤ 7 := by omega
  have h2j : 2 ^ j < 256 := Nat.lt_of_le_of_lt (Nat.pow_le_pow_right (by decide) hj7) (by decide)
  have hpos : 0 < 2 ^ j := Nat.pow_pos (by decide)
  have hxlt : x.toNat < 256 := by have := x.toNat_lt; simpa using this
  have hbx := bit_u8 x j hj7
  have e1 : (bvs f'.bytes).set (kn / 8) (.int .u8 (x ^^^ UInt8.ofNat (2 ^ j)).toNat) = bvs (turnB f'.bytes kn) := by
    rw [turnB, hx, hs]; simp [bvs, List.map_set, bv]
  (repeat (first | (refine WR.id ?_; first | refine WR.nil ?_ | refine WR.s ?_ | refine WR.g ?_) | (refine W.id ?_; first | refine W.seq fun _ _ => ?_ | refine W.region ?_ | refine W.s ?_ | refine W.e ?_) | (refine Ends.id ?_; first | refine Ends.seq (by assumption) ?_ | refine Ends.s ?_)))
  refine WR.quo kn 8 (by decide) (wrap_i64 (by omega) (by omega)) rfl rfl rfl ?_
  refine WR.indexAddr (j := kn / 8) (by rfl) (by rfl) (by rfl) hk9 ?_
  refine WR.load (by rfl) hby (by rfl) ?_
  (repeat (first | (refine WR.id ?_; first | refine WR.nil ?_ | refine WR.s ?_ | refine WR.g ?_) | (refine W.id ?_; first | refine W.seq fun _ _ => ?_ | refine W.region ?_ | refine W.s ?_ | refine W.e ?_) | (refine Ends.id ?_; first | refine Ends.seq (by assumption) ?_ | refine Ends.s ?_)))
  refine WR.quo x.toNat (2 ^ j) hpos (wrap_u8 (Nat.lt_of_le_of_lt (Nat.div_le_self _ _) hxlt)) rfl rfl rfl ?_
  refine WR.rem (x.toNat / 2 ^ j) 2 (by decide) rfl rfl rfl ?_
  obtain ⟨b1, hb1⟩ : ∃ b1, b1 = x.toNat / 2 ^ j % 2 := ⟨_, rfl⟩
  rw [← hb1]
  rw [← hb1] at hbx
  by_cases hbit1 : b1 = 1
  · rw [if_pos hbit1] at hbx
    have hle : 2 ^ j ≤ x.toNat := by
      refine Nat.le_of_not_lt fun hlt => ?_
      rw [Nat.div_eq_of_lt hlt] at hb1
      omega
    (repeat (first | (refine WR.id ?_; first | refine WR.nil ?_ | refine WR.s ?_ | refine WR.g ?_) | (refine W.id ?_; first | refine W.seq fun _ _ => ?_ | refine W.region ?_ | refine W.s ?_ | refine W.e ?_) | (refine Ends.id ?_; first | refine Ends.seq (by assumption) ?_ | refine Ends.s ?_)))
    refine WR.quo kn 8 (by decide) (wrap_i64 (by omega) (by omega)) rfl rfl rfl ?_
    refine WR.indexAddr (j := kn / 8) (by rfl) (by rfl) (by rfl) hk9 ?_
    refine WR.load (by rfl) hby (by rfl) ?_
    (repeat (first | (refine WR.id ?_; first | refine WR.nil ?_ | refine WR.s ?_ | refine WR.g ?_) | (refine W.id ?_; first | refine W.seq fun _ _ => ?_ | refine W.region ?_ | refine W.s ?_ | refine W.e ?_) | (refine Ends.id ?_; first | refine Ends.seq (by assumption) ?_ | refine Ends.s ?_)))
    refine WR.bin (by rfl) (by rfl) (by rfl) guard_int (sub_u8 x.toNat (2 ^ j) hle hxlt) ?_
    refine WR.indexAddr (j := kn / 8) (by rfl) (by rfl) (by rfl) hk9 ?_
    rw [show 0 + kn / 8 * 1 = kn / 8 from by omega]
    refine WR.storeRow Mx (by rfl) (by rfl) rfl rfl (by rw [bvs_len]; exact hk9) fun w8 M8 => ?_
    rw [← hbx, e1, turn_row] at M8
    have hB := M8.third.box
    (repeat (first | (refine WR.id ?_; first | refine WR.nil ?_ | refine WR.s ?_ | refine WR.g ?_) | (refine W.id ?_; first | refine W.seq fun _ _ => ?_ | refine W.region ?_ | refine W.s ?_ | refine W.e ?_) | (refine Ends.id ?_; first | refine Ends.seq (by assumption) ?_ | refine Ends.s ?_)))
    refine WR.storeAgg (cs' := [.slice (some ⟨a, 0, none⟩) fs.length c5]) M8.fourth.box (by rfl) (by rfl) (by rfl) (by rfl) (by intro u hu; obtain rfl := List.mem_singleton.1 hu; rfl) fun w9 hu9 hx9 hs9 => ?_
    replace M8 := M8.fourth.setBox hu9 hx9
    (repeat (first | (refine WR.id ?_; first | refine WR.nil ?_ | refine WR.s ?_ | refine WR.g ?_) | (refine W.id ?_; first | refine W.seq fun _ _ => ?_ | refine W.region ?_ | refine W.s ?_ | refine W.e ?_) | (refine Ends.id ?_; first | refine Ends.seq (by assumption) ?_ | refine Ends.s ?_)))
    refine Ends.retCT rfl (by rfl) (by rfl) (hx9.load (by rfl)) (by
      rw [hr]
      refine ⟨_, rfl, ?_⟩
      have M9 := M8.drop
      rw [show List.zipWith PF.cells (f1 ++ f' :: f2) (v1 ++ .slice (some ⟨gb, 0, none⟩) f'.bytes.length cb :: v2) = List.zipWith PF.cells (f1 ++ { f' with bytes := turnB f'.bytes kn } :: f2) (v1 ++ .slice (some ⟨gb, 0, none⟩) f'.bytes.length cb :: v2) by rw [List.zipWith_append hv1.symm, List.zipWith_append hv1.symm]; rfl] at M9
      have M10 := E.Mem.unflight1 (n := fs.length) (f := { f' with bytes := turnB f'.bytes kn }) hv1 hv2 (by rw [hfs]; simp) M9
      rw [show fs.set f1.length { f' with bytes := turnB f'.bytes kn } = f1 ++ { f' with bytes := turnB f'.bytes kn } :: f2 by rw [hfs]; exact set_mid _ _ _ _]
      exact (M10.fresh 2 rfl).got F)
  · rw [if_neg hbit1] at hbx
    have hlt8 : x.toNat + 2 ^ j < 256 := by rw [← hbx]; have := (x ^^^ UInt8.ofNat (2 ^ j)).toNat_lt; simpa using this
    (repeat (first | (refine WR.id ?_; first | refine WR.nil ?_ | refine WR.s ?_ | refine WR.g ?_) | (refine W.id ?_; first | refine W.seq fun _ _ => ?_ | refine W.region ?_ | refine W.s ?_ | refine W.e ?_) | (refine Ends.id ?_; first | refine Ends.seq (by assumption) ?_ | refine Ends.s ?_)))
    refine WR.quo kn 8 (by decide) (wrap_i64 (by omega) (by omega)) rfl rfl rfl ?_
    refine WR.indexAddr (j := kn / 8) (by rfl) (by rfl) (by rfl) hk9 ?_
    refine WR.load (by rfl) hby (by rfl) ?_
    (repeat (first | (refine WR.id ?_; first | refine WR.nil ?_ | refine WR.s ?_ | refine WR.g ?_) | (refine W.id ?_; first | refine W.seq fun _ _ => ?_ | refine W.region ?_ | refine W.s ?_ | refine W.e ?_) | (refine Ends.id ?_; first | refine Ends.seq (by assumption) ?_ | refine Ends.s ?_)))
    refine WR.bin (by rfl) (by rfl) (by rfl) guard_int (add_u8 x.toNat (2 ^ j) hlt8) ?_
    refine WR.indexAddr (j := kn / 8) (by rfl) (by rfl) (by rfl) hk9 ?_
    rw [show 0 + kn / 8 * 1 = kn / 8 from by omega]
    refine WR.storeRow Mx (by rfl) (by rfl) rfl rfl (by rw [bvs_len]; exact hk9) fun w8 M8 => ?_
    rw [← hbx, e1, turn_row] at M8
    have hB := M8.third.box
    (repeat (first | (refine WR.id ?_; first | refine WR.nil ?_ | refine WR.s ?_ | refine WR.g ?_) | (refine W.id ?_; first | refine W.seq fun _ _ => ?_ | refine W.region ?_ | refine W.s ?_ | refine W.e ?_) | (refine Ends.id ?_; first | refine Ends.seq (by assumption) ?_ | refine Ends.s ?_)))
    refine WR.storeAgg (cs' := [.slice (some ⟨a, 0, none⟩) fs.length c5]) M8.fourth.box (by rfl) (by rfl) (by rfl) (by rfl) (by intro u hu; obtain rfl := List.mem_singleton.1 hu; rfl) fun w9 hu9 hx9 hs9 => ?_
    replace M8 := M8.fourth.setBox hu9 hx9
    (repeat (first | (refine WR.id ?_; first | refine WR.nil ?_ | refine WR.s ?_ | refine WR.g ?_) | (refine W.id ?_; first | refine W.seq fun _ _ => ?_ | refine W.region ?_ | refine W.s ?_ | refine W.e ?_) | (refine Ends.id ?_; first | refine Ends.seq (by assumption) ?_ | refine Ends.s ?_)))
    refine Ends.retCT rfl (by rfl) (by rfl) (hx9.load (by rfl)) (by
      rw [hr]
      refine ⟨_, rfl, ?_⟩
      have M9 := M8.drop
      rw [show List.zipWith PF.cells (f1 ++ f' :: f2) (v1 ++ .slice (some ⟨gb, 0, none⟩) f'.bytes.length cb :: v2) = List.zipWith PF.cells (f1 ++ { f' with bytes := turnB f'.bytes kn } :: f2) (v1 ++ .slice (some ⟨gb, 0, none⟩) f'.bytes.length cb :: v2) by rw [List.zipWith_append hv1.symm, List.zipWith_append hv1.symm]; rfl] at M9
      have M10 := E.Mem.unflight1 (n := fs.length) (f := { f' with bytes := turnB f'.bytes kn }) hv1 hv2 (by rw [hfs]; simp) M9
      rw [show fs.set f1.length { f' with bytes := turnB f'.bytes kn } = f1 ++ { f' with bytes := turnB f'.bytes kn } :: f2 by rw [hfs]; exact set_mid _ _ _ _]
      exact (M10.fresh 2 rfl).got F)

end Go.Proofs.Ytibmcpbkialbnaa
