/- Links: a bit turned. No condition beyond sizes. -/
import Derived.Test.YtibmcpbkialbnaaLk7
import Derived.Laws.BitsAllLaws
namespace Go.Proofs.Ytibmcpbkialbnaa
open Go.RowKit K L E
open Go.Maps (Keyed)
set_option linter.unusedVariables false
set_option linter.unusedSimpArgs false

def turnB (bs : List UInt8) (k : Nat) : List UInt8 := bs.set (k / 8) ((bs[k / 8]?.getD 0) ^^^ UInt8.ofNat (2 ^ (7 - k % 8)))
theorem xor_u8s (x : UInt8) (s : Nat) (h : s ≤ 7) : bits .xor .u8 (x.toNat : Int) ((2 ^ s : Nat) : Int) = ((x ^^^ UInt8.ofNat (2 ^ s)).toNat : Int) := by
  have hx := x.toNat_lt
  have h2 : 2 ^ s < 256 := Nat.lt_of_le_of_lt (Nat.pow_le_pow_right (by decide) h) (by decide)
  have e : (UInt8.ofNat (2 ^ s)).toNat = 2 ^ s := by rw [UInt8.toNat_ofNat']; exact Nat.mod_eq_of_lt h2
  rw [u8_xor_nat x.toNat _ (by simpa using hx) h2, UInt8.toNat_xor, e]
theorem shl_one {P : Program} {t : TypeId} {w : World} (s : Nat) (h : s ≤ 7) : (binOp .shl t (.int .u8 1) (.int .i64 (s : Nat))).run P w = .ok (.int .u8 ((2 ^ s : Nat) : Int)) w := by
  rcases (by omega : s = 0 ∨ s = 1 ∨ s = 2 ∨ s = 3 ∨ s = 4 ∨ s = 5 ∨ s = 6 ∨ s = 7) with rfl | rfl | rfl | rfl | rfl | rfl | rfl | rfl <;> rfl

theorem xor_run {P : Program} {t : TypeId} {w : World} (x : UInt8) (s : Nat) (h : s ≤ 7) : (binOp .xor t (.int .u8 (x.toNat : Int)) (.int .u8 ((2 ^ s : Nat) : Int))).run P w = .ok (.int .u8 ((x ^^^ UInt8.ofNat (2 ^ s)).toNat : Int)) w := by
  rw [← xor_u8s x s h, binOp_xor]; rfl
theorem by_cell {w : World} {g n c : Nat} {bs : List UInt8} {Os Zs : List Ass} (M : Mem w (aBy (.slice (some ⟨g, 0, none⟩) n c) bs :: Os) Zs) {j : Nat} {x : UInt8} (hj : bs[j]? = some x) : w.cell? ⟨g, 0 + j * 1, none⟩ = some (.int .u8 (x.toNat : Int)) := by
  have := World.ownsRow.cells M.row (g := g) rfl j (bv x) (by rw [bvs, List.getElem?_map, hj]; rfl)
  rw [Addr.add_lit] at this
  rw [Nat.mul_one]
  exact this
/-- The row of a pair's flights, shut again with one of them another. -/
theorem E.Mem.unflight {w : World} {v vb : Value} {f1 f2 : List PF} {f : PF} {v1 v2 : List Value} {n : Nat} {x y : Ass} {Os Zs : List Ass} (hv1 : v1.length = f1.length) (hv2 : v2.length = f2.length) (hn : n = (f1 ++ f :: f2).length)
    (M : Mem w (aBy vb f.bytes :: aLr 24 4 v n (List.zipWith PF.cells (f1 ++ f :: f2) (v1 ++ vb :: v2)).flatten :: x :: y :: (List.zipWith (fun v (f : PF) => aBy v f.bytes) (v1 ++ v2) (f1 ++ f2) ++ Os)) Zs) : Mem w (aFl v (f1 ++ f :: f2) :: x :: y :: Os) Zs := by
  subst hn
  refine (E.Mem.mkFl (v1 ++ vb :: v2) (by simp [hv1, hv2]) ?_)
  refine M.swap.under1 fun M => ?_
  have M2 := M.push2
  refine M2.perm ?_
  rw [List.zipWith_append hv1, List.zipWith_append hv1, List.zipWith_cons_cons, List.append_assoc, List.append_assoc]
  exact List.perm_middle.symm
theorem turn_row (v : Value) (bs : List UInt8) (k : Nat) : aRow 5 1 v bs.length (bvs (turnB bs k)) = aBy v (turnB bs k) := by rw [aBy, show (turnB bs k).length = bs.length by simp [turnB]]
def PL.spoil (l : PL) (p : PK) (n bit : Int) : Int × PL := if n < 0 then (4, l) else match (l.m p)[n.toNat]? with
  | none => (4, l)
  | some f => if bit < 0 ∨ 8 * (f.bytes.length : Int) ≤ bit then (2, l) else (0, l.put p ((l.m p).set n.toNat { f with bytes := turnB f.bytes bit.toNat }) l.n)
variable {w : World} {b g c : Nat} {l : PL} {es : List MapEntry} {Os Zs : List Ass}
set_option maxHeartbeats 1000000 in
theorem spoil_M (hok : l.ok) (M : Mem w (aLk b l :: Os) Zs) (p : PK) (h1 : i64 p.1) (h2 : i64 p.2) (n bit : Int) (hn : i64 n) (hbit : i64 bit) :
    Calls Try.prog 16 #[.pointer (some ⟨b, 0, none⟩), .int .i64 p.1, .int .i64 p.2, .int .i64 n, .int .i64 bit] w fun r w' => r = .returned (.int .i64 (l.spoil p n bit).1) ∧ Mem w' (aLk b (l.spoil p n bit).2 :: Os) Zs := by
  refine enter Try.func16 rfl Try.ntmps16 rfl rfl ?_
  (repeat (first | (refine WR.id ?_; first | refine WR.nil ?_ | refine WR.s ?_ | refine WR.g ?_) | (refine W.id ?_; first | refine W.seq fun _ _ => ?_ | refine W.region ?_ | refine W.s ?_ | refine W.e ?_) | (refine Ends.id ?_; first | refine Ends.seq (by assumption) ?_ | refine Ends.s ?_)))
  refine WR.pairB rfl rfl rfl ?_
  refine WR.pairV M (by rfl) (by rfl) (by rfl) fun gp w1 M => ?_
  have hp := M.zbox 0 rfl
  (repeat (first | (refine WR.id ?_; first | refine WR.nil ?_ | refine WR.s ?_ | refine WR.g ?_) | (refine W.id ?_; first | refine W.seq fun _ _ => ?_ | refine W.region ?_ | refine W.s ?_ | refine W.e ?_) | (refine Ends.id ?_; first | refine Ends.seq (by assumption) ?_ | refine Ends.s ?_)))
  have hF := find_M M p h1 h2 n hn
  by_cases h : n < 0 ∨ ((l.m p).length : Int) ≤ n
  · rw [if_pos h] at hF
    refine WR.call rfl rfl hF ?_
    rintro _ w2 ⟨rfl, hb⟩
    refine ⟨_, rfl, ?_⟩
    (repeat (first | (refine WR.id ?_; first | refine WR.nil ?_ | refine WR.s ?_ | refine WR.g ?_) | (refine W.id ?_; first | refine W.seq fun _ _ => ?_ | refine W.region ?_ | refine W.s ?_ | refine W.e ?_) | (refine Ends.id ?_; first | refine Ends.seq (by assumption) ?_ | refine Ends.s ?_)))
    refine Ends.ret1 rfl rfl ?_
    have : l.spoil p n bit = (4, l) := by
      unfold PL.spoil
      by_cases h0 : n < 0
      · rw [if_pos h0]
      · rw [if_neg h0, List.getElem?_eq_none (by omega)]
    rw [this]
    exact ⟨rfl, (M.below hb).dropz⟩
  · rw [if_neg h] at hF
    obtain ⟨i, rfl⟩ : ∃ i : Nat, n = i := ⟨n.toNat, by omega⟩
    refine WR.call rfl rfl hF ?_
    rintro _ w2 ⟨rfl, hb⟩
    refine ⟨_, rfl, ?_⟩
    replace M := M.below hb
    have hp := M.zbox 0 rfl
    obtain ⟨g, l1, e, l2, c, f1, f, f2, v1, vb, v2, a, cp, hk, he, hfs, rfl, hv1, hv2, hev, hcp, hone, hlook, Mo⟩ := M.there p h1 h2 i (by omega)
    have hz : (List.zipWith PF.cells (f1 ++ f :: f2) (v1 ++ vb :: v2))[f1.length]? = some (f.cells vb) := zip_mid hv1
    have htop := hk.top
    obtain ⟨ho1, ho2⟩ := hok p f (by rw [hfs]; simp)
    obtain ⟨i1, i2, i3, i4, i5⟩ := right_i64 ho2
    have hsp : l.spoil p (f1.length : Nat) bit = if bit < 0 ∨ 8 * (f.bytes.length : Int) ≤ bit then (2, l) else (0, l.put p ((l.m p).set f1.length { f with bytes := turnB f.bytes bit.toNat }) l.n) := by
      unfold PL.spoil
      rw [if_neg (by omega), show (l.m p)[((f1.length : Nat) : Int).toNat]? = some f by rw [hfs]; simp]
      simp
    obtain ⟨gb, cb, rfl⟩ : ∃ gb cb, vb = .slice (some ⟨gb, 0, none⟩) f.bytes.length cb := by
      obtain ⟨_, ⟨_, h0⟩ | ⟨g', cap, cur, h0, _⟩⟩ := Mo.fourth.row
      · omega
      · exact ⟨_, _, h0⟩
    (repeat (first | (refine WR.id ?_; first | refine WR.nil ?_ | refine WR.s ?_ | refine WR.g ?_) | (refine W.id ?_; first | refine W.seq fun _ _ => ?_ | refine W.region ?_ | refine W.s ?_ | refine W.e ?_) | (refine Ends.id ?_; first | refine Ends.seq (by assumption) ?_ | refine Ends.s ?_)))
    apply W.draws [[], [0], [1], [2], [], [3, 4], [], [5, 6], [7], [8], [9]]
      [is _, is _, is _, is _, is _, is _, is _, is _, is _, is _, is _] (by kernel_rfl) (by kernel_rfl) (by rfl) (by kernel_rfl) ⟨stab_is _, stab_is _, stab_is _, stab_is _, stab_is _, stab_is _, stab_is _, stab_is _, stab_is _, stab_is _, stab_is _, trivial⟩ ?step1 ?fin1
    case step1 =>
      refine ⟨fun wq hbq Kq hKq => ?_, fun wq hbq Kq hKq => ?_, fun wq hbq Kq hKq => ?_, fun wq hbq Kq hKq => ?_, fun wq hbq Kq hKq => ?_, fun wq hbq Kq hKq => ?_, fun wq hbq Kq hKq => ?_, fun wq hbq Kq hKq => ?_, fun wq hbq Kq hKq => ?_, fun wq hbq Kq hKq => ?_, fun wq hbq Kq hKq => ?_, trivial⟩
      · have Mq := Mo.below hbq; have hB := Mq.swap.box; have hp := Mq.zbox 0 rfl; have hm := Mq.third.map; have hr := Mq.lrow.cells (g := a) rfl
        refine WR.s ?_; refine WR.nil ?_; exact Ends.one hKq rfl rfl (Below.refl _ _)
      · rintro _ rfl
        have Mq := Mo.below hbq; have hB := Mq.swap.box; have hp := Mq.zbox 0 rfl; have hm := Mq.third.map; have hr := Mq.lrow.cells (g := a) rfl
        refine WR.s ?_; refine WR.nil ?_; exact Ends.one hKq rfl rfl (Below.refl _ _)
      · rintro _ rfl
        have Mq := Mo.below hbq; have hB := Mq.swap.box; have hp := Mq.zbox 0 rfl; have hm := Mq.third.map; have hr := Mq.lrow.cells (g := a) rfl
        refine WR.s ?_; refine WR.nil ?_; exact Ends.one hKq rfl rfl (Below.refl _ _)
      · rintro _ rfl
        have Mq := Mo.below hbq; have hB := Mq.swap.box; have hp := Mq.zbox 0 rfl; have hm := Mq.third.map; have hr := Mq.lrow.cells (g := a) rfl
        refine WR.s ?_; refine WR.nil ?_; exact Ends.one hKq rfl rfl (Below.refl _ _)
      · have Mq := Mo.below hbq; have hB := Mq.swap.box; have hp := Mq.zbox 0 rfl; have hm := Mq.third.map; have hr := Mq.lrow.cells (g := a) rfl
        refine WR.s ?_; refine WR.nil ?_; exact Ends.one hKq rfl rfl (Below.refl _ _)
      · rintro _ rfl _ rfl
        have Mq := Mo.below hbq; have hB := Mq.swap.box; have hp := Mq.zbox 0 rfl; have hm := Mq.third.map; have hr := Mq.lrow.cells (g := a) rfl
        refine WR.lookup (by rfl) (by rfl) (hlook _ hm) (by rfl) ?_; refine WR.nil ?_; exact Ends.one hKq rfl rfl (Below.refl _ _)
      · have Mq := Mo.below hbq; have hB := Mq.swap.box; have hp := Mq.zbox 0 rfl; have hm := Mq.third.map; have hr := Mq.lrow.cells (g := a) rfl
        refine WR.s ?_; refine WR.nil ?_; exact Ends.one hKq rfl rfl (Below.refl _ _)
      · rintro _ rfl _ rfl
        have Mq := Mo.below hbq; have hB := Mq.swap.box; have hp := Mq.zbox 0 rfl; have hm := Mq.third.map; have hr := Mq.lrow.cells (g := a) rfl
        refine WR.indexAddr (j := f1.length) (by rfl) (by rfl) (by rfl) (by omega) ?_; refine WR.nil ?_; exact Ends.one hKq rfl rfl (Below.refl _ _)
      · rintro _ rfl
        have Mq := Mo.below hbq; have hB := Mq.swap.box; have hp := Mq.zbox 0 rfl; have hm := Mq.third.map; have hr := Mq.lrow.cells (g := a) rfl
        refine WR.s ?_; refine WR.nil ?_; exact Ends.one hKq rfl rfl (Below.refl _ _)
      · rintro _ rfl
        have Mq := Mo.below hbq; have hB := Mq.swap.box; have hp := Mq.zbox 0 rfl; have hm := Mq.third.map; have hr := Mq.lrow.cells (g := a) rfl
        refine WR.load (by rfl) (by exact range_get (At.lit hr) cells_len4 hz 3 _ rfl) (by rfl) ?_; refine WR.nil ?_; exact Ends.one hKq rfl rfl (Below.refl _ _)
      · rintro _ rfl
        have Mq := Mo.below hbq; have hB := Mq.swap.box; have hp := Mq.zbox 0 rfl; have hm := Mq.third.map; have hr := Mq.lrow.cells (g := a) rfl
        refine WR.s ?_; refine WR.nil ?_; exact Ends.one hKq rfl rfl (Below.refl _ _)
    intro wq hbq
    rintro _ rfl _ rfl _ rfl _ rfl _ rfl _ rfl _ rfl _ rfl _ rfl _ rfl _ rfl
    refine Ends.id ?_
    have Mq := Mo.below hbq; have hB := Mq.swap.box; have hp := Mq.zbox 0 rfl; have hm := Mq.third.map; have hr := Mq.lrow.cells (g := a) rfl
    by_cases hb0 : bit < 0
    · (repeat (first | (refine WR.id ?_; first | refine WR.nil ?_ | refine WR.s ?_ | refine WR.g ?_) | (refine W.id ?_; first | refine W.seq fun _ _ => ?_ | refine W.region ?_ | refine W.s ?_ | refine W.e ?_) | (refine Ends.id ?_; first | refine Ends.seq (by assumption) ?_ | refine Ends.s ?_)))
      refine Ends.ret1 rfl rfl ?_
      rw [hsp, if_pos (.inl hb0)]
      exact ⟨rfl, (M.below hbq).dropz⟩
    · (repeat (first | (refine WR.id ?_; first | refine WR.nil ?_ | refine WR.s ?_ | refine WR.g ?_) | (refine W.id ?_; first | refine W.seq fun _ _ => ?_ | refine W.region ?_ | refine W.s ?_ | refine W.e ?_) | (refine Ends.id ?_; first | refine Ends.seq (by assumption) ?_ | refine Ends.s ?_)))
      refine WR.mul rfl rfl rfl (by omega) (by omega) ?_
      by_cases hb8 : 8 * (f.bytes.length : Int) ≤ bit
      · (repeat (first | (refine WR.id ?_; first | refine WR.nil ?_ | refine WR.s ?_ | refine WR.g ?_) | (refine W.id ?_; first | refine W.seq fun _ _ => ?_ | refine W.region ?_ | refine W.s ?_ | refine W.e ?_) | (refine Ends.id ?_; first | refine Ends.seq (by assumption) ?_ | refine Ends.s ?_)))
        refine Ends.ret1 rfl rfl ?_
        rw [hsp, if_pos (.inr hb8)]
        exact ⟨rfl, (M.below hbq).dropz⟩
      · obtain ⟨k, rfl⟩ : ∃ k : Nat, bit = k := ⟨bit.toNat, by omega⟩
        (repeat (first | (refine WR.id ?_; first | refine WR.nil ?_ | refine WR.s ?_ | refine WR.g ?_) | (refine W.id ?_; first | refine W.seq fun _ _ => ?_ | refine W.region ?_ | refine W.s ?_ | refine W.e ?_) | (refine Ends.id ?_; first | refine Ends.seq (by assumption) ?_ | refine Ends.s ?_)))
        have hk8 : k / 8 < f.bytes.length := by omega
        generalize hN : (l.m p).length = N at *
        obtain ⟨x, hx⟩ : ∃ x, f.bytes[k / 8]? = some x := ⟨_, List.getElem?_eq_getElem hk8⟩
        apply W.drawsTo 11 [[], [], [1], [0, 2], [3], [], [5], [6], [7], [4, 8], [0, 2]]
          [is _, is _, is _, is _, is _, is _, is _, is _, is _, is _, is _] (by kernel_rfl) (by kernel_rfl) (by rfl) (by kernel_rfl) (by kernel_rfl) ⟨stab_is _, stab_is _, stab_is _, stab_is _, stab_is _, stab_is _, stab_is _, stab_is _, stab_is _, stab_is _, stab_is _, trivial⟩ ?step2 ?fin2
        case step2 =>
          refine ⟨fun wq hbq Kq hKq => ?_, fun wq hbq Kq hKq => ?_, fun wq hbq Kq hKq => ?_, fun wq hbq Kq hKq => ?_, fun wq hbq Kq hKq => ?_, fun wq hbq Kq hKq => ?_, fun wq hbq Kq hKq => ?_, fun wq hbq Kq hKq => ?_, fun wq hbq Kq hKq => ?_, fun wq hbq Kq hKq => ?_, fun wq hbq Kq hKq => ?_, trivial⟩
          · have Mx := Mq.below hbq; have hby := by_cell Mx.fourth hx
            refine WR.s ?_; refine WR.nil ?_; exact Ends.one hKq rfl rfl (Below.refl _ _)
          · have Mx := Mq.below hbq; have hby := by_cell Mx.fourth hx
            refine WR.s ?_; refine WR.nil ?_; exact Ends.one hKq rfl rfl (Below.refl _ _)
          · rintro _ rfl
            have Mx := Mq.below hbq; have hby := by_cell Mx.fourth hx
            refine WR.quo k 8 (by decide) (wrap_i64 (by omega) (by omega)) rfl rfl rfl ?_; refine WR.nil ?_; exact Ends.one hKq rfl rfl (Below.refl _ _)
          · rintro _ rfl _ rfl
            have Mx := Mq.below hbq; have hby := by_cell Mx.fourth hx
            refine WR.indexAddr (j := k / 8) (by rfl) (by rfl) (by rfl) hk8 ?_; refine WR.nil ?_; exact Ends.one hKq rfl rfl (Below.refl _ _)
          · rintro _ rfl
            have Mx := Mq.below hbq; have hby := by_cell Mx.fourth hx
            refine WR.load (by rfl) hby (by rfl) ?_; refine WR.nil ?_; exact Ends.one hKq rfl rfl (Below.refl _ _)
          · have Mx := Mq.below hbq; have hby := by_cell Mx.fourth hx
            refine WR.s ?_; refine WR.nil ?_; exact Ends.one hKq rfl rfl (Below.refl _ _)
          · rintro _ rfl
            have Mx := Mq.below hbq; have hby := by_cell Mx.fourth hx
            refine WR.rem k 8 (by decide) rfl rfl rfl ?_; refine WR.nil ?_; exact Ends.one hKq rfl rfl (Below.refl _ _)
          · rintro _ rfl
            have Mx := Mq.below hbq; have hby := by_cell Mx.fourth hx
            refine WR.sub rfl rfl rfl (by omega) (by omega) ?_; rw [show (7 - ((k % 8 : Nat) : Int)) = ((7 - k % 8 : Nat) : Int) from by omega]; refine WR.nil ?_; exact Ends.one hKq rfl rfl (Below.refl _ _)
          · rintro _ rfl
            have Mx := Mq.below hbq; have hby := by_cell Mx.fourth hx
            refine WR.bin rfl rfl rfl (by rw [eqGuard_shl]; rfl) (shl_one (7 - k % 8) (by omega)) ?_; refine WR.nil ?_; exact Ends.one hKq rfl rfl (Below.refl _ _)
          · rintro _ rfl _ rfl
            have Mx := Mq.below hbq; have hby := by_cell Mx.fourth hx
            refine WR.bin rfl rfl rfl guard_int (xor_run x (7 - k % 8) (by omega)) ?_; refine WR.nil ?_; exact Ends.one hKq rfl rfl (Below.refl _ _)
          · rintro _ rfl _ rfl
            have Mx := Mq.below hbq; have hby := by_cell Mx.fourth hx
            refine WR.indexAddr (j := k / 8) (by rfl) (by rfl) (by rfl) hk8 ?_; refine WR.nil ?_; exact Ends.one hKq rfl rfl (Below.refl _ _)
        intro wq hbq
        rintro _ rfl _ rfl _ rfl _ rfl _ rfl _ rfl _ rfl _ rfl _ rfl _ rfl _ rfl
        refine WR.id ?_
        have Mx := Mq.below hbq; have hby := by_cell Mx.fourth hx
        rw [show 0 + k / 8 * 1 = k / 8 from by omega]
        refine WR.storeRow Mx.fourth (by rfl) (by rfl) rfl rfl (by rw [bvs_len]; exact hk8) fun w5 M5 => ?_
        (repeat (first | (refine WR.id ?_; first | refine WR.nil ?_ | refine WR.s ?_ | refine WR.g ?_) | (refine W.id ?_; first | refine W.seq fun _ _ => ?_ | refine W.region ?_ | refine W.s ?_ | refine W.e ?_) | (refine Ends.id ?_; first | refine Ends.seq (by assumption) ?_ | refine Ends.s ?_)))
        refine Ends.ret1 rfl rfl ?_
        rw [hsp, if_neg (by omega)]
        refine ⟨rfl, ?_⟩
        have e1 : (bvs f.bytes).set (k / 8) (.int .u8 (x ^^^ UInt8.ofNat (2 ^ (7 - k % 8))).toNat) = bvs (turnB f.bytes k) := by
          rw [turnB, hx]; simp [bvs, List.map_set, bv]
        rw [e1, turn_row] at M5
        rw [show List.zipWith PF.cells (f1 ++ f :: f2) (v1 ++ .slice (some ⟨gb, 0, none⟩) f.bytes.length cb :: v2) = List.zipWith PF.cells (f1 ++ { f with bytes := turnB f.bytes k } :: f2) (v1 ++ .slice (some ⟨gb, 0, none⟩) f.bytes.length cb :: v2) by rw [List.zipWith_append hv1.symm, List.zipWith_append hv1.symm]; rfl] at M5
        have M6 := E.Mem.unflight (n := N) (f := { f with bytes := turnB f.bytes k }) hv1 hv2 (by rw [← hN, hfs]; simp) M5.dropz
        rw [show (l.m p).set f1.length { f with bytes := turnB f.bytes ((k : Nat) : Int).toNat } = f1 ++ { f with bytes := turnB f.bytes k } :: f2 by rw [hfs]; simp]
        obtain ⟨hk1, hk2, hsum⟩ := hk.parts he
        exact E.Mem.putLk he h1 h2 hk1 hk2 (by rw [hfs] at hsum; simp at hsum ⊢; omega) htop (by rw [← hev] at M6; exact M6)

end Go.Proofs.Ytibmcpbkialbnaa
