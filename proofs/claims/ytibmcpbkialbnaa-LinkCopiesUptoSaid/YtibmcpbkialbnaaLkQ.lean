/- Layer 12's reference: sent, lost. No condition beyond sizes. -/
import Derived.Test.YtibmcpbkialbnaaLkO
namespace Go.Proofs.Ytibmcpbkialbnaa
open Go.RowKit K L E
open Go.Maps (Keyed)
set_option linter.unusedVariables false
set_option linter.unusedSimpArgs false

variable {w : World} {Os Zs : List Ass}
theorem fl_start {v vb : Value} {fs : List PF} {bs : List UInt8} {F F2 : Nat → Prop} (h : (aFl v fs).p w F) (hbs : Bs w F2 vb bs) : Mem w [] [aFl v fs, zSl 1 vb bs.length (bvs bs), zPre w] :=
  ((Mem.start w).part (a := zSl 1 vb bs.length (bvs bs)) 0 rfl fun G hG => ⟨fun b => F2 b ∧ b < w.heap.size, ⟨by decide, Sl.imp hbs (fun b hb hF => ⟨hF, hb⟩) (by decide), fun b hb => hb.2⟩, fun b hb => (hG.1 b).2 hb.2⟩).part (a := aFl v fs) 1 rfl fun G hG => ⟨F, h, fun b hb => (hG.1 b).2 ((aFl v fs).bnd h b hb)⟩
set_option maxRecDepth 100000 in
set_option maxHeartbeats 1000000 in
theorem rsend_any (v vb : Value) (fs : List PF) (f : PF) (w : World) (F F2 : Nat → Prop) (h : (aFl v fs).p w F) (hn : fs.length ≤ 512) (hb : ∀ f ∈ fs, f.bytes.length ≤ 1048576) (hbs : Bs w F2 vb f.bytes) (hl : f.bytes.length ≤ 1048576) :
    Calls Try.prog 32 #[.agg #[v], .agg (f.cells vb).toArray] w fun r w' => ∃ v', r = .returned (.tuple #[.agg #[v'], .int .i64 (RF.send fs f).1]) ∧ GotZ w w' F (aFl v' (RF.send fs f).2) := by
  obtain ⟨A, cp, rfl⟩ := aFl_sl h
  have M := fl_start h hbs
  obtain ⟨Ab, cb, rfl, -⟩ := hbs.open_
  refine enter Try.func32 rfl Try.ntmps32 rfl rfl ?_
  (repeat (first | (refine WR.id ?_; first | refine WR.nil ?_ | refine WR.s ?_ | refine WR.g ?_) | (refine W.id ?_; first | refine W.seq fun _ _ => ?_ | refine W.region ?_ | refine W.s ?_ | refine W.e ?_) | (refine Ends.id ?_; first | refine Ends.seq (by assumption) ?_ | refine Ends.s ?_)))
  refine WR.box rfl (cs := #[.slice A fs.length cp]) rfl rfl fun w1 hb1 hx1 hs1 => ?_
  replace M := (M.newBox (cs := [.slice A fs.length cp]) hb1 hx1)
  refine WR.box rfl (cs := (f.cells (.slice Ab f.bytes.length cb)).toArray) rfl rfl fun w2 hb2 hx2 hs2 => ?_
  replace M := (M.newBox (cs := f.cells (.slice Ab f.bytes.length cb)) hb2 hx2)
  refine WR.alloc (by rfl) fun w3 hb3 hx3 hs3 => ?_
  replace M := (M.newBox (cs := [.slice none 0 0]) hb3 hx3)
  generalize w2.heap.size = b4 at M ⊢
  generalize w1.heap.size = b3 at M ⊢
  have hB3 := M.swap.box
  have hB2 := M.third.box
  (repeat (first | (refine WR.id ?_; first | refine WR.nil ?_ | refine WR.s ?_ | refine WR.g ?_) | (refine W.id ?_; first | refine W.seq fun _ _ => ?_ | refine W.region ?_ | refine W.s ?_ | refine W.e ?_) | (refine Ends.id ?_; first | refine Ends.seq (by assumption) ?_ | refine Ends.s ?_)))
  refine WR.call rfl rfl (right_any f Ab cb _) ?_
  clear hB2 hB3
  rintro _ w4 ⟨rfl, hb4⟩
  refine ⟨_, rfl, ?_⟩
  replace M := M.below hb4
  have hB3 := M.swap.box
  have hB2 := M.third.box
  cases hR : rightB f with
  | false =>
    (repeat (first | (refine WR.id ?_; first | refine WR.nil ?_ | refine WR.s ?_ | refine WR.g ?_) | (refine W.id ?_; first | refine W.seq fun _ _ => ?_ | refine W.region ?_ | refine W.s ?_ | refine W.e ?_) | (refine Ends.id ?_; first | refine Ends.seq (by assumption) ?_ | refine Ends.s ?_)))
    refine WR.storeAgg (cs' := [.slice A fs.length cp]) M.box (by rfl) (by rfl) (by rfl) (by rfl) (by intro u hu; obtain rfl := List.mem_singleton.1 hu; rfl) fun w5 hu5 hx5 hs5 => ?_
    replace M := M.setBox hu5 hx5
    (repeat (first | (refine WR.id ?_; first | refine WR.nil ?_ | refine WR.s ?_ | refine WR.g ?_) | (refine W.id ?_; first | refine W.seq fun _ _ => ?_ | refine W.region ?_ | refine W.s ?_ | refine W.e ?_) | (refine Ends.id ?_; first | refine Ends.seq (by assumption) ?_ | refine Ends.s ?_)))
    have hsend : RF.send fs f = (2, fs) := by unfold RF.send; rw [if_pos hR]
    exact Ends.retCT rfl (by rfl) (by rfl) (hx5.load (by rfl)) (by rw [hsend]; exact ⟨_, rfl, GotZ.keep h (M.pre 2 rfl)⟩)
  | true =>
    by_cases h512 : fs.length = 512
    · (repeat (first | (refine WR.id ?_; first | refine WR.nil ?_ | refine WR.s ?_ | refine WR.g ?_) | (refine W.id ?_; first | refine W.seq fun _ _ => ?_ | refine W.region ?_ | refine W.s ?_ | refine W.e ?_) | (refine Ends.id ?_; first | refine Ends.seq (by assumption) ?_ | refine Ends.s ?_)))
      refine WR.storeAgg (cs' := [.slice A fs.length cp]) M.box (by rfl) (by rfl) (by rfl) (by rfl) (by intro u hu; obtain rfl := List.mem_singleton.1 hu; rfl) fun w5 hu5 hx5 hs5 => ?_
      replace M := M.setBox hu5 hx5
      (repeat (first | (refine WR.id ?_; first | refine WR.nil ?_ | refine WR.s ?_ | refine WR.g ?_) | (refine W.id ?_; first | refine W.seq fun _ _ => ?_ | refine W.region ?_ | refine W.s ?_ | refine W.e ?_) | (refine Ends.id ?_; first | refine Ends.seq (by assumption) ?_ | refine Ends.s ?_)))
      have hsend : RF.send fs f = (6, fs) := by unfold RF.send; rw [if_neg (by rw [hR]; decide), if_pos h512]
      exact Ends.retCT rfl (by rfl) (by rfl) (hx5.load (by rfl)) (by rw [hsend]; exact ⟨_, rfl, GotZ.keep h (M.pre 2 rfl)⟩)
    · have hsend : RF.send fs f = (0, fs ++ [f]) := by unfold RF.send; rw [if_neg (by rw [hR]; decide), if_neg h512]
      (repeat (first | (refine WR.id ?_; first | refine WR.nil ?_ | refine WR.s ?_ | refine WR.g ?_) | (refine W.id ?_; first | refine W.seq fun _ _ => ?_ | refine W.region ?_ | refine W.s ?_ | refine W.e ?_) | (refine Ends.id ?_; first | refine Ends.seq (by assumption) ?_ | refine Ends.s ?_)))
      obtain ⟨F1, hF1⟩ := M.z 0 rfl
      refine WR.call rfl rfl (copied_any _ fs _ _ hF1 (by omega) hb) ?_
      clear hB2 hB3
      rintro _ w5 ⟨v5, rfl, hf5⟩
      refine ⟨_, rfl, ?_⟩
      replace M := (M.add hf5).fourth
      obtain ⟨A5, c5, rfl⟩ : ∃ A c, v5 = .slice A fs.length c := by obtain ⟨F, hF⟩ := M.swap.get; exact aFl_sl hF
      refine WR.storeAgg (cs' := [.slice A5 fs.length c5]) M.box (by rfl) (by rfl) (by rfl) (by rfl) (by intro u hu; obtain rfl := List.mem_singleton.1 hu; rfl) fun w6 hu6 hx6 hs6 => ?_
      replace M := (M.setBox hu6 hx6)
      (repeat (first | (refine WR.id ?_; first | refine WR.nil ?_ | refine WR.s ?_ | refine WR.g ?_) | (refine W.id ?_; first | refine W.seq fun _ _ => ?_ | refine W.region ?_ | refine W.s ?_ | refine W.e ?_) | (refine Ends.id ?_; first | refine Ends.seq (by assumption) ?_ | refine Ends.s ?_)))
      refine WR.row0 Try.elB (by rfl) fun w7 hb7 ho7 hs7 => ?_
      have M7 := M.below hb7
      have hB3 := M7.fourth.box
      obtain ⟨F7, hF7⟩ := M7.sl 1 rfl
      (repeat (first | (refine WR.id ?_; first | refine WR.nil ?_ | refine WR.s ?_ | refine WR.g ?_) | (refine W.id ?_; first | refine W.seq fun _ _ => ?_ | refine W.region ?_ | refine W.s ?_ | refine W.e ?_) | (refine Ends.id ?_; first | refine Ends.seq (by assumption) ?_ | refine Ends.s ?_)))
      refine WR.app0 Try.elB (by rfl) (by rfl) (by rfl) ho7 hF7 (one_bvs _) (by omega) (by decide) hb7.size fun v8 w8 ho8 hb8 => ?_
      obtain ⟨-, A8, c8, rfl, -⟩ := Sl.of_row ho8
      replace M := (M.add (by_of_row rfl (hb7.trans (hb8.mono hb7.size)) ho8)).fifth
      clear M7 hB3 ho7 ho8 hF7
      (repeat (first | (refine WR.id ?_; first | refine WR.nil ?_ | refine WR.s ?_ | refine WR.g ?_) | (refine W.id ?_; first | refine W.seq fun _ _ => ?_ | refine W.region ?_ | refine W.s ?_ | refine W.e ?_) | (refine Ends.id ?_; first | refine Ends.seq (by assumption) ?_ | refine Ends.s ?_)))
      refine WR.storeBox M.box (by rfl) (by rfl) rfl rfl (by simp [PF.cells]) fun w9 hu9 hx9 hs9 => ?_
      have hx9' : Box w9 b3 (f.cells (.slice A8 f.bytes.length c8)) := hx9
      replace M := M.setBox hu9 hx9'
      clear hx9
      have hB2 := M.third.box
      (repeat (first | (refine WR.id ?_; first | refine WR.nil ?_ | refine WR.s ?_ | refine WR.g ?_) | (refine W.id ?_; first | refine W.seq fun _ _ => ?_ | refine W.region ?_ | refine W.s ?_ | refine W.e ?_) | (refine Ends.id ?_; first | refine Ends.seq (by assumption) ?_ | refine Ends.s ?_)))
      refine WR.row1 Try.elF (by decide) (by rfl) (by rfl) (by rfl) fun w10 hb10 hs10 => ?_
      replace M := ((M.below hb10).drop.third).under1 fun M => M
      refine WR.flApp M (by rfl) (by rfl) (by rfl) hs10 rfl (by omega) fun A11 c11 w11 M => ?_
      refine WR.fieldAddr (by rfl) (by rfl) ?_
      refine WR.storeBox M.swap.box (by rfl) (by rfl) rfl rfl (by simp) fun w12 hu12 hx12 hs12 => ?_
      replace M := M.swap.setBox hu12 hx12
      have hB2 := M.box
      (repeat (first | (refine WR.id ?_; first | refine WR.nil ?_ | refine WR.s ?_ | refine WR.g ?_) | (refine W.id ?_; first | refine W.seq fun _ _ => ?_ | refine W.region ?_ | refine W.s ?_ | refine W.e ?_) | (refine Ends.id ?_; first | refine Ends.seq (by assumption) ?_ | refine Ends.s ?_)))
      refine WR.storeAgg (cs' := [.slice A11 (fs.length + 1) c11]) M.third.box (by rfl) (by rfl) (by rfl) (by rfl) (by intro u hu; obtain rfl := List.mem_singleton.1 hu; rfl) fun w13 hu13 hx13 hs13 => ?_
      replace M := M.third.setBox hu13 hx13
      (repeat (first | (refine WR.id ?_; first | refine WR.nil ?_ | refine WR.s ?_ | refine WR.g ?_) | (refine W.id ?_; first | refine W.seq fun _ _ => ?_ | refine W.region ?_ | refine W.s ?_ | refine W.e ?_) | (refine Ends.id ?_; first | refine Ends.seq (by assumption) ?_ | refine Ends.s ?_)))
      exact Ends.retCT rfl (by rfl) (by rfl) (hx13.load (by rfl)) (by rw [hsend]; exact ⟨_, rfl, (M.drop.drop.fresh 2 rfl).got F⟩)
set_option maxHeartbeats 1000000 in
theorem rlose_any (v : Value) (fs : List PF) (p : PK) (n : Int) (w : World) (F : Nat → Prop) (h : (aFl v fs).p w F) (hn : fs.length ≤ 512) (hb : ∀ f ∈ fs, f.bytes.length ≤ 1048576) :
    Calls Try.prog 34 #[.agg #[v], .int .i64 p.1, .int .i64 p.2, .int .i64 n] w fun r w' => ∃ v', r = .returned (.tuple #[.agg #[v'], .int .i64 (RF.lose fs p n).1]) ∧ GotZ w w' F (aFl v' (RF.lose fs p n).2) := by
  obtain ⟨A, cp, rfl⟩ := aFl_sl h
  have M := Mem.src h
  refine enter Try.func34 rfl Try.ntmps34 rfl rfl ?_
  (repeat (first | (refine WR.id ?_; first | refine WR.nil ?_ | refine WR.s ?_ | refine WR.g ?_) | (refine W.id ?_; first | refine W.seq fun _ _ => ?_ | refine W.region ?_ | refine W.s ?_ | refine W.e ?_) | (refine Ends.id ?_; first | refine Ends.seq (by assumption) ?_ | refine Ends.s ?_)))
  refine WR.box rfl (cs := #[.slice A fs.length cp]) rfl rfl fun w1 hb1 hx1 hs1 => ?_
  replace M := (M.newBox (cs := [.slice A fs.length cp]) hb1 hx1).freeze
  refine WR.alloc (by rfl) fun w2 hb2 hx2 hs2 => ?_
  replace M := (M.newBox (cs := [.slice none 0 0]) hb2 hx2)
  generalize w1.heap.size = b8 at M ⊢
  have hB := M.zbox 0 rfl
  (repeat (first | (refine WR.id ?_; first | refine WR.nil ?_ | refine WR.s ?_ | refine WR.g ?_) | (refine W.id ?_; first | refine W.seq fun _ _ => ?_ | refine W.region ?_ | refine W.s ?_ | refine W.e ?_) | (refine Ends.id ?_; first | refine Ends.seq (by assumption) ?_ | refine Ends.s ?_)))
  obtain ⟨F1, hF1⟩ := M.z 1 rfl
  refine WR.call rfl rfl (of_any _ fs p _ _ hF1 (by omega)) ?_
  clear hB
  rintro _ w3 ⟨Ao, co, rfl, hfo⟩
  refine ⟨_, rfl, ?_⟩
  replace M := (M.add hfo).freeze
  have hB := M.zbox 1 rfl
  have hol : (RF.of fs p).length ≤ fs.length := idx_le _ _
  by_cases h0 : n < 0
  · have hr : RF.lose fs p n = (4, fs) := by unfold RF.lose; rw [if_pos h0]
    (repeat (first | (refine WR.id ?_; first | refine WR.nil ?_ | refine WR.s ?_ | refine WR.g ?_) | (refine W.id ?_; first | refine W.seq fun _ _ => ?_ | refine W.region ?_ | refine W.s ?_ | refine W.e ?_) | (refine Ends.id ?_; first | refine Ends.seq (by assumption) ?_ | refine Ends.s ?_)))
    refine WR.storeAgg (cs' := [.slice A fs.length cp]) M.box (by rfl) (by rfl) (by rfl) (by rfl) (by intro u hu; obtain rfl := List.mem_singleton.1 hu; rfl) fun w5 hu5 hx5 hs5 => ?_
    replace M := M.setBox hu5 hx5
    (repeat (first | (refine WR.id ?_; first | refine WR.nil ?_ | refine WR.s ?_ | refine WR.g ?_) | (refine W.id ?_; first | refine W.seq fun _ _ => ?_ | refine W.region ?_ | refine W.s ?_ | refine W.e ?_) | (refine Ends.id ?_; first | refine Ends.seq (by assumption) ?_ | refine Ends.s ?_)))
    exact Ends.retCT rfl (by rfl) (by rfl) (hx5.load (by rfl)) (by rw [hr]; exact ⟨_, rfl, GotZ.keep h (M.pre 3 rfl)⟩)
  · by_cases h9 : ((RF.of fs p).length : Int) ≤ n
    · have hr : RF.lose fs p n = (4, fs) := by unfold RF.lose; rw [if_neg h0, List.getElem?_eq_none (by omega)]
      (repeat (first | (refine WR.id ?_; first | refine WR.nil ?_ | refine WR.s ?_ | refine WR.g ?_) | (refine W.id ?_; first | refine W.seq fun _ _ => ?_ | refine W.region ?_ | refine W.s ?_ | refine W.e ?_) | (refine Ends.id ?_; first | refine Ends.seq (by assumption) ?_ | refine Ends.s ?_)))
      refine WR.storeAgg (cs' := [.slice A fs.length cp]) M.box (by rfl) (by rfl) (by rfl) (by rfl) (by intro u hu; obtain rfl := List.mem_singleton.1 hu; rfl) fun w5 hu5 hx5 hs5 => ?_
      replace M := M.setBox hu5 hx5
      (repeat (first | (refine WR.id ?_; first | refine WR.nil ?_ | refine WR.s ?_ | refine WR.g ?_) | (refine W.id ?_; first | refine W.seq fun _ _ => ?_ | refine W.region ?_ | refine W.s ?_ | refine W.e ?_) | (refine Ends.id ?_; first | refine Ends.seq (by assumption) ?_ | refine Ends.s ?_)))
      exact Ends.retCT rfl (by rfl) (by rfl) (hx5.load (by rfl)) (by rw [hr]; exact ⟨_, rfl, GotZ.keep h (M.pre 3 rfl)⟩)
    · obtain ⟨k, rfl⟩ : ∃ k : Nat, n = k := ⟨n.toNat, by omega⟩
      obtain ⟨i, hi⟩ : ∃ i, (RF.of fs p)[k]? = some i := ⟨_, List.getElem?_eq_getElem (by omega)⟩
      have hil : i < fs.length := idx_lt (List.mem_of_getElem? hi)
      have hr : RF.lose fs p (k : Nat) = (0, fs.eraseIdx i) := by unfold RF.lose; rw [if_neg h0]; simp only [Int.toNat_natCast, hi]
      obtain ⟨Fo, hFo⟩ := M.z 0 rfl
      obtain ⟨go, rfl⟩ := lrow_some hFo.2 (by omega)
      have hci := nat_cell hFo.2 hi
      (repeat (first | (refine WR.id ?_; first | refine WR.nil ?_ | refine WR.s ?_ | refine WR.g ?_) | (refine W.id ?_; first | refine W.seq fun _ _ => ?_ | refine W.region ?_ | refine W.s ?_ | refine W.e ?_) | (refine Ends.id ?_; first | refine Ends.seq (by assumption) ?_ | refine Ends.s ?_)))
      apply W.drawsTo 6 [[], [], [], [1, 2], [3], [0, 4]]
        [is _, is _, is _, is _, is _, (fun u v => ∃ v', v = .agg #[v'] ∧ ∃ F, (aFl v' (fs.eraseIdx i)).p u F ∧ ∀ b, F b → w3.heap.size ≤ b)] (by kernel_rfl) (by kernel_rfl) (by rfl) (by kernel_rfl) (by kernel_rfl) ⟨stab_is _, stab_is _, stab_is _, stab_is _, stab_is _, (fun _ _ _ ⟨v', e, F, h1, h2⟩ hb => ⟨v', e, F, (aFl v' _).stab h1 ((Stays.of_below hb).mono fun b hb => (aFl v' _).bnd h1 b hb), h2⟩), trivial⟩ ?step1 ?fin1
      case step1 =>
        refine ⟨fun wq hbq Kq hKq => ?_, fun wq hbq Kq hKq => ?_, fun wq hbq Kq hKq => ?_, fun wq hbq Kq hKq => ?_, fun wq hbq Kq hKq => ?_, fun wq hbq Kq hKq => ?_, trivial⟩
        · have Mq := M.below hbq; have hB := Mq.zbox 1 rfl; have hcq : wq.cell? ⟨go, 0 + k * 1, none⟩ = some (.int .i64 (i : Nat)) := (World.cell?_of_block (hbq.block go (World.block_lt_of_cell? _ _ hci))).trans hci
          refine WR.s ?_; refine WR.nil ?_; exact Ends.one hKq rfl rfl (Below.refl _ _)
        · have Mq := M.below hbq; have hB := Mq.zbox 1 rfl; have hcq : wq.cell? ⟨go, 0 + k * 1, none⟩ = some (.int .i64 (i : Nat)) := (World.cell?_of_block (hbq.block go (World.block_lt_of_cell? _ _ hci))).trans hci
          refine WR.s ?_; refine WR.nil ?_; exact Ends.one hKq rfl rfl (Below.refl _ _)
        · have Mq := M.below hbq; have hB := Mq.zbox 1 rfl; have hcq : wq.cell? ⟨go, 0 + k * 1, none⟩ = some (.int .i64 (i : Nat)) := (World.cell?_of_block (hbq.block go (World.block_lt_of_cell? _ _ hci))).trans hci
          refine WR.s ?_; refine WR.nil ?_; exact Ends.one hKq rfl rfl (Below.refl _ _)
        · rintro _ rfl _ rfl
          have Mq := M.below hbq; have hB := Mq.zbox 1 rfl; have hcq : wq.cell? ⟨go, 0 + k * 1, none⟩ = some (.int .i64 (i : Nat)) := (World.cell?_of_block (hbq.block go (World.block_lt_of_cell? _ _ hci))).trans hci
          refine WR.indexAddr (j := k) (by rfl) (by rfl) (by rfl) (by omega) ?_; refine WR.nil ?_; exact Ends.one hKq rfl rfl (Below.refl _ _)
        · rintro _ rfl
          have Mq := M.below hbq; have hB := Mq.zbox 1 rfl; have hcq : wq.cell? ⟨go, 0 + k * 1, none⟩ = some (.int .i64 (i : Nat)) := (World.cell?_of_block (hbq.block go (World.block_lt_of_cell? _ _ hci))).trans hci
          refine WR.load (by rfl) (by exact hcq) (by rfl) ?_; refine WR.nil ?_; exact Ends.one hKq rfl rfl (Below.refl _ _)
        · rintro _ rfl _ rfl
          have Mq := M.below hbq; have hB := Mq.zbox 1 rfl; have hcq : wq.cell? ⟨go, 0 + k * 1, none⟩ = some (.int .i64 (i : Nat)) := (World.cell?_of_block (hbq.block go (World.block_lt_of_cell? _ _ hci))).trans hci
          obtain ⟨F5, hF5⟩ := Mq.z 2 rfl; refine WR.call (by rfl) (by rfl) (without_any _ fs i _ _ hF5 (by omega) hb hil) ?_; rintro _ wy ⟨v', rfl, hby, F7, h7, h7b⟩; refine ⟨_, rfl, ?_⟩; refine WR.nil ?_; exact Ends.one hKq rfl ⟨v', rfl, F7, h7, fun b hb => Nat.le_trans hbq.size (h7b b hb)⟩ hby 
      intro wq hbq
      rintro _ rfl _ rfl _ rfl _ rfl _ rfl v5 h5
      refine WR.id ?_
      have Mq := M.below hbq; have hB := Mq.zbox 1 rfl; have hcq : wq.cell? ⟨go, 0 + k * 1, none⟩ = some (.int .i64 (i : Nat)) := (World.cell?_of_block (hbq.block go (World.block_lt_of_cell? _ _ hci))).trans hci
      obtain ⟨v', rfl, F5, h5, h5b⟩ := h5
      replace M := M.new hbq h5 h5b
      clear Mq hB
      obtain ⟨A5, c5, rfl⟩ := aFl_sl h5
      refine WR.storeAgg (cs' := [.slice A5 (fs.eraseIdx i).length c5]) M.swap.box (by rfl) (by rfl) (by rfl) (by rfl) (by intro u hu; obtain rfl := List.mem_singleton.1 hu; rfl) fun w6 hu6 hx6 hs6 => ?_
      replace M := M.swap.setBox hu6 hx6
      (repeat (first | (refine WR.id ?_; first | refine WR.nil ?_ | refine WR.s ?_ | refine WR.g ?_) | (refine W.id ?_; first | refine W.seq fun _ _ => ?_ | refine W.region ?_ | refine W.s ?_ | refine W.e ?_) | (refine Ends.id ?_; first | refine Ends.seq (by assumption) ?_ | refine Ends.s ?_)))
      exact Ends.retCT rfl (by rfl) (by rfl) (hx6.load (by rfl)) (by rw [hr]; exact ⟨_, rfl, (M.drop.fresh 3 rfl).got F⟩)

end Go.Proofs.Ytibmcpbkialbnaa
