/- Links: Send. No condition beyond sizes. -/
import Derived.Test.YtibmcpbkialbnaaLk4
namespace Go.Proofs.Ytibmcpbkialbnaa
open Go.RowKit K L E
open Go.Maps (Keyed)
set_option linter.unusedVariables false
set_option linter.unusedSimpArgs false

theorem E.Mem.rot3 {w : World} {a b c x : Ass} {l Os Zs : List Ass} (M : Mem w (a :: b :: c :: (l ++ x :: Os)) Zs) : Mem w (x :: a :: b :: c :: (l ++ Os)) Zs := M.perm (List.perm_middle (l₁ := a :: b :: c :: l))

def rightB (f : PF) : Bool := nodeB f.frm && nodeB f.dst && !(decide (f.frm = f.dst)) && decide (0 ≤ f.tick) && decide (f.tick ≤ 1048576) && decide (1 ≤ f.bytes.length) && decide (f.bytes.length ≤ 400)
def PL.add (l : PL) (f : PF) : PL := l.put (f.frm, f.dst) (l.m (f.frm, f.dst) ++ [f]) (l.n + 1)
def PL.send (l : PL) (f : PF) : Int × PL := if rightB f = false then (2, l) else if l.n = 512 then (6, l) else (0, l.add f)
variable {w : World} {b g c : Nat} {l : PL} {es : List MapEntry} {Os Zs : List Ass}
set_option maxHeartbeats 1000000 in
theorem send_M (M : Mem w (aLk b l :: Os) Zs) (f : PF) (v : Value) (h1 : i64 f.frm) (h2 : i64 f.dst) (h3 : i64 f.tick) (hv : ∃ F, Bs w F v f.bytes) (hl : f.bytes.length ≤ 1048576) (hn : l.n ≤ 512) :
    Calls Try.prog 12 #[.pointer (some ⟨b, 0, none⟩), .agg (f.cells v).toArray] w fun r w' => r = .returned (.int .i64 (l.send f).1) ∧ Mem w' (aLk b (l.send f).2 :: Os) Zs := by
  obtain ⟨F, hv⟩ := hv
  obtain ⟨A, cp, rfl, -, -, -, -⟩ := hv.open_
  refine enter Try.func12 rfl Try.ntmps12 rfl rfl ?_
  (repeat (first | (refine WR.id ?_; first | refine WR.nil ?_ | refine WR.s ?_ | refine WR.g ?_) | (refine W.id ?_; first | refine W.seq fun _ _ => ?_ | refine W.region ?_ | refine W.s ?_ | refine W.e ?_) | (refine Ends.id ?_; first | refine Ends.seq (by assumption) ?_ | refine Ends.s ?_)))
  refine WR.box rfl (cs := #[.int .i64 f.frm, .int .i64 f.dst, .int .i64 f.tick, .slice A f.bytes.length cp]) rfl rfl fun w1 hb1 hx hs1 => ?_
  have M1 := M.newBox (cs := [.int .i64 f.frm, .int .i64 f.dst, .int .i64 f.tick, .slice A f.bytes.length cp]) hb1 hx
  have hX := M1.box
  have hv1 := hv.below hb1
  (repeat (first | (refine WR.id ?_; first | refine WR.nil ?_ | refine WR.s ?_ | refine WR.g ?_) | (refine W.id ?_; first | refine W.seq fun _ _ => ?_ | refine W.region ?_ | refine W.s ?_ | refine W.e ?_) | (refine Ends.id ?_; first | refine Ends.seq (by assumption) ?_ | refine Ends.s ?_)))
  generalize hR : rightB f = R
  refine WR.cut (X := Unit) 99 (fun _ => [(0, .pointer (some ⟨b, 0, none⟩)), (3, .pointer (some ⟨w.heap.size, 0, none⟩)), (9, .bool (!R))]) (fun _ u => u = w1) ?_ ?_
  · intro K hK
    refine WR.call rfl rfl (node_any _ _) ?_
    rintro _ _ ⟨rfl, rfl⟩
    refine ⟨_, rfl, ?_⟩
    cases hA : nodeB f.frm with
    | false =>
      obtain rfl : R = false := by rw [← hR]; simp [rightB, hA]
      (repeat (first | (refine WR.id ?_; first | refine WR.nil ?_ | refine WR.s ?_ | refine WR.g ?_) | (refine W.id ?_; first | refine W.seq fun _ _ => ?_ | refine W.region ?_ | refine W.s ?_ | refine W.e ?_) | (refine Ends.id ?_; first | refine Ends.seq (by assumption) ?_ | refine Ends.s ?_)))
      exact Ends.cut hK () (by repeat (first | exact .nil | refine .cons rfl ?_)) rfl
    | true =>
      (repeat (first | (refine WR.id ?_; first | refine WR.nil ?_ | refine WR.s ?_ | refine WR.g ?_) | (refine W.id ?_; first | refine W.seq fun _ _ => ?_ | refine W.region ?_ | refine W.s ?_ | refine W.e ?_) | (refine Ends.id ?_; first | refine Ends.seq (by assumption) ?_ | refine Ends.s ?_)))
      refine WR.call rfl rfl (node_any _ _) ?_
      rintro _ _ ⟨rfl, rfl⟩
      refine ⟨_, rfl, ?_⟩
      cases hB : nodeB f.dst with
      | false =>
        obtain rfl : R = false := by rw [← hR]; simp [rightB, hB]
        (repeat (first | (refine WR.id ?_; first | refine WR.nil ?_ | refine WR.s ?_ | refine WR.g ?_) | (refine W.id ?_; first | refine W.seq fun _ _ => ?_ | refine W.region ?_ | refine W.s ?_ | refine W.e ?_) | (refine Ends.id ?_; first | refine Ends.seq (by assumption) ?_ | refine Ends.s ?_)))
        exact Ends.cut hK () (by repeat (first | exact .nil | refine .cons rfl ?_)) rfl
      | true =>
        by_cases hC : f.frm = f.dst
        · obtain rfl : R = false := by rw [← hR]; simp [rightB, hC]
          (repeat (first | (refine WR.id ?_; first | refine WR.nil ?_ | refine WR.s ?_ | refine WR.g ?_) | (refine W.id ?_; first | refine W.seq fun _ _ => ?_ | refine W.region ?_ | refine W.s ?_ | refine W.e ?_) | (refine Ends.id ?_; first | refine Ends.seq (by assumption) ?_ | refine Ends.s ?_)))
          exact Ends.cut hK () (by repeat (first | exact .nil | refine .cons rfl ?_)) rfl
        · by_cases hD : f.tick < 0
          · obtain rfl : R = false := by rw [← hR]; simp [rightB]; omega
            (repeat (first | (refine WR.id ?_; first | refine WR.nil ?_ | refine WR.s ?_ | refine WR.g ?_) | (refine W.id ?_; first | refine W.seq fun _ _ => ?_ | refine W.region ?_ | refine W.s ?_ | refine W.e ?_) | (refine Ends.id ?_; first | refine Ends.seq (by assumption) ?_ | refine Ends.s ?_)))
            exact Ends.cut hK () (by repeat (first | exact .nil | refine .cons rfl ?_)) rfl
          · by_cases hE : f.tick ≤ 1048576
            · by_cases hG : f.bytes.length = 0
              · obtain rfl : R = false := by rw [← hR]; simp [rightB, hG]
                (repeat (first | (refine WR.id ?_; first | refine WR.nil ?_ | refine WR.s ?_ | refine WR.g ?_) | (refine W.id ?_; first | refine W.seq fun _ _ => ?_ | refine W.region ?_ | refine W.s ?_ | refine W.e ?_) | (refine Ends.id ?_; first | refine Ends.seq (by assumption) ?_ | refine Ends.s ?_)))
                exact Ends.cut hK () (by repeat (first | exact .nil | refine .cons rfl ?_)) rfl
              · by_cases hH : f.bytes.length ≤ 400
                · obtain rfl : R = true := by rw [← hR]; simp [rightB, hA, hB, hC, hE, hH]; omega
                  (repeat (first | (refine WR.id ?_; first | refine WR.nil ?_ | refine WR.s ?_ | refine WR.g ?_) | (refine W.id ?_; first | refine W.seq fun _ _ => ?_ | refine W.region ?_ | refine W.s ?_ | refine W.e ?_) | (refine Ends.id ?_; first | refine Ends.seq (by assumption) ?_ | refine Ends.s ?_)))
                  exact Ends.cut hK () (by repeat (first | exact .nil | refine .cons rfl ?_)) rfl
                · obtain rfl : R = false := by rw [← hR]; simp [rightB]; omega
                  (repeat (first | (refine WR.id ?_; first | refine WR.nil ?_ | refine WR.s ?_ | refine WR.g ?_) | (refine W.id ?_; first | refine W.seq fun _ _ => ?_ | refine W.region ?_ | refine W.s ?_ | refine W.e ?_) | (refine Ends.id ?_; first | refine Ends.seq (by assumption) ?_ | refine Ends.s ?_)))
                  exact Ends.cut hK () (by repeat (first | exact .nil | refine .cons rfl ?_)) rfl
            · obtain rfl : R = false := by rw [← hR]; simp [rightB]; omega
              (repeat (first | (refine WR.id ?_; first | refine WR.nil ?_ | refine WR.s ?_ | refine WR.g ?_) | (refine W.id ?_; first | refine W.seq fun _ _ => ?_ | refine W.region ?_ | refine W.s ?_ | refine W.e ?_) | (refine Ends.id ?_; first | refine Ends.seq (by assumption) ?_ | refine Ends.s ?_)))
              exact Ends.cut hK () (by repeat (first | exact .nil | refine .cons rfl ?_)) rfl
  · rintro _ w1 rfl
    cases R with
    | false =>
      (repeat (first | (refine WR.id ?_; first | refine WR.nil ?_ | refine WR.s ?_ | refine WR.g ?_) | (refine W.id ?_; first | refine W.seq fun _ _ => ?_ | refine W.region ?_ | refine W.s ?_ | refine W.e ?_) | (refine Ends.id ?_; first | refine Ends.seq (by assumption) ?_ | refine Ends.s ?_)))
      exact Ends.ret1 rfl rfl ⟨by simp [PL.send, hR], by simpa [PL.send, hR] using M1.drop⟩
    | true =>
      obtain ⟨g, es, c, hk, M2⟩ := M1.swap.lk
      have hB := M2.box
      by_cases hf : l.n = 512
      · (repeat (first | (refine WR.id ?_; first | refine WR.nil ?_ | refine WR.s ?_ | refine WR.g ?_) | (refine W.id ?_; first | refine W.seq fun _ _ => ?_ | refine W.region ?_ | refine W.s ?_ | refine W.e ?_) | (refine Ends.id ?_; first | refine Ends.seq (by assumption) ?_ | refine Ends.s ?_)))
        exact Ends.ret1 rfl rfl ⟨by simp [PL.send, hR, hf], by simpa [PL.send, hR, hf] using M1.drop⟩
      · (repeat (first | (refine WR.id ?_; first | refine WR.nil ?_ | refine WR.s ?_ | refine WR.g ?_) | (refine W.id ?_; first | refine W.seq fun _ _ => ?_ | refine W.region ?_ | refine W.s ?_ | refine W.e ?_) | (refine Ends.id ?_; first | refine Ends.seq (by assumption) ?_ | refine Ends.s ?_)))
        refine WR.buildRun (vs := #[(0, .int .i64 f.frm), (1, .int .i64 f.dst)]) (fun a ha => by rw [List.map_toArray]; simp only [List.map_cons, List.map_nil, ha.ev (x := .tmp 56) rfl, ha.ev (x := .tmp 58) rfl]) rfl (build_pair _ _ _) ?_
        refine WR.allocStore (v := kv (f.frm, f.dst)) (c := #[.int .i64 f.frm, .int .i64 f.dst]) rfl rfl rfl (by rfl) (by rfl) (by simp [Value.oneCell']) rfl fun w2 hb2 hp hs2 => ?_
        have M3 := (M2.newBox (cs := [.int .i64 f.frm, .int .i64 f.dst]) hb2 hp).freeze
        have hv2 := hv1.below hb2
        have hB2 := hB.below hb2
        have hX2 := hX.below hb2
        (repeat (first | (refine WR.id ?_; first | refine WR.nil ?_ | refine WR.s ?_ | refine WR.g ?_) | (refine W.id ?_; first | refine W.seq fun _ _ => ?_ | refine W.region ?_ | refine W.s ?_ | refine W.e ?_) | (refine Ends.id ?_; first | refine Ends.seq (by assumption) ?_ | refine Ends.s ?_)))
        refine WR.call rfl rfl (bclone_any _ _ _ _ hv2 (by omega)) ?_
        rintro _ w3 ⟨v', rfl, ho, hb3⟩
        refine ⟨_, rfl, ?_⟩
        obtain ⟨A', c', rfl, -, -, -, -⟩ := ho.bs.open_
        have M4 := M3.newRow hb3 ho (Nat.le_refl _)
        have M5 := M4.rot3
        (repeat (first | (refine WR.id ?_; first | refine WR.nil ?_ | refine WR.s ?_ | refine WR.g ?_) | (refine W.id ?_; first | refine W.seq fun _ _ => ?_ | refine W.region ?_ | refine W.s ?_ | refine W.e ?_) | (refine Ends.id ?_; first | refine Ends.seq (by assumption) ?_ | refine Ends.s ?_)))
        refine WR.storeBox M5.box (by rfl) rfl rfl rfl (by simp) fun w4 hu4 hx4 hs4 => ?_
        have M6 := (M5.setBox hu4 hx4).freeze
        (repeat (first | (refine WR.id ?_; first | refine WR.nil ?_ | refine WR.s ?_ | refine WR.g ?_) | (refine W.id ?_; first | refine W.seq fun _ _ => ?_ | refine W.region ?_ | refine W.s ?_ | refine W.e ?_) | (refine Ends.id ?_; first | refine Ends.seq (by assumption) ?_ | refine Ends.s ?_)))
        obtain ⟨l1, e, l2, c2, he, hent, hrows, hk1, hk2, hsum⟩ := entry_lk (g := g) (c := c) hk (f.frm, f.dst) h1 h2 (fun _ _ => trivial)
        have heb : ∀ x, e.val.ownBlock = some x → x < w4.heap.size := by
          obtain ⟨vs, _, Me⟩ := (hrows _ _ _ M6.drop.drop.drop).fl
          exact Me.lrow.lt
        have hg : g < w4.heap.size := (Array.getElem?_eq_some_iff.1 M6.third.map.at_).1
        apply W.draws3 [7, 9, 11] [[], [0], [1], [2], [], [], [5], [3, 4], [7], [8, 6], [7], [3, 10, 9]] [(0, 1), (0, 1), (0, 1), (0, 1), (0, 1), (0, 1), (0, 1), (0, 1), (1, 1), (1, 1), (1, 2), (2, 1)]
          [is _, is _, is _, is _, is _, is _, (fun u v => K.Sl u (w4.heap.size ≤ ·) 4 v 1 (f.cells (.slice A' f.bytes.length c'))), fun _ _ => True, is _, fun _ _ => True, is _, fun _ _ => True] (fun | [] => (fun u => Mem u (aBy (.slice A' f.bytes.length c') f.bytes :: aBox b [.map (some g), .int .i64 (l.n : Nat)] :: aMap Try.prog 66 g es c :: ((es.map fun e => aFl e.val (l.m (pk e.key))) ++ Os)) (aBox w.heap.size (f.cells (.slice A' f.bytes.length c')) :: aBox w1.heap.size [.int .i64 f.frm, .int .i64 f.dst] :: Zs)) | [u0] => (fun u => u0 = .tuple #[e.val, .int .i64 (e.born : Nat)] ∧ Mem u (aFl e.val (l.m (f.frm, f.dst)) :: aBy (.slice A' f.bytes.length c') f.bytes :: aBox b [.map (some g), .int .i64 (l.n : Nat)] :: aMap Try.prog 66 g (l1 ++ e :: l2) c2 :: (((l1 ++ l2).map fun e => aFl e.val (l.m (pk e.key))) ++ Os)) (aBox w.heap.size (f.cells (.slice A' f.bytes.length c')) :: aBox w1.heap.size [.int .i64 f.frm, .int .i64 f.dst] :: Zs)) | [u0, u1] => (fun u => u0 = .tuple #[e.val, .int .i64 (e.born : Nat)] ∧ Mem u (aFl u1 (l.m (f.frm, f.dst) ++ [f]) :: aBox b [.map (some g), .int .i64 (l.n : Nat)] :: aMap Try.prog 66 g (l1 ++ e :: l2) c2 :: (((l1 ++ l2).map fun e => aFl e.val (l.m (pk e.key))) ++ Os)) Zs) | _ => (fun u => ∃ u1, Mem u (aFl u1 (l.m (f.frm, f.dst) ++ [f]) :: aBox b [.map (some g), .int .i64 (l.n : Nat)] :: aMap Try.prog 66 g (l1 ++ { e with val := u1 } :: l2) c2 :: (((l1 ++ l2).map fun e => aFl e.val (l.m (pk e.key))) ++ Os)) Zs)) (by kernel_rfl) (by kernel_rfl) (by rfl) (by kernel_rfl) (by kernel_rfl) (by rfl) (by rfl) ⟨stab3_is _ _, stab3_is _ _, stab3_is _ _, stab3_is _ _, stab3_is _ _, stab3_is _ _, (fun u u' v h hu => hu.sl h (by decide) (fun b hb hn => by omega)), fun _ _ _ _ _ => trivial, stab3_is _ _, fun _ _ _ _ _ => trivial, stab3_is _ _, fun _ _ _ _ _ => trivial, trivial⟩ (fun vs u u' h hb => (by rcases vs with _ | ⟨a, _ | ⟨a2, _ | ⟨a3, r⟩⟩⟩ <;> first | exact Mem.below h hb | exact ⟨h.1, Mem.below h.2 hb⟩ | (obtain ⟨x, h⟩ := h; exact ⟨x, Mem.below h hb⟩))) (M6) ?step1 ?fin1
        case step1 =>
          refine ⟨⟨fun wq huq hjq Kq hKq => ?_, trivial⟩, ⟨fun wq huq hjq Kq hKq => ?_, trivial⟩, ⟨fun wq huq hjq Kq hKq => ?_, trivial⟩, ⟨fun wq huq hjq Kq hKq => ?_, trivial⟩, ⟨fun wq huq hjq Kq hKq => ?_, trivial⟩, ⟨fun wq huq hjq Kq hKq => ?_, trivial⟩, ⟨fun wq huq hjq Kq hKq => ?_, trivial⟩, ⟨fun wq huq hjq Kq hKq => ?_, trivial⟩, ⟨fun u0 wq huq hjq Kq hKq => ?_, trivial⟩, ⟨fun u0 wq huq hjq Kq hKq => ?_, trivial⟩, ⟨fun u0 wq huq hjq Kq hKq => ?_, fun u0 u1 wq huq hjq Kq hKq => ?_, trivial⟩, ⟨fun u0 u1 wq huq hjq Kq hKq => ?_, trivial⟩, trivial⟩
          · refine WR.s ?_; refine WR.nil ?_; exact Ends.one hKq rfl rfl (Below.refl _ _)
          · rintro _ rfl
            refine WR.s ?_; refine WR.nil ?_; exact Ends.one hKq rfl rfl (Below.refl _ _)
          · rintro _ rfl
            refine WR.s ?_; refine WR.nil ?_; exact Ends.one hKq rfl rfl (Below.refl _ _)
          · rintro _ rfl
            have hBq := hjq.drop.box; refine WR.loadCell (by rfl) hBq (by rfl) (by rfl) ?_; refine WR.nil ?_; exact Ends.one hKq rfl rfl (Below.refl _ _)
          · refine WR.loadBox (by rfl) (hjq.zbox 1 rfl) (by rfl) (by rfl) ?_; refine WR.nil ?_; exact Ends.one hKq rfl rfl (Below.refl _ _)
          · refine WR.loadBox (by rfl) (hjq.zbox 0 rfl) (by rfl) (by rfl) ?_; refine WR.nil ?_; exact Ends.one hKq rfl rfl (Below.refl _ _)
          · rintro _ rfl
            refine WR.buildSliceRun (vs := #[(0, .agg (f.cells (.slice A' f.bytes.length c')).toArray)]) (fun a ha => by rw [List.map_toArray]; simp only [List.map_cons, List.map_nil, ha.ev (x := .tmp 70) rfl]) (by rfl) (row_fl _ rfl _) ?_; refine WR.nil ?_; exact Ends.one hKq rfl (sl_one _ _ _ rfl huq.size) (below_al (Below.refl _ _) _) 
          · rintro _ rfl _ rfl
            obtain ⟨wz, hr, hm, hu⟩ := hent wq hjq.third.map; refine WR.mapEntry (by rfl) (by rfl) hr (by rfl) ?_; refine WR.nil ?_; have My := ((hjq.third.setMap hu hm).under1 fun M => M.under1 fun M => M.under1 fun M => hrows _ _ _ M).fourth; exact Ends.oneM hKq rfl ⟨rfl, My.under1 fun M => M.third.third⟩ (hu.mono fun x _ hx => by omega)
          · rintro u0 rfl
            obtain ⟨rfl, hjq⟩ := hjq
            refine WR.s ?_; refine WR.nil ?_; exact Ends.one hKq rfl rfl (Below.refl _ _)
          · rintro _ rfl v6 h6
            obtain ⟨rfl, hjq⟩ := hjq
            obtain ⟨v9, wz, hr, Mz, hu⟩ := app_fl hjq h6 rfl (by have := hk.cnt (f.frm, f.dst); have := hk.top; omega) 43; refine WR.builtin2 (v := v9) (w' := wz) (by rfl) (by rfl) (by rfl) (fun cs => by rw [BigFrame.builtin_append]; simp only [Sem.run_bind, hr, Result.andThen_ok, Sem.run_pure]) ?_; refine WR.nil ?_; exact Ends.oneM hKq rfl ⟨rfl, Mz.dropz.dropz⟩ (hu.mono fun x _ hx => heb x hx)
          · rintro u0 rfl
            obtain ⟨rfl, hjq⟩ := hjq
            refine WR.s ?_; refine WR.nil ?_; exact Ends.one hKq rfl rfl (Below.refl _ _)
          · rintro u0 rfl
            obtain ⟨rfl, hjq⟩ := hjq
            refine WR.s ?_; refine WR.nil ?_; exact Ends.one hKq rfl rfl (Below.refl _ _)
          · rintro _ rfl _ rfl u1 rfl
            obtain ⟨rfl, hjq⟩ := hjq
            obtain ⟨wz, hr, hm, hu⟩ := run_estore (t := 63) hjq.third.map u1; refine WR.entryStore (by rfl) (by rfl) (by rfl) hr ?_; refine WR.nil ?_; exact Ends.oneM0 hKq undef ⟨u1, (hjq.third.setMap hu hm).third.third⟩ (hu.mono fun x _ hx => by omega)
        intro u0 u1 u2 wq huq hjq
        rintro _ rfl _ rfl _ rfl _ rfl _ rfl _ rfl v6 h6 u0 rfl _ rfl u1 rfl _ rfl
        refine Ends.id ?_
        obtain ⟨u3, Mq⟩ := hjq
        have hC := Mq.swap.box
        (repeat (first | (refine WR.id ?_; first | refine WR.nil ?_ | refine WR.s ?_ | refine WR.g ?_) | (refine W.id ?_; first | refine W.seq fun _ _ => ?_ | refine W.region ?_ | refine W.s ?_ | refine W.e ?_) | (refine Ends.id ?_; first | refine Ends.seq (by assumption) ?_ | refine Ends.s ?_)))
        refine WR.storeBox hC (by rfl) rfl rfl rfl (by simp) fun w5 hu5 hx5 hs5 => ?_
        (repeat (first | (refine WR.id ?_; first | refine WR.nil ?_ | refine WR.s ?_ | refine WR.g ?_) | (refine W.id ?_; first | refine W.seq fun _ _ => ?_ | refine W.region ?_ | refine W.s ?_ | refine W.e ?_) | (refine Ends.id ?_; first | refine Ends.seq (by assumption) ?_ | refine Ends.s ?_)))
        refine Ends.ret1 rfl rfl ⟨by simp [PL.send, hR, hf], ?_⟩
        simp only [PL.send, hR, hf, if_false, Bool.true_eq_false]
        exact E.Mem.putLk he h1 h2 hk1 hk2 (by rw [List.length_append, List.length_singleton]; omega) (by omega) (Mq.swap.setBox hu5 hx5).swap

end Go.Proofs.Ytibmcpbkialbnaa
