/- Which of a pair's flights have arrived: arrived, Arrived; Deliver. No condition beyond sizes. -/
import Derived.Test.YtibmcpbkialbnaaLk9
namespace Go.Proofs.Ytibmcpbkialbnaa
open Go.RowKit K L E
open Go.Maps (Keyed)
set_option linter.unusedVariables false
set_option linter.unusedSimpArgs false

def cameF (fs : List PF) (now : Int) : List Nat := (fs.zipIdx.filter fun x => decide (x.1.tick ≤ now)).map (·.2)
def cameP (pre : List (Nat × PF × Value)) (now : Int) : List Nat := (pre.filter fun x => decide (x.2.1.tick ≤ now)).map (·.1)
def natv (l : List Nat) : List Value := l.map fun i => .int .i64 (i : Nat)
theorem one_natv (l : List Nat) : ∀ u ∈ natv l, u.oneCell' = true := by
  intro u hu
  obtain ⟨i, _, rfl⟩ := List.mem_map.1 hu
  rfl
theorem came_all {fs : List PF} {xs : List (Nat × PF × Value)} (h : GA fs xs) (hl : xs.length = fs.length) (now : Int) : cameP xs now = cameF fs now := by
  have e : fs.zipIdx = xs.map fun x => (x.2.1, x.1) := by
    apply List.ext_getElem?
    intro i
    rw [List.getElem?_zipIdx, List.getElem?_map, Nat.zero_add]
    by_cases hi : i < xs.length
    · obtain ⟨h1, h2⟩ := h i _ (List.getElem?_eq_getElem hi)
      rw [h2, List.getElem?_eq_getElem hi]; simp [h1]
    · rw [List.getElem?_eq_none (by omega), List.getElem?_eq_none (by omega)]; rfl
  unfold cameP cameF
  rw [e, List.filter_map, List.map_map]
  rfl
theorem came_lt {fs : List PF} {now : Int} {i : Nat} (h : i ∈ cameF fs now) : i < fs.length := by
  obtain ⟨⟨f, j⟩, hx, rfl⟩ := List.mem_map.1 h
  have := (List.mem_filter.1 hx).1
  have := List.mem_zipIdx this
  simp at this
  omega
theorem came_len (fs : List PF) (now : Int) : (cameF fs now).length ≤ fs.length := by
  unfold cameF
  rw [List.length_map]
  exact Nat.le_trans (List.length_filter_le _ _) (by simp)
theorem Try.elInt : Elem Try.prog 35 3 1 8 (.int .i64 0) := ⟨Try.underlying35, by kernel_rfl, rfl, by decide⟩
variable {w : World} {b g c : Nat} {l : PL} {es : List MapEntry} {Os Zs : List Ass}
theorem arrived_nil (p : PK) (now : Int) (w : World) : Calls Try.prog 31 #[.pointer none, kv p, .int .i64 now] w fun r w' => r = .returned (.slice none 0 0) ∧ Below w.heap.size w w' := by
  refine enterM Try.func31 rfl Try.ntmps31 rfl rfl ?_
  have M := Mem.start w
  (repeat (first | (refine WR.id ?_; first | refine WR.nil ?_ | refine WR.s ?_ | refine WR.g ?_) | (refine W.id ?_; first | refine W.seq fun _ _ => ?_ | refine W.region ?_ | refine W.s ?_ | refine W.e ?_) | (refine Ends.id ?_; first | refine Ends.seq (by assumption) ?_ | refine Ends.s ?_)))
  refine WR.box rfl (cs := #[.int .i64 p.1, .int .i64 p.2]) rfl rfl fun w1 hb1 hx1 hs1 => ?_
  refine WR.box rfl (cs := #[.int .i64 now]) rfl rfl fun w2 hb2 hx2 hs2 => ?_
  replace M := M.below (hb1.trans (hb2.mono hb1.size))
  (repeat (first | (refine WR.id ?_; first | refine WR.nil ?_ | refine WR.s ?_ | refine WR.g ?_) | (refine W.id ?_; first | refine W.seq fun _ _ => ?_ | refine W.region ?_ | refine W.s ?_ | refine W.e ?_) | (refine Ends.id ?_; first | refine Ends.seq (by assumption) ?_ | refine Ends.s ?_)))
  refine WR.alloc (by rfl) fun w3 hb3 hx3 hs3 => ?_
  replace M := (M.newBox (cs := [.slice none 0 0]) hb3 hx3)
  have hB := M.box
  (repeat (first | (refine WR.id ?_; first | refine WR.nil ?_ | refine WR.s ?_ | refine WR.g ?_) | (refine W.id ?_; first | refine W.seq fun _ _ => ?_ | refine W.region ?_ | refine W.s ?_ | refine W.e ?_) | (refine Ends.id ?_; first | refine Ends.seq (by assumption) ?_ | refine Ends.s ?_)))
  exact Ends.marks1 [] M rfl (by rfl) fun w' M' => ⟨rfl, M'.pre 0 rfl⟩
set_option maxHeartbeats 1000000 in
theorem arrived_M (hok : l.ok) (M : Mem w (aLk b l :: Os) Zs) (p : PK) (h1 : i64 p.1) (h2 : i64 p.2) (now : Int) :
    Calls Try.prog 31 #[.pointer (some ⟨b, 0, none⟩), kv p, .int .i64 now] w fun r w' => ∃ v, r = .returned v ∧ Mem w' (aLr 3 1 v (cameF (l.m p) now).length (natv (cameF (l.m p) now)) :: aLk b l :: Os) Zs := by
  refine enterM Try.func31 rfl Try.ntmps31 rfl rfl ?_
  (repeat (first | (refine WR.id ?_; first | refine WR.nil ?_ | refine WR.s ?_ | refine WR.g ?_) | (refine W.id ?_; first | refine W.seq fun _ _ => ?_ | refine W.region ?_ | refine W.s ?_ | refine W.e ?_) | (refine Ends.id ?_; first | refine Ends.seq (by assumption) ?_ | refine Ends.s ?_)))
  refine WR.box rfl (cs := #[.int .i64 p.1, .int .i64 p.2]) rfl rfl fun w1 hb1 hx1 hs1 => ?_
  refine WR.box rfl (cs := #[.int .i64 now]) rfl rfl fun w2 hb2 hx2 hs2 => ?_
  replace M := ((M.newBox (cs := [.int .i64 p.1, .int .i64 p.2]) hb1 hx1).freeze.newBox (cs := [.int .i64 now]) hb2 hx2).freeze
  have hn0 : (l.m p).length ≤ 512 := by
    obtain ⟨_, _, _, hk, _⟩ := M.lk
    exact Nat.le_trans (hk.cnt p) hk.top
  (repeat (first | (refine WR.id ?_; first | refine WR.nil ?_ | refine WR.s ?_ | refine WR.g ?_) | (refine W.id ?_; first | refine W.seq fun _ _ => ?_ | refine W.region ?_ | refine W.s ?_ | refine W.e ?_) | (refine Ends.id ?_; first | refine Ends.seq (by assumption) ?_ | refine Ends.s ?_)))
  refine WR.alloc (by rfl) fun w3 hb3 hx3 hs3 => ?_
  replace M := (M.newBox (cs := [.slice none 0 0]) hb3 hx3).swap
  have hP := M.zbox 1 rfl
  (repeat (first | (refine WR.id ?_; first | refine WR.nil ?_ | refine WR.s ?_ | refine WR.g ?_) | (refine W.id ?_; first | refine W.seq fun _ _ => ?_ | refine W.region ?_ | refine W.s ?_ | refine W.e ?_) | (refine Ends.id ?_; first | refine Ends.seq (by assumption) ?_ | refine Ends.s ?_)))
  refine WR.indexArr (j := 0) (by rfl) (by rfl) (by rfl) (by decide) ?_
  refine WR.loadCell (by rfl) hP (by rfl) (by rfl) ?_
  refine WR.indexArr (j := 1) (by rfl) (by rfl) (by rfl) (by decide) ?_
  refine WR.loadCell (by rfl) hP (by rfl) (by rfl) ?_
  refine WR.call rfl rfl (all_M hok M p h1 h2) ?_
  rintro _ w4 ⟨b7, vq, vs, rfl, hl, M⟩
  refine ⟨_, rfl, ?_⟩
  generalize w2.heap.size = bo at M ⊢
  generalize w1.heap.size = bn at M ⊢
  generalize w.heap.size = bp at M ⊢
  (repeat (first | (refine WR.id ?_; first | refine WR.nil ?_ | refine WR.s ?_ | refine WR.g ?_) | (refine W.id ?_; first | refine W.seq fun _ _ => ?_ | refine W.region ?_ | refine W.s ?_ | refine W.e ?_) | (refine Ends.id ?_; first | refine Ends.seq (by assumption) ?_ | refine Ends.s ?_)))
  refine W.rangeFunc (Zs := aBox bn [.int .i64 now] :: aBox bp [.int .i64 p.1, .int .i64 p.2] :: Zs) (γ := Option Addr × Nat) (γ' := Unit) (δ := Nat) (by rfl) (all_iter b7 vq (l.m p) vs hl (by omega) (fun f hf => by have := (right_i64 (hok p f hf).2).2.2.2.1; omega)) (fun _ => rfl) (by rfl)
    (fun pre v => aBox bo [.slice v.1 (cameP pre now).length v.2] :: aLr 3 1 (.slice v.1 (cameP pre now).length v.2) (cameP pre now).length (natv (cameP pre now)) :: aSrc b7 vq (l.m p) vs :: aLk b l :: Os) (fun pre v => True) (fun _ _ => []) (fun _ _ _ => False) (fun M => M.drop.drop.drop.get) (none, 0) trivial ?_
    (fun pre x v y => [(5, .pointer (some ⟨bn, 0, none⟩)), (7, .pointer (some ⟨bo, 0, none⟩)), (8, .int .i64 (x.1 : Nat)), (9, .pointer (some ⟨y, 0, none⟩))])
    (fun pre x v y => aBox bo [.slice v.1 (cameP pre now).length v.2] :: aBox y (x.2.1.cells x.2.2) :: aLr 3 1 (.slice v.1 (cameP pre now).length v.2) (cameP pre now).length (natv (cameP pre now)) :: aSrc b7 vq (l.m p) vs :: aLk b l :: Os) ?_ ?_ ?_ ?_
  · have M2 := (M.swap.under1 fun M => M.swap).swap
    have M3 : Mem w4 (aLr 3 1 (.slice none 0 0) 0 [] :: aBox bo [.slice none 0 0] :: aSrc b7 vq (l.m p) vs :: aLk b l :: Os) (aBox bn [.int .i64 now] :: aBox bp [.int .i64 p.1, .int .i64 p.2] :: Zs) :=
      M.third.new (Below.refl _ _) (F := fun _ => False) ⟨fun x => ⟨fun h => h.elim, fun h => by cases h⟩, rfl, .inl ⟨rfl, rfl⟩⟩ (fun x h => h.elim)
    exact M3.swap
  · rintro lp pre ⟨j, f, vb⟩ v W X K _ hG hlen M hK
    have h1b : vb.oneCell' = true := by obtain ⟨F, hF⟩ := M.swap.get; exact by_one hF
    (repeat (first | (refine WRI.id ?_; first | refine WRI.nil ?_ | refine WRI.s ?_ | refine WRI.g ?_) | (refine WI.id ?_; first | refine WI.seq fun _ _ => ?_ | refine WI.region ?_ | refine WI.s ?_ | refine WI.e ?_) | (refine Ends.id ?_; first | refine Ends.seqI (by assumption) ?_ | refine Ends.s ?_)))
    refine WRI.alloc (by rfl) fun w5 hb5 hx5 hs5 => ?_
    replace M := M.newBox (cs := [.int .i64 0, .int .i64 0, .int .i64 0, .slice none 0 0]) hb5 hx5
    refine WRI.storeAgg (cs' := f.cells vb) M.box (by rfl) (by rfl) (by rfl) (by rfl) (by
      intro u hu; simp [PF.cells] at hu; rcases hu with rfl | rfl | rfl | rfl <;> first | rfl | exact h1b) fun w6 hu6 hx6 hs6 => ?_
    replace M := M.setBox hu6 hx6
    (repeat (first | (refine WRI.id ?_; first | refine WRI.nil ?_ | refine WRI.s ?_ | refine WRI.g ?_) | (refine WI.id ?_; first | refine WI.seq fun _ _ => ?_ | refine WI.region ?_ | refine WI.s ?_ | refine WI.e ?_) | (refine Ends.id ?_; first | refine Ends.seqI (by assumption) ?_ | refine Ends.s ?_)))
    exact Ends.cut hK _ (by repeat (first | exact .nil | refine .cons rfl ?_)) ((M.third.drop.third.swap.third).under1 fun M => M.swap)
  · rintro lp pre ⟨j, f, vb⟩ v y W X _ hG hlen M
    have hB9 := M.third.box
    have hBn := M.zbox 0 rfl
    have hBo := M.swap.box
    have hj : j = pre.length := hG.last.1
    have hcl : (cameP pre now).length ≤ pre.length := by
      unfold cameP
      rw [List.length_map]
      exact List.length_filter_le _ _
    by_cases ht : f.tick ≤ now
    · have hcm : cameP (pre ++ [(j, f, vb)]) now = cameP pre now ++ [j] := by simp [cameP, ht]
      (repeat (first | (refine WRI.id ?_; first | refine WRI.nil ?_ | refine WRI.s ?_ | refine WRI.g ?_) | (refine WI.id ?_; first | refine WI.seq fun _ _ => ?_ | refine WI.region ?_ | refine WI.s ?_ | refine WI.e ?_) | (refine Ends.id ?_; first | refine Ends.seqI (by assumption) ?_ | refine Ends.s ?_)))
      refine WRI.row1 Try.elInt (by decide) (by rfl) (by rfl) (by rfl) fun w7 hb7 hs7 => ?_
      replace M := (M.below hb7).fourth
      refine WRI.lapp Try.elInt M (by rfl) (by rfl) (by rfl) hs7 (by intro u hu; simp [Value.cells] at hu; subst hu; rfl) (by omega) (by decide) fun A cA w8 M => ?_
      refine WRI.storeBox M.third.box (by rfl) (by rfl) rfl rfl (by simp) fun w9 hu9 hx9 hs9 => ?_
      replace M := M.third.setBox hu9 hx9
      (repeat (first | (refine WRI.id ?_; first | refine WRI.nil ?_ | refine WRI.s ?_ | refine WRI.g ?_) | (refine WI.id ?_; first | refine WI.seq fun _ _ => ?_ | refine WI.region ?_ | refine WI.s ?_ | refine WI.e ?_) | (refine Ends.id ?_; first | refine Ends.seqI (by assumption) ?_ | refine Ends.s ?_)))
      refine Ends.goesOn (A, cA) trivial ?_
      rw [hcm, List.length_append, List.length_singleton]
      have e : natv (cameP pre now ++ [j]) = natv (cameP pre now) ++ [.int .i64 (j : Nat)] := by simp [natv]
      rw [e]
      exact (M.fourth.drop.third).under1 fun M => M
    · have hcm : cameP (pre ++ [(j, f, vb)]) now = cameP pre now := by simp [cameP, ht]
      (repeat (first | (refine WRI.id ?_; first | refine WRI.nil ?_ | refine WRI.s ?_ | refine WRI.g ?_) | (refine WI.id ?_; first | refine WI.seq fun _ _ => ?_ | refine WI.region ?_ | refine WI.s ?_ | refine WI.e ?_) | (refine Ends.id ?_; first | refine Ends.seqI (by assumption) ?_ | refine Ends.s ?_)))
      refine Ends.goesOn v trivial ?_
      rw [hcm]
      exact M.third.drop
  · rintro xs v wd d ⟨hG, hxl⟩ _ M
    rw [came_all hG hxl] at M
    have hB := M.swap.box
    (repeat (first | (refine WR.id ?_; first | refine WR.nil ?_ | refine WR.s ?_ | refine WR.g ?_) | (refine W.id ?_; first | refine W.seq fun _ _ => ?_ | refine W.region ?_ | refine W.s ?_ | refine W.e ?_) | (refine Ends.id ?_; first | refine Ends.seq (by assumption) ?_ | refine Ends.s ?_)))
    exact Ends.marks1 [d] (Os := _ :: _) M rfl (by rfl) fun w' M' => ⟨_, rfl, M'.drop.dropz.dropz.under1 fun M => M.drop⟩

  · rintro _ _ _ _ _ _ h
    exact h.elim

end Go.Proofs.Ytibmcpbkialbnaa
