/- FilesApplies' walk: operations do as the document says. No condition beyond sizes. -/
import Derived.Test.YtjgobljclodpfaaFm
import Derived.Test.YtjgobljclodpfaaFiW
namespace Go.Proofs.Ytjgobljclodpfaa
open Go.RowKit Go.Shelf K L E
set_option linter.unusedVariables false
set_option linter.unusedSimpArgs false

theorem Try.elOp : Elem Try.prog 25 37 5 72 (.agg #[.int .i64 0, .string ⟨#[]⟩, .string ⟨#[]⟩, .int .i64 0, .slice none 0 0]) := ⟨Try.underlying25, by kernel_rfl, rfl, by decide⟩
theorem applyF_rap {l : List Fl} {os : List FO} (h : okFs l = true) : applyF l os = rap l os := by unfold applyF rap; rw [if_neg (by rw [h]; decide)]
theorem ops_one {w : World} {F : Nat → Prop} {v : Value} {os : List OE} (h : OpsF w F v os) : ∀ u ∈ os.flatMap OE.cells, u.oneCell' = true := by
  intro u hu
  obtain ⟨e, he, hu⟩ := List.mem_flatMap.1 hu
  obtain ⟨A, c, hv, -⟩ := (h.2 e he).open_
  simp only [OE.cells, List.mem_cons, List.not_mem_nil, or_false] at hu
  rcases hu with rfl | rfl | rfl | rfl | rfl
  · rfl
  · rfl
  · rfl
  · rfl
  · rw [hv]; rfl
theorem one1 {A : Option Addr} {n c : Nat} : ∀ u ∈ [Value.slice A n c], u.oneCell' = true := by intro u hu; obtain rfl := List.mem_singleton.1 hu; rfl
theorem E.Mem.newFs {w w' : World} {Os Zs : List Ass} {v : Value} {es : List FE} (M : Mem w Os Zs) (hb : Below w.heap.size w w') (h : FsF w' (w.heap.size ≤ ·) v es) : Mem w' Os (zFs v es :: Zs) :=
  (M.new hb (zfs_of h) fun b hb => hb.1).freeze

set_option maxRecDepth 100000 in
set_option maxHeartbeats 4000000 in
theorem filesApplies_walk (u vl : Value) (es : List FE) (os : List OE) (w : World) (h : FsF w (· < w.heap.size) u es) (ho : OpsF w (· < w.heap.size) vl os) (hc : cost (fls es) + es.length ≤ 1048576) (hok : ∀ o ∈ os, o.1.ok) :
    Calls Try.prog 3 #[.agg #[u], vl] w fun e w' => e = .returned (.bool true) ∧ Below w.heap.size w w' := by
  obtain ⟨A, c, rfl, l1, l2⟩ := fs_form h.fs
  obtain ⟨Ao, co, rfl, m1, m2⟩ := ops_form ho.ops
  have hbl : ∀ e ∈ es, e.1.bytes.length ≤ cost (fls es) := by
    intro e he
    obtain ⟨i, hi, rfl⟩ := List.getElem_of_mem he
    have := cost_at es i hi
    omega
  have M := ((Mem.start w).inOps 0 rfl ho).inFs 1 rfl h.fs
  refine enter Try.func3 rfl Try.ntmps3 rfl rfl ?_
  (repeat (first | (refine WR.id ?_; first | refine WR.nil ?_ | refine WR.s ?_ | refine WR.g ?_) | (refine W.id ?_; first | refine W.seq fun _ _ => ?_ | refine W.region ?_ | refine W.s ?_ | refine W.e ?_) | (refine Ends.id ?_; first | refine Ends.seq (by assumption) ?_ | refine Ends.s ?_)))
  refine WR.box rfl (cs := #[.slice A es.length c]) rfl rfl fun w1 hb1 hx1 hs1 => ?_
  replace M := M.newBox (cs := [.slice A es.length c]) hb1 hx1
  clear hx1
  (repeat (first | (refine WR.id ?_; first | refine WR.nil ?_ | refine WR.s ?_ | refine WR.g ?_) | (refine W.id ?_; first | refine W.seq fun _ _ => ?_ | refine W.region ?_ | refine W.s ?_ | refine W.e ?_) | (refine Ends.id ?_; first | refine Ends.seq (by assumption) ?_ | refine Ends.s ?_)))
  refine WR.call rfl rfl (wakes_any _) ?_
  rintro _ w2 ⟨rfl, hb⟩
  refine ⟨_, rfl, ?_⟩
  replace M := M.below hb
  have hB := M.box
  obtain ⟨_, hf⟩ := M.fs 0 rfl
  (repeat (first | (refine WR.id ?_; first | refine WR.nil ?_ | refine WR.s ?_ | refine WR.g ?_) | (refine W.id ?_; first | refine W.seq fun _ _ => ?_ | refine W.region ?_ | refine W.s ?_ | refine W.e ?_) | (refine Ends.id ?_; first | refine Ends.seq (by assumption) ?_ | refine Ends.s ?_)))
  refine WR.call rfl rfl (large_any _ _ _ _ hf) ?_
  rintro _ w3 ⟨rfl, hb⟩
  refine ⟨_, rfl, ?_⟩
  replace M := M.below hb
  clear hB hf
  cases big (fls es) with
  | true =>
    (repeat (first | (refine WR.id ?_; first | refine WR.nil ?_ | refine WR.s ?_ | refine WR.g ?_) | (refine W.id ?_; first | refine W.seq fun _ _ => ?_ | refine W.region ?_ | refine W.s ?_ | refine W.e ?_) | (refine Ends.id ?_; first | refine Ends.seq (by assumption) ?_ | refine Ends.s ?_)))
    exact Ends.ret1 rfl rfl ⟨rfl, M.pre 2 rfl⟩
  | false =>
  by_cases h200 : 200 < os.length
  · (repeat (first | (refine WR.id ?_; first | refine WR.nil ?_ | refine WR.s ?_ | refine WR.g ?_) | (refine W.id ?_; first | refine W.seq fun _ _ => ?_ | refine W.region ?_ | refine W.s ?_ | refine W.e ?_) | (refine Ends.id ?_; first | refine Ends.seq (by assumption) ?_ | refine Ends.s ?_)))
    exact Ends.ret1 rfl rfl ⟨rfl, M.pre 2 rfl⟩
  have hB := M.box
  obtain ⟨_, hf⟩ := M.fs 0 rfl
  (repeat (first | (refine WR.id ?_; first | refine WR.nil ?_ | refine WR.s ?_ | refine WR.g ?_) | (refine W.id ?_; first | refine W.seq fun _ _ => ?_ | refine W.region ?_ | refine W.s ?_ | refine W.e ?_) | (refine Ends.id ?_; first | refine Ends.seq (by assumption) ?_ | refine Ends.s ?_)))
  refine WR.call rfl rfl (copied_any _ _ _ _ hf (by omega) (fun e he => Nat.le_trans (hbl e he) (by omega))) ?_
  rintro _ w4 ⟨v1, e1, rfl, hfl, hcp, hb⟩
  refine ⟨_, rfl, ?_⟩
  replace M := M.below hb
  obtain ⟨A1, c1, rfl, -, -⟩ := fs_form hcp.fs
  (repeat (first | (refine WR.id ?_; first | refine WR.nil ?_ | refine WR.s ?_ | refine WR.g ?_) | (refine W.id ?_; first | refine W.seq fun _ _ => ?_ | refine W.region ?_ | refine W.s ?_ | refine W.e ?_) | (refine Ends.id ?_; first | refine Ends.seq (by assumption) ?_ | refine Ends.s ?_)))
  refine WR.row0 Try.elOp (by rfl) fun w5 hb5 ho5 hs5 => ?_
  replace M := M.below hb5
  replace hcp := hcp.fs.below hb5
  obtain ⟨_, hop⟩ := M.ops 1 rfl
  (repeat (first | (refine WR.id ?_; first | refine WR.nil ?_ | refine WR.s ?_ | refine WR.g ?_) | (refine W.id ?_; first | refine W.seq fun _ _ => ?_ | refine W.region ?_ | refine W.s ?_ | refine W.e ?_) | (refine Ends.id ?_; first | refine Ends.seq (by assumption) ?_ | refine Ends.s ?_)))
  refine WR.app0 Try.elOp (by rfl) (by rfl) (by rfl) ho5 hop.1 (ops_one hop) (by omega) (by decide) hb5.size fun v6 w6 ho6 hb6 => ?_
  replace M := M.below hb6
  replace hcp := hcp.below hb6
  have hop6 : Ops w6 (w4.heap.size ≤ ·) v6 os := ⟨Sl.of_own ho6, (hop.ops.below hb6).2⟩
  clear hop ho5 hf hB
  (repeat (first | (refine WR.id ?_; first | refine WR.nil ?_ | refine WR.s ?_ | refine WR.g ?_) | (refine W.id ?_; first | refine W.seq fun _ _ => ?_ | refine W.region ?_ | refine W.s ?_ | refine W.e ?_) | (refine Ends.id ?_; first | refine Ends.seq (by assumption) ?_ | refine Ends.s ?_)))
  refine WR.call rfl rfl (apply_any _ _ _ _ _ _ _ hcp hop6 (by rw [hfl]; omega) hok) ?_
  rintro _ w7 ⟨vg, eg, rfl, hfg, hsg, hb7⟩
  refine ⟨_, rfl, ?_⟩
  replace M := M.newFs hb7 hsg
  obtain ⟨Ag, cg, rfl, g1, g2⟩ := fs_form hsg.fs
  rw [hfl] at hfg
  simp only [hfl]
  clear hcp hop6 ho6 hsg
  (repeat (first | (refine WR.id ?_; first | refine WR.nil ?_ | refine WR.s ?_ | refine WR.g ?_) | (refine W.id ?_; first | refine W.seq fun _ _ => ?_ | refine W.region ?_ | refine W.s ?_ | refine W.e ?_) | (refine Ends.id ?_; first | refine Ends.seq (by assumption) ?_ | refine Ends.s ?_)))
  refine WR.alloc (by rfl) fun w8 hb8 hx8 hs8 => ?_
  replace M := M.newBox (cs := [.slice none 0 0]) hb8 hx8
  generalize w7.heap.size = b5 at M ⊢
  clear hx8
  refine WR.storeAgg (cs' := [.slice Ag eg.length cg]) M.box (by rfl) (by rfl) (by rfl) (by rfl) one1 fun w9 hu9 hx9 hs9 => ?_
  replace M := M.setBox hu9 hx9
  clear hx9
  have hB := M.swap.box
  have hB5 := M.box
  obtain ⟨_, hf⟩ := M.fs 1 rfl
  (repeat (first | (refine WR.id ?_; first | refine WR.nil ?_ | refine WR.s ?_ | refine WR.g ?_) | (refine W.id ?_; first | refine W.seq fun _ _ => ?_ | refine W.region ?_ | refine W.s ?_ | refine W.e ?_) | (refine Ends.id ?_; first | refine Ends.seq (by assumption) ?_ | refine Ends.s ?_)))
  refine WR.call rfl rfl (right_any _ _ _ _ hf (by omega)) ?_
  rintro _ wa ⟨rfl, hb⟩
  refine ⟨_, rfl, ?_⟩
  replace M := M.below hb
  clear hB hf hB5
  have hB := M.swap.box
  have hB5 := M.box
  cases hk : okFs (fls es) with
  | false =>
    have hap : applyF (fls es) (ops os) = (150, []) := by unfold applyF; rw [if_pos hk]
    rw [hap] at hfg ⊢
    have h0 : eg.length = 0 := by rw [← fls_len, hfg]; rfl
    (repeat (first | (refine WR.id ?_; first | refine WR.nil ?_ | refine WR.s ?_ | refine WR.g ?_) | (refine W.id ?_; first | refine W.seq fun _ _ => ?_ | refine W.region ?_ | refine W.s ?_ | refine W.e ?_) | (refine Ends.id ?_; first | refine Ends.seq (by assumption) ?_ | refine Ends.s ?_)))
    exact Ends.ret1 rfl rfl ⟨rfl, M.pre 3 rfl⟩
  | true =>
    rw [applyF_rap hk] at hfg ⊢
    obtain ⟨_, hf⟩ := M.fs 1 rfl
    obtain ⟨_, hop⟩ := M.ops 2 rfl
    (repeat (first | (refine WR.id ?_; first | refine WR.nil ?_ | refine WR.s ?_ | refine WR.g ?_) | (refine W.id ?_; first | refine W.seq fun _ _ => ?_ | refine W.region ?_ | refine W.s ?_ | refine W.e ?_) | (refine Ends.id ?_; first | refine Ends.seq (by assumption) ?_ | refine Ends.s ?_)))
    refine WR.call rfl rfl (rapply_any _ _ _ _ _ _ _ hf hop hk hok) ?_
    rintro _ wb ⟨vw, ew, rfl, hfw, hsw, hb⟩
    refine ⟨_, rfl, ?_⟩
    replace M := M.below hb
    obtain ⟨Aw, cw, rfl, -, -⟩ := fs_form hsw
    replace M := M.addFs (boxes_cons boxes1) hsw
    clear hB hB5 hf hop hsw
    (repeat (first | (refine WR.id ?_; first | refine WR.nil ?_ | refine WR.s ?_ | refine WR.g ?_) | (refine W.id ?_; first | refine W.seq fun _ _ => ?_ | refine W.region ?_ | refine W.s ?_ | refine W.e ?_) | (refine Ends.id ?_; first | refine Ends.seq (by assumption) ?_ | refine Ends.s ?_)))
    refine WR.alloc (by rfl) fun wc hbc hxc hsc => ?_
    replace M := M.newBox (cs := [.slice none 0 0]) hbc hxc
    generalize wb.heap.size = b7 at M ⊢
    refine WR.storeAgg (cs' := [.slice Aw ew.length cw]) M.box (by rfl) (by rfl) (by rfl) (by rfl) one1 fun wd hud hxd hsd => ?_
    replace M := M.setBox hud hxd
    clear hxc hxd
    have hB7 := M.box
    have hB5 := M.swap.box
    obtain ⟨_, hw⟩ := M.fs 0 rfl
    obtain ⟨_, hg⟩ := M.fs 1 rfl
    (repeat (first | (refine WR.id ?_; first | refine WR.nil ?_ | refine WR.s ?_ | refine WR.g ?_) | (refine W.id ?_; first | refine W.seq fun _ _ => ?_ | refine W.region ?_ | refine W.s ?_ | refine W.e ?_) | (refine Ends.id ?_; first | refine Ends.seq (by assumption) ?_ | refine Ends.s ?_)))
    refine WR.call rfl rfl (rsame_any _ _ _ _ _ _ _ hg hw) ?_
    rintro _ we ⟨rfl, hb⟩
    refine ⟨_, rfl, ?_⟩
    replace M := M.below hb
    rw [decide_eq_true (hfg.trans hfw.symm)]
    clear hB7 hB5
    (repeat (first | (refine WR.id ?_; first | refine WR.nil ?_ | refine WR.s ?_ | refine WR.g ?_) | (refine W.id ?_; first | refine W.seq fun _ _ => ?_ | refine W.region ?_ | refine W.s ?_ | refine W.e ?_) | (refine Ends.id ?_; first | refine Ends.seq (by assumption) ?_ | refine Ends.s ?_)))
    exact Ends.ret1 rfl rfl ⟨rfl, M.pre 4 rfl⟩
end Go.Proofs.Ytjgobljclodpfaa
