/- Layer 5's bytes, plain: the reader's way of decoding is the reference's. No condition. -/
import Derived.Test.YtjgobljclodpfaaFcA
import Derived.Test.YtjgobljclodpfaaFiW
namespace Go.Proofs.Ytjgobljclodpfaa
open L
set_option linter.unusedVariables false
set_option linter.unusedSimpArgs false

theorem take_nat (xs : List UInt8) (p n : Nat) (hp : p ≤ xs.length) : (⟨xs, p, 0⟩ : Rs).take (n : Int) = if xs.length - p < n then (⟨xs, p, 7⟩, []) else (⟨xs, p + n, 0⟩, (xs.drop p).take n) := by
  unfold Rs.take
  rw [if_neg (by simp), if_neg (by omega)]
  by_cases h : xs.length - p < n
  · rw [if_pos (by dsimp only; omega), if_pos h]
  · rw [if_neg (by dsimp only; omega), if_neg h]; rfl
theorem take_bad {r : Rs} (h : r.err ≠ 0) (n : Int) : r.take n = (r, []) := by unfold Rs.take; rw [if_pos h]
theorem num_one (k : UInt8) : num [k] = k.toNat := by simp [num]
theorem num_nil' : num [] = 0 := rfl
theorem rdFile_one (xs : List UInt8) (p : Nat) (hp : p ≤ xs.length) :
    (∀ q x, pOne xs p = some (q, x) → rdFile ⟨xs, p, 0⟩ = (⟨xs, q, 0⟩, x) ∧ q ≤ xs.length) ∧ (pOne xs p = none → (rdFile ⟨xs, p, 0⟩).1.err ≠ 0) := by
  have t1 : ∀ r : Rs, r.take 1 = r.take ((1 : Nat) : Int) := fun _ => rfl
  have t2 : ∀ r : Rs, r.take 2 = r.take ((2 : Nat) : Int) := fun _ => rfl
  have bad : ∀ r : Rs, r.err ≠ 0 → (rdBytes r).1.err ≠ 0 := fun r h => by
    unfold rdBytes
    rw [take_bad h 2]
    dsimp only
    rw [take_bad h]
    exact h
  unfold rdFile
  cases hk : xs[p]? with
  | none =>
    have hlen : xs.length ≤ p := List.getElem?_eq_none_iff.1 hk
    have ho : pOne xs p = none := by unfold pOne; rw [hk]
    rw [ho]
    refine ⟨fun q x h => (by cases h), fun _ => bad _ ?_⟩
    unfold rdName
    rw [t1, take_nat xs p 1 hp, if_pos (by omega)]
    dsimp only
    rw [take_bad (by simp)]
    simp
  | some k =>
    have hlt := (List.getElem?_eq_some_iff.1 hk).1
    have hd : (xs.drop p).take 1 = [k] := by
      rw [List.drop_eq_getElem_cons hlt]
      have := (List.getElem?_eq_some_iff.1 hk).2
      simp [this]
    have hn : (rdName ⟨xs, p, 0⟩) = if xs.length - (p + 1) < k.toNat then (⟨xs, p + 1, 7⟩, []) else (⟨xs, p + 1 + k.toNat, 0⟩, (xs.drop (p + 1)).take k.toNat) := by
      unfold rdName
      rw [t1, take_nat xs p 1 hp, if_neg (by omega)]
      dsimp only
      rw [hd, num_one, take_nat xs (p + 1) k.toNat (by omega)]
    by_cases h1 : xs.length - p - 1 < k.toNat
    · have ho : pOne xs p = none := by unfold pOne; rw [hk]; dsimp only; rw [if_pos h1]
      rw [ho]
      refine ⟨fun q x h => (by cases h), fun _ => bad _ ?_⟩
      rw [hn, if_pos (by omega)]
      simp
    · rw [if_neg (by omega)] at hn
      rw [hn]
      have hb : rdBytes ⟨xs, p + 1 + k.toNat, 0⟩ = if xs.length - (p + 1 + k.toNat) < 2 then (⟨xs, p + 1 + k.toNat, 7⟩, []) else if xs.length - (p + 1 + k.toNat + 2) < num ((xs.drop (p + 1 + k.toNat)).take 2) then (⟨xs, p + 1 + k.toNat + 2, 7⟩, []) else (⟨xs, p + 1 + k.toNat + 2 + num ((xs.drop (p + 1 + k.toNat)).take 2), 0⟩, (xs.drop (p + 1 + k.toNat + 2)).take (num ((xs.drop (p + 1 + k.toNat)).take 2))) := by
        unfold rdBytes
        rw [t2, take_nat xs (p + 1 + k.toNat) 2 (by omega)]
        by_cases h2 : xs.length - (p + 1 + k.toNat) < 2
        · rw [if_pos h2, if_pos h2]
          dsimp only
          rw [take_bad (by simp)]
        · rw [if_neg h2, if_neg h2]
          dsimp only
          rw [take_nat xs (p + 1 + k.toNat + 2) _ (by omega)]
      dsimp only
      rw [hb]
      by_cases h2 : xs.length - (p + 1 + k.toNat) < 2
      · have ho : pOne xs p = none := by unfold pOne; rw [hk]; dsimp only; rw [if_neg h1, if_pos h2]
        rw [ho, if_pos h2]
        exact ⟨fun q x h => (by cases h), fun _ => by simp⟩
      · rw [if_neg h2]
        by_cases h3 : xs.length - (p + 1 + k.toNat + 2) < num ((xs.drop (p + 1 + k.toNat)).take 2)
        · have ho : pOne xs p = none := by unfold pOne; rw [hk]; dsimp only; rw [if_neg h1, if_neg h2, if_pos h3]
          rw [ho, if_pos h3]
          exact ⟨fun q x h => (by cases h), fun _ => by simp⟩
        · have ho : pOne xs p = some (p + 1 + k.toNat + 2 + num ((xs.drop (p + 1 + k.toNat)).take 2), ⟨(xs.drop (p + 1)).take k.toNat, (xs.drop (p + 1 + k.toNat + 2)).take (num ((xs.drop (p + 1 + k.toNat)).take 2))⟩) := by unfold pOne; rw [hk]; dsimp only; rw [if_neg h1, if_neg h2, if_neg h3]
          rw [ho, if_neg h3]
          refine ⟨fun q x h => ?_, fun h => by cases h⟩
          cases h
          exact ⟨rfl, by omega⟩
theorem rdAll_p (xs : List UInt8) : ∀ (k p : Nat) (l : List Fl), p ≤ xs.length →
    (∀ q l', pAll xs k p l = some (q, l') → rdAll k ⟨xs, p, 0⟩ l = (⟨xs, q, 0⟩, l') ∧ q ≤ xs.length) ∧ (pAll xs k p l = none → (rdAll k ⟨xs, p, 0⟩ l).1.err ≠ 0)
  | 0, p, l, hp => ⟨fun q l' h => (by cases h; exact ⟨rfl, hp⟩), fun h => (by cases h)⟩
  | k + 1, p, l, hp => by
    obtain ⟨h1, h2⟩ := rdFile_one xs p hp
    rw [rdAll_one rfl]
    cases ho : pOne xs p with
    | none =>
      rw [pAll_none ho]
      refine ⟨fun q l' h => (by cases h), fun _ => ?_⟩
      have := h2 ho
      rw [rdAll_err this]
      exact this
    | some y =>
      obtain ⟨q, x⟩ := y
      obtain ⟨h3, h4⟩ := h1 q x ho
      rw [pAll_some ho, h3]
      exact rdAll_p xs k q (l ++ [x]) h4
theorem decF_eq (xs : List UInt8) : decF xs = rdecF xs := by
  have t2 : ∀ r : Rs, r.take 2 = r.take ((2 : Nat) : Int) := fun _ => rfl
  unfold decF decR rdecF
  rw [t2, take_nat xs 0 2 (Nat.zero_le _)]
  by_cases h : xs.length < 2
  · rw [if_pos (by omega : xs.length - 0 < 2), if_pos h, if_pos (by rw [num_nil']; simp [rdAll])]
  · rw [if_neg (by omega : ¬ xs.length - 0 < 2), if_neg h]
    dsimp only
    rw [List.drop_zero, Nat.zero_add]
    obtain ⟨h1, h2⟩ := rdAll_p xs (num (xs.take 2)) 2 [] (by omega)
    cases hp : pAll xs (num (xs.take 2)) 2 [] with
    | none => rw [if_pos (h2 hp)]; rfl
    | some y =>
      obtain ⟨q, l⟩ := y
      obtain ⟨h3, h4⟩ := h1 q l hp
      rw [h3]
      dsimp only
      rw [if_neg (by simp)]
      show _ = (if q < xs.length ∨ okFs l = false then (150, []) else (0, l))
      by_cases hq : q < xs.length
      · rw [if_pos (.inl (by omega)), if_pos (.inl hq)]
      · by_cases hk : okFs l = false
        · rw [if_pos (.inr hk), if_pos (.inr hk)]
        · rw [if_neg (by rintro (h | h); omega; exact hk h), if_neg (by rintro (h | h); omega; exact hk h)]
end Go.Proofs.Ytjgobljclodpfaa
namespace Go.Proofs.Ytjgobljclodpfaa
open Go.RowKit Go.Shelf K L E
set_option linter.unusedVariables false
set_option linter.unusedSimpArgs false

theorem fsf_fs {w : World} {v : Value} {es : List FE} (h : FsF w (fun b => b < w.heap.size) v es) : Fs w (fun _ => True) v es := h.fs.imp_all
set_option maxRecDepth 100000 in
set_option maxHeartbeats 4000000 in
theorem filesCodes_walk (u vb : Value) (es : List FE) (xs : List UInt8) (w : World) (h : FsF w (· < w.heap.size) u es) (hx : Bs w (· < w.heap.size) vb xs) (hc : cost (fls es) + es.length ≤ 1048576) (hxl : xs.length ≤ 1048576) :
    Calls Try.prog 7 #[.agg #[u], vb] w fun e w' => e = .returned (.bool true) ∧ Below w.heap.size w w' := by
  obtain ⟨A, c, rfl, l1, l2⟩ := fs_form h.fs
  obtain ⟨Ab, cb, rfl, m1, m2, -⟩ := hx.open_
  have hbl : ∀ e ∈ es, e.1.bytes.length ≤ cost (fls es) := by
    intro e he
    obtain ⟨i, hi, rfl⟩ := List.getElem_of_mem he
    have := cost_at es i hi
    omega
  have M : Mem w [] [zFs (.slice A es.length c) es, zSl 1 (.slice Ab xs.length cb) xs.length (bvs xs), zPre w] :=
    ((Mem.start w).part (a := zSl 1 (.slice Ab xs.length cb) xs.length (bvs xs)) 0 rfl fun G hG => ⟨fun b => b < w.heap.size, ⟨by decide, hx.lt, fun b hb => hb⟩, fun b hb => (hG.1 b).2 hb⟩).inFs 1 rfl h.fs
  refine enter Try.func7 rfl Try.ntmps7 rfl rfl ?_
  (repeat (first | (refine WR.id ?_; first | refine WR.nil ?_ | refine WR.s ?_ | refine WR.g ?_) | (refine W.id ?_; first | refine W.seq fun _ _ => ?_ | refine W.region ?_ | refine W.s ?_ | refine W.e ?_) | (refine Ends.id ?_; first | refine Ends.seq (by assumption) ?_ | refine Ends.s ?_)))
  refine WR.box rfl (cs := #[.slice A es.length c]) rfl rfl fun w1 hb1 hx1 hs1 => ?_
  replace M := (M.newBox (cs := [.slice A es.length c]) hb1 hx1).freeze
  clear hx1
  (repeat (first | (refine WR.id ?_; first | refine WR.nil ?_ | refine WR.s ?_ | refine WR.g ?_) | (refine W.id ?_; first | refine W.seq fun _ _ => ?_ | refine W.region ?_ | refine W.s ?_ | refine W.e ?_) | (refine Ends.id ?_; first | refine Ends.seq (by assumption) ?_ | refine Ends.s ?_)))
  refine WR.call rfl rfl (wakes_any _) ?_
  rintro _ w2 ⟨rfl, hb⟩
  refine ⟨_, rfl, ?_⟩
  replace M := M.below hb
  have hB := M.zbox 0 rfl
  obtain ⟨_, hf⟩ := M.fs 1 rfl
  (repeat (first | (refine WR.id ?_; first | refine WR.nil ?_ | refine WR.s ?_ | refine WR.g ?_) | (refine W.id ?_; first | refine W.seq fun _ _ => ?_ | refine W.region ?_ | refine W.s ?_ | refine W.e ?_) | (refine Ends.id ?_; first | refine Ends.seq (by assumption) ?_ | refine Ends.s ?_)))
  refine WR.call rfl rfl (large_any _ _ _ _ hf) ?_
  rintro _ w3 ⟨rfl, hb⟩
  refine ⟨_, rfl, ?_⟩
  replace M := M.below hb
  clear hB hf
  cases big (fls es) with
  | true =>
    (repeat (first | (refine WR.id ?_; first | refine WR.nil ?_ | refine WR.s ?_ | refine WR.g ?_) | (refine W.id ?_; first | refine W.seq fun _ _ => ?_ | refine W.region ?_ | refine W.s ?_ | refine W.e ?_) | (refine Ends.id ?_; first | refine Ends.seq (by assumption) ?_ | refine Ends.s ?_)))
    exact Ends.ret1 rfl rfl ⟨rfl, M.pre 3 rfl⟩
  | false =>
  by_cases h100 : 100000 < xs.length
  · (repeat (first | (refine WR.id ?_; first | refine WR.nil ?_ | refine WR.s ?_ | refine WR.g ?_) | (refine W.id ?_; first | refine W.seq fun _ _ => ?_ | refine W.region ?_ | refine W.s ?_ | refine W.e ?_) | (refine Ends.id ?_; first | refine Ends.seq (by assumption) ?_ | refine Ends.s ?_)))
    exact Ends.ret1 rfl rfl ⟨rfl, M.pre 3 rfl⟩
  have hB := M.zbox 0 rfl
  obtain ⟨_, hf⟩ := M.fs 1 rfl
  (repeat (first | (refine WR.id ?_; first | refine WR.nil ?_ | refine WR.s ?_ | refine WR.g ?_) | (refine W.id ?_; first | refine W.seq fun _ _ => ?_ | refine W.region ?_ | refine W.s ?_ | refine W.e ?_) | (refine Ends.id ?_; first | refine Ends.seq (by assumption) ?_ | refine Ends.s ?_)))
  refine WR.call rfl rfl (copied_any _ _ _ _ hf (by omega) (fun e he => Nat.le_trans (hbl e he) (by omega))) ?_
  rintro _ w4 ⟨v1, e1, rfl, hfl, hcp, hb⟩
  refine ⟨_, rfl, ?_⟩
  replace M := M.below hb
  clear hB hf
  refine WR.call rfl rfl (encode_any _ _ _ _ hcp.fs (by rw [hfl]; omega)) ?_
  rintro _ w5 ⟨v5, rfl, hf5⟩
  refine ⟨_, rfl, ?_⟩
  rw [hfl] at hf5
  simp only [hfl]
  replace M := M.add hf5
  obtain ⟨A5, c5, rfl, -⟩ := M.br.bs.open_
  replace M := M.freeze
  clear hf5 hcp
  have hB := M.zbox 1 rfl
  obtain ⟨_, hf⟩ := M.fs 2 rfl
  (repeat (first | (refine WR.id ?_; first | refine WR.nil ?_ | refine WR.s ?_ | refine WR.g ?_) | (refine W.id ?_; first | refine W.seq fun _ _ => ?_ | refine W.region ?_ | refine W.s ?_ | refine W.e ?_) | (refine Ends.id ?_; first | refine Ends.seq (by assumption) ?_ | refine Ends.s ?_)))
  refine WR.call rfl rfl (right_any _ _ _ _ hf (by omega)) ?_
  rintro _ w6 ⟨rfl, hb⟩
  refine ⟨_, rfl, ?_⟩
  replace M := M.below hb
  clear hB hf
  have hB := M.zbox 1 rfl
  obtain ⟨_, hf⟩ := M.fs 2 rfl
  by_cases hk : okFs (fls es) = true
  have hck := ck_yes hk
  obtain ⟨Fz, -, hown⟩ := M.z 0 rfl
  replace hown := Ob.bs hown
  simp only [hk, if_true] at hown ⊢
  (repeat (first | (refine WR.id ?_; first | refine WR.nil ?_ | refine WR.s ?_ | refine WR.g ?_) | (refine W.id ?_; first | refine W.seq fun _ _ => ?_ | refine W.region ?_ | refine W.s ?_ | refine W.e ?_) | (refine Ends.id ?_; first | refine Ends.seq (by assumption) ?_ | refine Ends.s ?_)))
  refine WR.call rfl rfl (rbytes_any _ _ _ _ hf hk) ?_
  rintro _ w7 ⟨v7, rfl, ⟨G7, hb7⟩, hbw⟩
  refine ⟨_, rfl, ?_⟩
  replace M := M.below hbw
  (repeat (first | (refine WR.id ?_; first | refine WR.nil ?_ | refine WR.s ?_ | refine WR.g ?_) | (refine W.id ?_; first | refine W.seq fun _ _ => ?_ | refine W.region ?_ | refine W.s ?_ | refine W.e ?_) | (refine Ends.id ?_; first | refine Ends.seq (by assumption) ?_ | refine Ends.s ?_)))
  refine WR.call rfl rfl (same_any _ _ _ _ _ _ _ (Bs.below hown hbw) hb7) ?_
  rintro _ _ ⟨rfl, nd, rfl⟩
  refine ⟨_, rfl, ?_⟩
  replace M := M.below (below_dn (Below.refl _ _) nd)
  rw [beq_self_eq_true]
  clear hB hf hown hb7
  (repeat (first | (refine WR.id ?_; first | refine WR.nil ?_ | refine WR.s ?_ | refine WR.g ?_) | (refine W.id ?_; first | refine W.seq fun _ _ => ?_ | refine W.region ?_ | refine W.s ?_ | refine W.e ?_) | (refine Ends.id ?_; first | refine Ends.seq (by assumption) ?_ | refine Ends.s ?_)))
  rotate_left
  have hck := ck_no (by simpa using hk)
  simp only [if_neg hk, show okFs (fls es) = false from by simpa using hk]
  clear hB hf
  (repeat (first | (refine WR.id ?_; first | refine WR.nil ?_ | refine WR.s ?_ | refine WR.g ?_) | (refine W.id ?_; first | refine W.seq fun _ _ => ?_ | refine W.region ?_ | refine W.s ?_ | refine W.e ?_) | (refine Ends.id ?_; first | refine Ends.seq (by assumption) ?_ | refine Ends.s ?_)))
  all_goals
    refine WR.row0 Try.el8 (by rfl) fun wa hba hoa hsa => ?_
    replace M := M.below hba
    obtain ⟨_, hxb⟩ := M.zbs 3 rfl
    (repeat (first | (refine WR.id ?_; first | refine WR.nil ?_ | refine WR.s ?_ | refine WR.g ?_) | (refine W.id ?_; first | refine W.seq fun _ _ => ?_ | refine W.region ?_ | refine W.s ?_ | refine W.e ?_) | (refine Ends.id ?_; first | refine Ends.seq (by assumption) ?_ | refine Ends.s ?_)))
    refine WR.app0 Try.el8 (by rfl) (by rfl) (by rfl) hoa hxb (one_bvs _) (by omega) (by decide) hba.size fun v8 wb8 ho8 hb8 => ?_
    replace M := M.below hb8
    have hv8 : Bs wb8 _ v8 xs := Sl.of_own ho8
    (repeat (first | (refine WR.id ?_; first | refine WR.nil ?_ | refine WR.s ?_ | refine WR.g ?_) | (refine W.id ?_; first | refine W.seq fun _ _ => ?_ | refine W.region ?_ | refine W.s ?_ | refine W.e ?_) | (refine Ends.id ?_; first | refine Ends.seq (by assumption) ?_ | refine Ends.s ?_)))
    refine WR.call rfl rfl (decode_any _ _ _ _ hv8 (by omega)) ?_
    rintro _ wc8 ⟨vg, eg, rfl, hfg, hsg, hbg⟩
    refine ⟨_, rfl, ?_⟩
    replace M := (M.below hbg).addFs (fun a ha => by cases ha) hsg.fs
    rw [decF_eq] at hfg ⊢
    obtain ⟨Ag, cg, rfl, -, -⟩ := fs_form hsg.fs
    clear hxb hoa ho8 hv8 hsg
    (repeat (first | (refine WR.id ?_; first | refine WR.nil ?_ | refine WR.s ?_ | refine WR.g ?_) | (refine W.id ?_; first | refine W.seq fun _ _ => ?_ | refine W.region ?_ | refine W.s ?_ | refine W.e ?_) | (refine Ends.id ?_; first | refine Ends.seq (by assumption) ?_ | refine Ends.s ?_)))
    refine WR.alloc (by rfl) fun wd hbd hxd hsd => ?_
    replace M := M.newBox (cs := [.slice none 0 0]) hbd hxd
    generalize wc8.heap.size = b7 at M ⊢
    refine WR.storeAgg (cs' := [.slice Ag eg.length cg]) M.box (by rfl) (by rfl) (by rfl) (by rfl) one1 fun we hue hxe hse => ?_
    replace M := M.setBox hue hxe
    clear hxd hxe
    obtain ⟨_, hxb⟩ := M.zbs 4 rfl
    (repeat (first | (refine WR.id ?_; first | refine WR.nil ?_ | refine WR.s ?_ | refine WR.g ?_) | (refine W.id ?_; first | refine W.seq fun _ _ => ?_ | refine W.region ?_ | refine W.s ?_ | refine W.e ?_) | (refine Ends.id ?_; first | refine Ends.seq (by assumption) ?_ | refine Ends.s ?_)))
    refine WR.call rfl rfl (rdecode_any _ _ _ _ hxb (by omega)) ?_
    rintro _ wf ⟨vw, ew, rfl, hfw, hsw, hbw⟩
    refine ⟨_, rfl, ?_⟩
    replace M := (M.below hbw).addFs boxes1 hsw.fs
    obtain ⟨Aw, cw, rfl, -, -⟩ := fs_form hsw.fs
    clear hxb hsw
    (repeat (first | (refine WR.id ?_; first | refine WR.nil ?_ | refine WR.s ?_ | refine WR.g ?_) | (refine W.id ?_; first | refine W.seq fun _ _ => ?_ | refine W.region ?_ | refine W.s ?_ | refine W.e ?_) | (refine Ends.id ?_; first | refine Ends.seq (by assumption) ?_ | refine Ends.s ?_)))
    refine WR.alloc (by rfl) fun wg hbg hxg hsg => ?_
    replace M := M.newBox (cs := [.slice none 0 0]) hbg hxg
    generalize wf.heap.size = b9 at M ⊢
    refine WR.storeAgg (cs' := [.slice Aw ew.length cw]) M.box (by rfl) (by rfl) (by rfl) (by rfl) one1 fun wh huh hxh hsh => ?_
    replace M := M.setBox huh hxh
    clear hxg hxh
    have hB9 := M.box
    have hB7 := M.swap.box
    obtain ⟨_, hw⟩ := M.fs 0 rfl
    obtain ⟨_, hg⟩ := M.fs 1 rfl
    (repeat (first | (refine WR.id ?_; first | refine WR.nil ?_ | refine WR.s ?_ | refine WR.g ?_) | (refine W.id ?_; first | refine W.seq fun _ _ => ?_ | refine W.region ?_ | refine W.s ?_ | refine W.e ?_) | (refine Ends.id ?_; first | refine Ends.seq (by assumption) ?_ | refine Ends.s ?_)))
    refine WR.call rfl rfl (rsame_any _ _ _ _ _ _ _ hg hw) ?_
    rintro _ wi ⟨rfl, hbi⟩
    refine ⟨_, rfl, ?_⟩
    replace M := M.below hbi
    rw [decide_eq_true (hfg.trans hfw.symm)]
    clear hB7 hB9
    (repeat (first | (refine WR.id ?_; first | refine WR.nil ?_ | refine WR.s ?_ | refine WR.g ?_) | (refine W.id ?_; first | refine W.seq fun _ _ => ?_ | refine W.region ?_ | refine W.s ?_ | refine W.e ?_) | (refine Ends.id ?_; first | refine Ends.seq (by assumption) ?_ | refine Ends.s ?_)))
    exact Ends.ret1 rfl rfl ⟨rfl, M.pre 6 rfl⟩
end Go.Proofs.Ytjgobljclodpfaa
