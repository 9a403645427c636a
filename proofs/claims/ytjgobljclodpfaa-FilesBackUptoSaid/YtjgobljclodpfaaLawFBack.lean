/- FilesBack: what is encoded comes back, a part of it is too short: filesBackUptoRow. Condition: the second form's bound. -/
import Derived.Test.YtjgobljclodpfaaFcP
import Derived.Test.YtjgobljclodpfaaFoC
import Derived.Test.YtjgobljclodpfaaFiR
namespace Go.Proofs.Ytjgobljclodpfaa
open L
set_option linter.unusedVariables false
set_option linter.unusedSimpArgs false

def At (xs : List UInt8) (p : Nat) (C : List UInt8) : Prop := p ≤ xs.length ∧ xs.drop p = C
theorem take_at {xs B C : List UInt8} {p : Nat} {n : Int} (h : At xs p (B ++ C)) (hn : n = (B.length : Nat)) : (⟨xs, p, 0⟩ : Rs).take n = (⟨xs, p + B.length, 0⟩, B) ∧ At xs (p + B.length) C := by
  obtain ⟨h1, h2⟩ := h
  subst hn
  have hl := congrArg List.length h2
  rw [List.length_drop, List.length_append] at hl
  refine ⟨?_, by omega, ?_⟩
  · rw [take_nat xs p B.length h1, if_neg (by omega), h2, List.take_left]
  · rw [← List.drop_drop, h2, List.drop_left]
theorem rdName_at {xs s C : List UInt8} {p : Nat} (h : At xs p (nameB s ++ C)) (hs : s.length < 256) : rdName ⟨xs, p, 0⟩ = (⟨xs, p + 1 + s.length, 0⟩, s) ∧ At xs (p + 1 + s.length) C := by
  obtain ⟨e1, h1⟩ := take_at (B := [UInt8.ofNat s.length]) (C := s ++ C) (n := 1) (by simpa [nameB] using h) rfl
  obtain ⟨e2, h2⟩ := take_at (n := (num [UInt8.ofNat s.length] : Nat)) h1 (by rw [num_one]; simp; omega)
  unfold rdName
  rw [e1]
  dsimp only
  rw [e2]
  exact ⟨rfl, h2⟩
theorem rdBytes_at {xs s C : List UInt8} {p : Nat} (h : At xs p (countB s ++ C)) (hs : s.length < 65536) : rdBytes ⟨xs, p, 0⟩ = (⟨xs, p + 2 + s.length, 0⟩, s) ∧ At xs (p + 2 + s.length) C := by
  obtain ⟨e1, h1⟩ := take_at (B := be s.length 2) (C := s ++ C) (n := 2) (by simpa [countB] using h) (by rw [be_len]; rfl)
  rw [be_len] at e1 h1
  obtain ⟨e2, h2⟩ := take_at (n := (num (be s.length 2) : Nat)) h1 (by rw [num_be, Nat.mod_eq_of_lt (by omega)])
  unfold rdBytes
  rw [e1]
  dsimp only
  rw [e2]
  exact ⟨rfl, h2⟩
theorem rdFile_at {xs C : List UInt8} {x : Fl} {p : Nat} (h : At xs p (fileB x ++ C)) (h1 : x.name.length < 256) (h2 : x.bytes.length < 65536) : ∃ q, rdFile ⟨xs, p, 0⟩ = (⟨xs, q, 0⟩, x) ∧ At xs q C := by
  obtain ⟨e1, h3⟩ := rdName_at (C := countB x.bytes ++ C) (by simpa [fileB] using h) h1
  obtain ⟨e2, h4⟩ := rdBytes_at h3 h2
  unfold rdFile
  rw [e1]
  dsimp only
  rw [e2]
  exact ⟨_, rfl, h4⟩
theorem rdAll_at {xs C : List UInt8} : ∀ (l : List Fl) (p : Nat) (acc : List Fl), At xs p (l.flatMap fileB ++ C) → l.all flOk = true → ∃ q, rdAll l.length ⟨xs, p, 0⟩ acc = (⟨xs, q, 0⟩, acc ++ l) ∧ At xs q C
  | [], p, acc, h, _ => ⟨p, by simp [rdAll], by simpa using h⟩
  | x :: l, p, acc, h, hk => by
    rw [List.all_cons, Bool.and_eq_true] at hk
    have hf := hk.1
    simp only [flOk, nmOk, Bool.and_eq_true, decide_eq_true_eq] at hf
    obtain ⟨q, e, hq⟩ := rdFile_at (x := x) (C := l.flatMap fileB ++ C) (by simpa using h) (by omega) (by omega)
    obtain ⟨q2, e2, hq2⟩ := rdAll_at l q (acc ++ [x]) hq hk.2
    refine ⟨q2, ?_, hq2⟩
    rw [List.length_cons, rdAll_one rfl, e]
    dsimp only
    rw [e2, List.append_assoc]; rfl
theorem decF_back {l : List Fl} (h : okFs l = true) : decF (bytesF l) = (0, l) := by
  have hk := h
  simp only [okFs, Bool.and_eq_true, decide_eq_true_eq] at hk
  obtain ⟨e1, h1⟩ := take_at (xs := bytesF l) (B := be l.length 2) (C := l.flatMap fileB) (p := 0) (n := 2) ⟨Nat.zero_le _, by rw [List.drop_zero]; rfl⟩ (by rw [be_len]; rfl)
  obtain ⟨q, e2, h2⟩ := rdAll_at l (0 + (be l.length 2).length) [] (C := []) (by rw [List.append_nil]; exact h1) hk.1.2.1
  unfold decF decR
  rw [e1]
  dsimp only
  rw [show num (be l.length 2) = l.length from by rw [num_be, Nat.mod_eq_of_lt (by omega)], e2]
  have hl := congrArg List.length h2.2
  rw [List.length_drop, List.length_nil] at hl
  dsimp only
  rw [List.nil_append, if_neg (by simp), if_neg (by rintro (h3 | h3); omega; rw [h] at h3; cases h3)]
theorem pOne_mono {xs : List UInt8} {m p q : Nat} {x : Fl} (hm : m ≤ xs.length) (h : pOne (xs.take m) p = some (q, x)) : pOne xs p = some (q, x) ∧ q ≤ m := by
  unfold pOne at h ⊢
  rw [List.length_take, Nat.min_eq_left hm] at h
  cases hk : (xs.take m)[p]? with
  | none => rw [hk] at h; cases h
  | some k =>
    rw [hk] at h
    dsimp only at h
    have hp : p < m := by
      have := (List.getElem?_eq_some_iff.1 hk).1
      rw [List.length_take] at this; omega
    rw [List.getElem?_take_of_lt hp] at hk
    rw [hk]
    dsimp only
    split at h
    · cases h
    · rename_i h1
      split at h
      · cases h
      · rename_i h2
        have e1 : ∀ a n, a + n ≤ m → ((xs.take m).drop a).take n = (xs.drop a).take n := fun a n ha => by
          rw [List.drop_take, List.take_take, Nat.min_eq_left (by omega)]
        rw [e1 _ 2 (by omega)] at h
        split at h
        · cases h
        · rename_i h3
          rw [e1 _ _ (by omega), e1 _ _ (by omega)] at h
          rw [if_neg (by omega), if_neg (by omega), if_neg (by omega), h]
          cases h
          exact ⟨rfl, by omega⟩
theorem pAll_mono {xs : List UInt8} {m : Nat} (hm : m ≤ xs.length) : ∀ (k p : Nat) (acc : List Fl) (q : Nat) (l : List Fl), p ≤ m → pAll (xs.take m) k p acc = some (q, l) → pAll xs k p acc = some (q, l) ∧ q ≤ m
  | 0, p, acc, q, l, hp, h => by cases h; exact ⟨rfl, hp⟩
  | k + 1, p, acc, q, l, hp, h => by
    cases ho : pOne (xs.take m) p with
    | none => rw [pAll_none ho] at h; cases h
    | some y =>
      obtain ⟨q2, x⟩ := y
      rw [pAll_some ho] at h
      obtain ⟨h1, h2⟩ := pOne_mono hm ho
      rw [pAll_some h1]
      exact pAll_mono hm k q2 _ q l h2 h
theorem decF_cut {l : List Fl} {m : Nat} (h : okFs l = true) (hm : m < (bytesF l).length) : decF ((bytesF l).take m) = (7, []) := by
  have hb := decF_back h
  rw [decF_eq] at hb ⊢
  unfold rdecF at hb ⊢
  split at hb
  · cases hb
  rename_i h2
  rw [List.length_take, Nat.min_eq_left (by omega)]
  by_cases hm2 : m < 2
  · rw [if_pos hm2]
  rw [if_neg hm2, List.take_take, Nat.min_eq_left (by omega)]
  cases hp : pAll ((bytesF l).take m) (num ((bytesF l).take 2)) 2 [] with
  | none => rfl
  | some y =>
    obtain ⟨q, l'⟩ := y
    obtain ⟨h3, h4⟩ := pAll_mono (by omega) _ _ _ _ _ (by omega) hp
    rw [h3] at hb
    unfold rdecE at hb
    dsimp only at hb
    rw [if_pos (.inl (by omega))] at hb
    cases hb
theorem rdOp_at {xs C : List UInt8} {o : FO} {p : Nat} (h : At xs p (opB o ++ C)) (hk : okOp o = true) : ∃ q, rdOp ⟨xs, p, 0⟩ = (⟨xs, q, 0⟩, o) ∧ At xs q C := by
  obtain ⟨p1, p2, p3, p4, p5, p6, p7⟩ := okOp_parts hk
  obtain ⟨kind, name, new, at_, bytes⟩ := o
  dsimp only at *
  obtain ⟨k, rfl⟩ := Int.eq_ofNat_of_zero_le (by omega : 0 ≤ kind)
  obtain ⟨a, rfl⟩ := Int.eq_ofNat_of_zero_le p5
  have hn : num [UInt8.ofNat k] = k := by rw [num_one]; simp; omega
  simp only [opB, Int.toNat_natCast, List.cons_append, List.append_assoc] at h
  obtain ⟨e1, h1⟩ := take_at (B := [UInt8.ofNat k]) (n := 1) h rfl
  obtain ⟨e2, h2⟩ := rdName_at h1 (by omega)
  unfold rdOp
  rw [e1]
  dsimp only
  rw [hn, List.length_singleton] at *
  rw [e2]
  dsimp only
  simp only [okOp, Bool.and_eq_true, decide_eq_true_eq] at hk
  have hk5 := hk.2
  rcases (by omega : k = 1 ∨ k = 2 ∨ k = 3 ∨ k = 4) with rfl | rfl | rfl | rfl
  · rw [if_neg (by decide)] at hk5
    simp only [Bool.and_eq_true, Bool.or_eq_true, decide_eq_true_eq] at hk5
    obtain rfl : new = [] := (beq_iff_eq.1 hk5.1.1).symm
    obtain rfl : a = 0 := by omega
    rw [if_neg (by decide), if_pos (by decide), if_neg (by decide), List.nil_append, List.nil_append] at h2
    obtain ⟨e3, h3⟩ := rdBytes_at h2 (by omega)
    rw [if_pos rfl, e3]
    exact ⟨_, rfl, h3⟩
  · rw [if_neg (by decide)] at hk5
    simp only [Bool.and_eq_true, Bool.or_eq_true, decide_eq_true_eq] at hk5
    obtain rfl : new = [] := (beq_iff_eq.1 hk5.1.1).symm
    rw [if_pos (by decide), if_pos (by decide), if_neg (by decide), List.nil_append] at h2
    obtain ⟨e3, h3⟩ := take_at (B := be a 2) (n := 2) h2 (by rw [be_len]; rfl)
    obtain ⟨e4, h4⟩ := rdBytes_at h3 (by omega)
    rw [if_neg (by decide), if_pos rfl, e3]
    dsimp only
    rw [e4, num_be, Nat.mod_eq_of_lt (by omega)]
    exact ⟨_, rfl, h4⟩
  · rw [if_pos (by decide)] at hk5
    simp only [Bool.and_eq_true, Bool.or_eq_true, decide_eq_true_eq] at hk5
    have hnl := p7 rfl
    obtain rfl : a = 0 := by omega
    obtain rfl : bytes = [] := List.length_eq_zero_iff.1 hk5.2
    rw [if_neg (by decide), if_neg (by decide), if_pos (by decide), List.nil_append, List.nil_append] at h2
    obtain ⟨e3, h3⟩ := rdName_at h2 (by omega)
    rw [if_neg (by decide), if_neg (by decide), if_pos rfl, e3]
    exact ⟨_, rfl, h3⟩
  · rw [if_neg (by decide)] at hk5
    simp only [Bool.and_eq_true, Bool.or_eq_true, decide_eq_true_eq] at hk5
    obtain rfl : new = [] := (beq_iff_eq.1 hk5.1.1).symm
    obtain rfl : a = 0 := by omega
    obtain rfl : bytes = [] := List.length_eq_zero_iff.1 (by omega)
    rw [if_neg (by decide), if_neg (by decide), if_neg (by decide), List.nil_append, List.nil_append, List.nil_append] at h2
    rw [if_neg (by decide), if_neg (by decide), if_neg (by decide)]
    exact ⟨_, rfl, h2⟩
theorem rdOps_at {xs C : List UInt8} : ∀ (l : List FO) (p : Nat) (acc : List FO), At xs p (l.flatMap opB ++ C) → l.all okOp = true → ∃ q, rdOps l.length ⟨xs, p, 0⟩ acc = (⟨xs, q, 0⟩, acc ++ l) ∧ At xs q C
  | [], p, acc, h, _ => ⟨p, by simp [rdOps], by simpa using h⟩
  | x :: l, p, acc, h, hk => by
    rw [List.all_cons, Bool.and_eq_true] at hk
    obtain ⟨q, e, hq⟩ := rdOp_at (o := x) (C := l.flatMap opB ++ C) (by simpa using h) hk.1
    obtain ⟨q2, e2, hq2⟩ := rdOps_at l q (acc ++ [x]) hq hk.2
    refine ⟨q2, ?_, hq2⟩
    rw [List.length_cons, rdOps, e]
    dsimp only
    rw [e2, List.append_assoc]; rfl
theorem decO_back {l : List FO} (h : l.all okOp = true) (hl : l.length ≤ 64) : decO (opsB l) = (0, l) := by
  obtain ⟨e1, h1⟩ := take_at (xs := opsB l) (B := be l.length 2) (C := l.flatMap opB) (p := 0) (n := 2) ⟨Nat.zero_le _, by rw [List.drop_zero]; rfl⟩ (by rw [be_len]; rfl)
  obtain ⟨q, e2, h2⟩ := rdOps_at l (0 + (be l.length 2).length) [] (C := []) (by rw [List.append_nil]; exact h1) h
  have hn : num (be l.length 2) = l.length := by rw [num_be, Nat.mod_eq_of_lt (by omega)]
  have he : encO l = (0, opsB l) := by unfold encO; rw [if_neg (by omega), if_pos h]
  unfold decO
  rw [e1]
  dsimp only
  rw [hn, if_neg (by omega), e2, List.nil_append]
  unfold decE
  rw [he, if_neg (by simp)]
theorem encO_no {l : List FO} (h : (encO l).1 ≠ 0) : (encO l).2.length = 0 := by
  unfold encO at h ⊢
  split
  · rfl
  · rename_i h1
    split
    · rename_i h2; rw [if_neg h1, if_pos h2] at h; exact absurd rfl h
    · rfl
theorem bytesF_len (l : List Fl) : (bytesF l).length = 2 + cost l + 3 * l.length := by
  have h : ∀ l : List Fl, (l.flatMap fileB).length = cost l + 3 * l.length := by
    intro l
    induction l with
    | nil => rfl
    | cons x l ih =>
      simp only [List.flatMap_cons, List.length_append, ih, cost, List.map_cons, List.sum_cons, List.length_cons, fileB, nameB, countB, be_len, cost1]
      omega
  rw [bytesF, List.length_append, be_len, h]; omega
end Go.Proofs.Ytjgobljclodpfaa
namespace Go.Proofs.Ytjgobljclodpfaa
open Go.RowKit Go.Shelf K L E
set_option linter.unusedVariables false
set_option linter.unusedSimpArgs false

set_option maxRecDepth 100000 in
set_option maxHeartbeats 8000000 in
theorem filesBack_walk (u vl : Value) (es : List FE) (os : List OE) (n : Int) (w : World) (h : FsF w (· < w.heap.size) u es) (ho : OpsF w (· < w.heap.size) vl os) (hc : cost (fls es) + es.length ≤ 1048576) (hok : ∀ o ∈ os, o.1.fine) (hol : os.length ≤ 1048576) (hn : n ≤ 9223372036854775807) :
    Calls Try.prog 9 #[.agg #[u], vl, .int .i64 n] w fun e w' => e = .returned (.bool true) ∧ Below w.heap.size w w' := by
  obtain ⟨A, c, rfl, l1, l2⟩ := fs_form h.fs
  obtain ⟨Ao, co, rfl, m1, m2⟩ := ops_form ho.ops
  have M : Mem w [] [zFs (.slice A es.length c) es, zOps (.slice Ao os.length co) os, zPre w] := ((Mem.start w).inOps 0 rfl ho).inFs 1 rfl h.fs
  refine enter Try.func9 rfl Try.ntmps9 rfl rfl ?_
  (repeat (first | (refine WR.id ?_; first | refine WR.nil ?_ | refine WR.s ?_ | refine WR.g ?_) | (refine W.id ?_; first | refine W.seq fun _ _ => ?_ | refine W.region ?_ | refine W.s ?_ | refine W.e ?_) | (refine Ends.id ?_; first | refine Ends.seq (by assumption) ?_ | refine Ends.s ?_)))
  refine WR.box rfl (cs := #[.slice A es.length c]) rfl rfl fun w1 hb1 hx1 hs1 => ?_
  replace M := (M.newBox (cs := [.slice A es.length c]) hb1 hx1).freeze
  clear hx1
  (repeat (first | (refine WR.id ?_; first | refine WR.nil ?_ | refine WR.s ?_ | refine WR.g ?_) | (refine W.id ?_; first | refine W.seq fun _ _ => ?_ | refine W.region ?_ | refine W.s ?_ | refine W.e ?_) | (refine Ends.id ?_; first | refine Ends.seq (by assumption) ?_ | refine Ends.s ?_)))
  refine WR.call rfl rfl (wakes_any _) ?_
  rintro _ w2 ⟨rfl, hb⟩
  refine ⟨_, rfl, ?_⟩
  replace M := M.below hb
  have hB := M.zbox 0 rfl
  obtain ⟨_, hf⟩ := M.fs 1 rfl
  (repeat (first | (refine WR.id ?_; first | refine WR.nil ?_ | refine WR.s ?_ | refine WR.g ?_) | (refine W.id ?_; first | refine W.seq fun _ _ => ?_ | refine W.region ?_ | refine W.s ?_ | refine W.e ?_) | (refine Ends.id ?_; first | refine Ends.seq (by assumption) ?_ | refine Ends.s ?_)))
  refine WR.call rfl rfl (large_any _ _ _ _ hf) ?_
  rintro _ w3 ⟨rfl, hb⟩
  refine ⟨_, rfl, ?_⟩
  replace M := M.below hb
  clear hB hf
  cases big (fls es) with
  | true =>
    (repeat (first | (refine WR.id ?_; first | refine WR.nil ?_ | refine WR.s ?_ | refine WR.g ?_) | (refine W.id ?_; first | refine W.seq fun _ _ => ?_ | refine W.region ?_ | refine W.s ?_ | refine W.e ?_) | (refine Ends.id ?_; first | refine Ends.seq (by assumption) ?_ | refine Ends.s ?_)))
    exact Ends.ret1 rfl rfl ⟨rfl, M.pre 3 rfl⟩
  | false =>
  have hB := M.zbox 0 rfl
  obtain ⟨_, hf⟩ := M.fs 1 rfl
  (repeat (first | (refine WR.id ?_; first | refine WR.nil ?_ | refine WR.s ?_ | refine WR.g ?_) | (refine W.id ?_; first | refine W.seq fun _ _ => ?_ | refine W.region ?_ | refine W.s ?_ | refine W.e ?_) | (refine Ends.id ?_; first | refine Ends.seq (by assumption) ?_ | refine Ends.s ?_)))
  refine WR.call rfl rfl (encode_any _ _ _ _ hf (by omega)) ?_
  rintro _ w5 ⟨v5, rfl, hf5⟩
  refine ⟨_, rfl, ?_⟩
  replace M := M.add hf5
  obtain ⟨A5, c5, rfl, hc5, -⟩ := M.br.bs.open_
  replace M := M.freeze
  clear hB hf hf5
  by_cases hk : okFs (fls es) = true
  have hck := ck_yes hk
  simp only [hk, if_true] at M hc5 ⊢
  have hlen := bytesF_len (fls es)
  have hfl : (fls es).length = es.length := by unfold fls; rw [List.length_map]
  obtain ⟨Fz, -, hown⟩ := M.z 0 rfl
  replace hown := Ob.bs hown
  (repeat (first | (refine WR.id ?_; first | refine WR.nil ?_ | refine WR.s ?_ | refine WR.g ?_) | (refine W.id ?_; first | refine W.seq fun _ _ => ?_ | refine W.region ?_ | refine W.s ?_ | refine W.e ?_) | (refine Ends.id ?_; first | refine Ends.seq (by assumption) ?_ | refine Ends.s ?_)))
  refine WR.call rfl rfl (decode_any _ _ _ _ hown (by omega)) ?_
  rintro _ wc8 ⟨vg, eg, rfl, hfg, hsg, hbg⟩
  refine ⟨_, rfl, ?_⟩
  replace M := (M.below hbg).addFs (fun a ha => by cases ha) hsg.fs
  rw [decF_back hk] at hfg ⊢
  obtain ⟨Ag, cg, rfl, -, -⟩ := fs_form hsg.fs
  clear hown hsg
  (repeat (first | (refine WR.id ?_; first | refine WR.nil ?_ | refine WR.s ?_ | refine WR.g ?_) | (refine W.id ?_; first | refine W.seq fun _ _ => ?_ | refine W.region ?_ | refine W.s ?_ | refine W.e ?_) | (refine Ends.id ?_; first | refine Ends.seq (by assumption) ?_ | refine Ends.s ?_)))
  refine WR.alloc (by rfl) fun wd hbd hxd hsd => ?_
  replace M := M.newBox (cs := [.slice none 0 0]) hbd hxd
  generalize wc8.heap.size = b7 at M ⊢
  refine WR.storeAgg (cs' := [.slice Ag eg.length cg]) M.box (by rfl) (by rfl) (by rfl) (by rfl) one1 fun we hue hxe hse => ?_
  replace M := M.setBox hue hxe
  clear hxd hxe
  obtain ⟨Fz2, -, hown⟩ := M.z 1 rfl
  replace hown := Ob.bs hown
  obtain ⟨k, hk0⟩ := Int.eq_ofNat_of_zero_le (by omega : 0 ≤ max n 0)
  have hmlt : k % (bytesF (fls es)).length < (bytesF (fls es)).length := Nat.mod_lt _ (by omega)
  (repeat (first | (refine WR.id ?_; first | refine WR.nil ?_ | refine WR.s ?_ | refine WR.g ?_) | (refine W.id ?_; first | refine W.seq fun _ _ => ?_ | refine W.region ?_ | refine W.s ?_ | refine W.e ?_) | (refine Ends.id ?_; first | refine Ends.seq (by assumption) ?_ | refine Ends.s ?_)))
  rw [hk0]
  (repeat (first | (refine WR.id ?_; first | refine WR.nil ?_ | refine WR.s ?_ | refine WR.g ?_) | (refine W.id ?_; first | refine W.seq fun _ _ => ?_ | refine W.region ?_ | refine W.s ?_ | refine W.e ?_) | (refine Ends.id ?_; first | refine Ends.seq (by assumption) ?_ | refine Ends.s ?_)))
  refine WR.rem k (bytesF (fls es)).length (by omega) (by rfl) (by rfl) (by rfl) ?_
  refine WR.slice_h (h := k % (bytesF (fls es)).length) (by rfl) (by rfl) (by rfl) (by omega) ?_
  (repeat (first | (refine WR.id ?_; first | refine WR.nil ?_ | refine WR.s ?_ | refine WR.g ?_) | (refine W.id ?_; first | refine W.seq fun _ _ => ?_ | refine W.region ?_ | refine W.s ?_ | refine W.e ?_) | (refine Ends.id ?_; first | refine Ends.seq (by assumption) ?_ | refine Ends.s ?_)))
  refine WR.call rfl rfl (decode_any _ _ _ _ (bs_take hown (by omega)) (by rw [List.length_take]; omega)) ?_
  rintro _ wf ⟨vw, ew, rfl, hfw, hsw, hbw⟩
  refine ⟨_, rfl, ?_⟩
  rw [decF_cut hk hmlt] at hfw ⊢
  replace M := (M.below hbw).addFs boxes1 hsw.fs
  obtain ⟨Aw, cw, rfl, -, -⟩ := fs_form hsw.fs
  clear hown hsw
  (repeat (first | (refine WR.id ?_; first | refine WR.nil ?_ | refine WR.s ?_ | refine WR.g ?_) | (refine W.id ?_; first | refine W.seq fun _ _ => ?_ | refine W.region ?_ | refine W.s ?_ | refine W.e ?_) | (refine Ends.id ?_; first | refine Ends.seq (by assumption) ?_ | refine Ends.s ?_)))
  refine WR.alloc (by rfl) fun wg hbg2 hxg hsg => ?_
  replace M := M.newBox (cs := [.slice none 0 0]) hbg2 hxg
  generalize wf.heap.size = b9 at M ⊢
  refine WR.storeAgg (cs' := [.slice Aw ew.length cw]) M.box (by rfl) (by rfl) (by rfl) (by rfl) one1 fun wh huh hxh hsh => ?_
  replace M := M.setBox huh hxh
  clear hxg hxh
  have hB7 := M.swap.box
  have hB3 := M.zbox 3 rfl
  obtain ⟨_, hf⟩ := M.fs 4 rfl
  obtain ⟨_, hg⟩ := M.fs 1 rfl
  (repeat (first | (refine WR.id ?_; first | refine WR.nil ?_ | refine WR.s ?_ | refine WR.g ?_) | (refine W.id ?_; first | refine W.seq fun _ _ => ?_ | refine W.region ?_ | refine W.s ?_ | refine W.e ?_) | (refine Ends.id ?_; first | refine Ends.seq (by assumption) ?_ | refine Ends.s ?_)))
  refine WR.call rfl rfl (fsame_any _ _ _ _ _ _ _ hf hg) ?_
  rintro _ wi ⟨rfl, hbi⟩
  refine ⟨_, rfl, ?_⟩
  replace M := M.below hbi
  rw [decide_eq_true hfg.symm]
  clear hB7 hB3 hf hg
  replace M := (M.drop.drop).subz (Zs' := [zOps (.slice Ao os.length co) os, zPre w]) (by intro z hz; simp only [List.mem_cons, List.not_mem_nil, or_false] at hz ⊢; rcases hz with rfl | rfl <;> simp)
  (repeat (first | (refine WR.id ?_; first | refine WR.nil ?_ | refine WR.s ?_ | refine WR.g ?_) | (refine W.id ?_; first | refine W.seq fun _ _ => ?_ | refine W.region ?_ | refine W.s ?_ | refine W.e ?_) | (refine Ends.id ?_; first | refine Ends.seq (by assumption) ?_ | refine Ends.s ?_)))
  rotate_left
  have hck := ck_no (by simpa using hk)
  simp only [if_neg hk] at M ⊢
  replace M := M.subz (Zs' := [zOps (.slice Ao os.length co) os, zPre w]) (by intro z hz; simp only [List.mem_cons, List.not_mem_nil, or_false] at hz ⊢; rcases hz with rfl | rfl <;> simp)
  (repeat (first | (refine WR.id ?_; first | refine WR.nil ?_ | refine WR.s ?_ | refine WR.g ?_) | (refine W.id ?_; first | refine W.seq fun _ _ => ?_ | refine W.region ?_ | refine W.s ?_ | refine W.e ?_) | (refine Ends.id ?_; first | refine Ends.seq (by assumption) ?_ | refine Ends.s ?_)))
  · obtain ⟨_, hop⟩ := M.ops 0 rfl
    refine WR.call rfl rfl (encOps_any _ _ _ _ hop fun o ho => hok o ho) ?_
    rintro _ w7 ⟨v7, rfl, hf7⟩
    refine ⟨_, rfl, ?_⟩
    replace M := M.add hf7
    obtain ⟨A7, c7, rfl, -⟩ := M.br.bs.open_
    replace M := M.freeze
    clear hop hf7
    by_cases h0 : (encO (ops os)).1 = 0
    case neg =>
      have hl0 : (encO (ops os)).2.length = 0 := encO_no h0
      (repeat (first | (refine WR.id ?_; first | refine WR.nil ?_ | refine WR.s ?_ | refine WR.g ?_) | (refine W.id ?_; first | refine W.seq fun _ _ => ?_ | refine W.region ?_ | refine W.s ?_ | refine W.e ?_) | (refine Ends.id ?_; first | refine Ends.seq (by assumption) ?_ | refine Ends.s ?_)))
      exact Ends.ret1 rfl rfl ⟨rfl, M.pre 2 rfl⟩
    obtain ⟨hd1, hd2, hd3⟩ := encO_ok h0
    have hdo : decO (encO (ops os)).2 = (0, ops os) := by rw [hd3]; exact decO_back hd2 hd1
    have hol3 : (encO (ops os)).2.length ≤ 400000 := by
      have := ops_lens hd2
      rw [hd3]; simp only [opsB, List.length_append, be_len]; omega
    rw [ops_len] at hd1
    obtain ⟨Fz3, -, hown⟩ := M.z 0 rfl
    replace hown := Ob.bs hown
    (repeat (first | (refine WR.id ?_; first | refine WR.nil ?_ | refine WR.s ?_ | refine WR.g ?_) | (refine W.id ?_; first | refine W.seq fun _ _ => ?_ | refine W.region ?_ | refine W.s ?_ | refine W.e ?_) | (refine Ends.id ?_; first | refine Ends.seq (by assumption) ?_ | refine Ends.s ?_)))
    refine WR.call rfl rfl (decOps_any _ _ _ _ hown (by omega)) ?_
    rintro _ wc9 ⟨vg2, eg2, rfl, hfg2, hsg2, hng, hbg3⟩
    refine ⟨_, rfl, ?_⟩
    rw [hdo] at hfg2 ⊢
    obtain ⟨Ag2, cg2, rfl, -, -⟩ := ops_form hsg2.ops
    replace M := (M.below hbg3).addz (zops_of hsg2)
    have hgl : eg2.length = os.length := by have := congrArg List.length hfg2; rwa [ops_len, ops_len] at this
    replace hfg2 : ops eg2 = ops os := hfg2
    clear hown hsg2
    (repeat (first | (refine WR.id ?_; first | refine WR.nil ?_ | refine WR.s ?_ | refine WR.g ?_) | (refine W.id ?_; first | refine W.seq fun _ _ => ?_ | refine W.region ?_ | refine W.s ?_ | refine W.e ?_) | (refine Ends.id ?_; first | refine Ends.seq (by assumption) ?_ | refine Ends.s ?_)))
    refine W.loop (X := Nat) (fun i => [(1, .slice Ao os.length co), (15, .slice Ag2 eg2.length cg2), (81, .slice Ag2 eg2.length cg2), (82, .int .i64 (eg2.length : Nat)), (83, .int .i64 (i : Nat))])
      (fun i wr => i ≤ os.length ∧ Mem wr [] [zOps (.slice Ag2 eg2.length cg2) eg2, aBr (.slice A7 (encO (ops os)).2.length c7) (encO (ops os)).2, zOps (.slice Ao os.length co) os, zPre w]) (fun i => os.length - i)
      0 (by repeat (first | exact .nil | refine .cons rfl ?_)) ⟨Nat.zero_le _, M⟩ ?_
    clear M
    rintro i wr ⟨hi, M⟩ K hK
    (repeat (first | (refine WR.id ?_; first | refine WR.nil ?_ | refine WR.s ?_ | refine WR.g ?_) | (refine W.id ?_; first | refine W.seq fun _ _ => ?_ | refine W.region ?_ | refine W.s ?_ | refine W.e ?_) | (refine Ends.id ?_; first | refine Ends.seq (by assumption) ?_ | refine Ends.s ?_)))
    refine W.condP (by rfl) (fun hlt => ?_) (fun hlt => ?_)
    · have hil : i < os.length := by omega
      obtain ⟨⟨o, vo⟩, hxo⟩ : ∃ x, os[i]? = some x := ⟨_, List.getElem?_eq_getElem hil⟩
      obtain ⟨⟨o', vo'⟩, hxo'⟩ : ∃ x, eg2[i]? = some x := ⟨_, List.getElem?_eq_getElem (by omega : i < eg2.length)⟩
      have hoo : o' = o := by
        have h1 : (ops os)[i]? = some o := by unfold ops; rw [List.getElem?_map, hxo]; rfl
        have h2 : (ops eg2)[i]? = some o' := by unfold ops; rw [List.getElem?_map, hxo']; rfl
        rw [hfg2, h1] at h2; exact (Option.some.inj h2).symm
      subst hoo
      obtain ⟨ba, pa, Fa, hA, c0, c1, c2, c3, c4, hbi⟩ := op_cells M 2 rfl hxo
      subst hA
      obtain ⟨bb, pb, Fb, hA, d0, d1, d2, d3, d4, hbj⟩ := op_cells M 0 rfl hxo'
      subst hA
      obtain ⟨Ay, cy, rfl, -⟩ := hbi.open_
      obtain ⟨Az, cz, rfl, -⟩ := hbj.open_
      obtain ⟨kind, name, new, at_, bytes⟩ := o'
      dsimp only at *
      have hs1 : (name == name) = true := beq_self_eq_true _
      have hs2 : (new == new) = true := beq_self_eq_true _
      (repeat (first | (refine WR.id ?_; first | refine WR.nil ?_ | refine WR.s ?_ | refine WR.g ?_) | (refine W.id ?_; first | refine W.seq fun _ _ => ?_ | refine W.region ?_ | refine W.s ?_ | refine W.e ?_) | (refine Ends.id ?_; first | refine Ends.seq (by assumption) ?_ | refine Ends.s ?_)))
      apply W.draws [[], [], [0, 1], [2], [3], [], [], [5, 6], [7], [8], [4, 9], [10], [11], [11], [12, 13, 11], [14, 11], [15, 11], [11], [11], [17, 18, 11], [19, 11], [20, 11], [16, 21, 11], [11, 22], [23], [24], [24], [25, 26, 24], [27, 24], [28, 24], [24], [24], [30, 31, 24], [32, 24], [33, 24], [29, 34, 24], [24, 35], [36], [37], [37], [38, 39, 37], [40, 37], [41, 37], [37], [37], [43, 44, 37], [45, 37], [46, 37], [42, 47, 37], [37, 48], [49], [50], [50], [51, 52, 50], [53, 50], [54, 50], [50], [50], [56, 57, 50], [58, 50], [59, 50], [55, 60, 50], [61, 50], [50, 62]]
        [is _, is _, is _, is _, is _, is _, is _, is _, is _, is _, is _, is _, is _, is _, is _, is _, is _, is _, is _, is _, is _, is _, is _, is _, is _, is _, is _, is _, is _, is _, is _, is _, is _, is _, is _, is _, is _, is _, is _, is _, is _, is _, is _, is _, is _, is _, is _, is _, is _, is _, is _, is _, is _, is _, is _, is _, is _, is _, is _, is _, is _, is _, is _, is _] (by kernel_rfl) (by kernel_rfl) (by rfl) (by kernel_rfl) ⟨stab_is _, stab_is _, stab_is _, stab_is _, stab_is _, stab_is _, stab_is _, stab_is _, stab_is _, stab_is _, stab_is _, stab_is _, stab_is _, stab_is _, stab_is _, stab_is _, stab_is _, stab_is _, stab_is _, stab_is _, stab_is _, stab_is _, stab_is _, stab_is _, stab_is _, stab_is _, stab_is _, stab_is _, stab_is _, stab_is _, stab_is _, stab_is _, stab_is _, stab_is _, stab_is _, stab_is _, stab_is _, stab_is _, stab_is _, stab_is _, stab_is _, stab_is _, stab_is _, stab_is _, stab_is _, stab_is _, stab_is _, stab_is _, stab_is _, stab_is _, stab_is _, stab_is _, stab_is _, stab_is _, stab_is _, stab_is _, stab_is _, stab_is _, stab_is _, stab_is _, stab_is _, stab_is _, stab_is _, stab_is _, trivial⟩ ?step1 ?fin1
      case step1 =>
        refine ⟨fun wq hbq Kq hKq => ?_, fun wq hbq Kq hKq => ?_, fun wq hbq Kq hKq => ?_, fun wq hbq Kq hKq => ?_, fun wq hbq Kq hKq => ?_, fun wq hbq Kq hKq => ?_, fun wq hbq Kq hKq => ?_, fun wq hbq Kq hKq => ?_, fun wq hbq Kq hKq => ?_, fun wq hbq Kq hKq => ?_, fun wq hbq Kq hKq => ?_, fun wq hbq Kq hKq => ?_, fun wq hbq Kq hKq => ?_, fun wq hbq Kq hKq => ?_, fun wq hbq Kq hKq => ?_, fun wq hbq Kq hKq => ?_, fun wq hbq Kq hKq => ?_, fun wq hbq Kq hKq => ?_, fun wq hbq Kq hKq => ?_, fun wq hbq Kq hKq => ?_, fun wq hbq Kq hKq => ?_, fun wq hbq Kq hKq => ?_, fun wq hbq Kq hKq => ?_, fun wq hbq Kq hKq => ?_, fun wq hbq Kq hKq => ?_, fun wq hbq Kq hKq => ?_, fun wq hbq Kq hKq => ?_, fun wq hbq Kq hKq => ?_, fun wq hbq Kq hKq => ?_, fun wq hbq Kq hKq => ?_, fun wq hbq Kq hKq => ?_, fun wq hbq Kq hKq => ?_, fun wq hbq Kq hKq => ?_, fun wq hbq Kq hKq => ?_, fun wq hbq Kq hKq => ?_, fun wq hbq Kq hKq => ?_, fun wq hbq Kq hKq => ?_, fun wq hbq Kq hKq => ?_, fun wq hbq Kq hKq => ?_, fun wq hbq Kq hKq => ?_, fun wq hbq Kq hKq => ?_, fun wq hbq Kq hKq => ?_, fun wq hbq Kq hKq => ?_, fun wq hbq Kq hKq => ?_, fun wq hbq Kq hKq => ?_, fun wq hbq Kq hKq => ?_, fun wq hbq Kq hKq => ?_, fun wq hbq Kq hKq => ?_, fun wq hbq Kq hKq => ?_, fun wq hbq Kq hKq => ?_, fun wq hbq Kq hKq => ?_, fun wq hbq Kq hKq => ?_, fun wq hbq Kq hKq => ?_, fun wq hbq Kq hKq => ?_, fun wq hbq Kq hKq => ?_, fun wq hbq Kq hKq => ?_, fun wq hbq Kq hKq => ?_, fun wq hbq Kq hKq => ?_, fun wq hbq Kq hKq => ?_, fun wq hbq Kq hKq => ?_, fun wq hbq Kq hKq => ?_, fun wq hbq Kq hKq => ?_, fun wq hbq Kq hKq => ?_, fun wq hbq Kq hKq => ?_, trivial⟩
        · have c0 := cell_bel hbq c0; have c1 := cell_bel hbq c1; have c2 := cell_bel hbq c2; have c3 := cell_bel hbq c3; have c4 := cell_bel hbq c4; have d0 := cell_bel hbq d0; have d1 := cell_bel hbq d1; have d2 := cell_bel hbq d2; have d3 := cell_bel hbq d3; have d4 := cell_bel hbq d4
          refine WR.s ?_; refine WR.nil ?_; exact Ends.one hKq rfl rfl (Below.refl _ _)
        · have c0 := cell_bel hbq c0; have c1 := cell_bel hbq c1; have c2 := cell_bel hbq c2; have c3 := cell_bel hbq c3; have c4 := cell_bel hbq c4; have d0 := cell_bel hbq d0; have d1 := cell_bel hbq d1; have d2 := cell_bel hbq d2; have d3 := cell_bel hbq d3; have d4 := cell_bel hbq d4
          refine WR.s ?_; refine WR.nil ?_; exact Ends.one hKq rfl rfl (Below.refl _ _)
        · rintro _ rfl _ rfl
          have c0 := cell_bel hbq c0; have c1 := cell_bel hbq c1; have c2 := cell_bel hbq c2; have c3 := cell_bel hbq c3; have c4 := cell_bel hbq c4; have d0 := cell_bel hbq d0; have d1 := cell_bel hbq d1; have d2 := cell_bel hbq d2; have d3 := cell_bel hbq d3; have d4 := cell_bel hbq d4
          refine WR.ix ?_; refine WR.nil ?_; exact Ends.one hKq rfl rfl (Below.refl _ _)
        · rintro _ rfl
          have c0 := cell_bel hbq c0; have c1 := cell_bel hbq c1; have c2 := cell_bel hbq c2; have c3 := cell_bel hbq c3; have c4 := cell_bel hbq c4; have d0 := cell_bel hbq d0; have d1 := cell_bel hbq d1; have d2 := cell_bel hbq d2; have d3 := cell_bel hbq d3; have d4 := cell_bel hbq d4
          refine WR.s ?_; refine WR.nil ?_; exact Ends.one hKq rfl rfl (Below.refl _ _)
        · rintro _ rfl
          have c0 := cell_bel hbq c0; have c1 := cell_bel hbq c1; have c2 := cell_bel hbq c2; have c3 := cell_bel hbq c3; have c4 := cell_bel hbq c4; have d0 := cell_bel hbq d0; have d1 := cell_bel hbq d1; have d2 := cell_bel hbq d2; have d3 := cell_bel hbq d3; have d4 := cell_bel hbq d4
          refine WR.ix ?_; refine WR.nil ?_; exact Ends.one hKq rfl rfl (Below.refl _ _)
        · have c0 := cell_bel hbq c0; have c1 := cell_bel hbq c1; have c2 := cell_bel hbq c2; have c3 := cell_bel hbq c3; have c4 := cell_bel hbq c4; have d0 := cell_bel hbq d0; have d1 := cell_bel hbq d1; have d2 := cell_bel hbq d2; have d3 := cell_bel hbq d3; have d4 := cell_bel hbq d4
          refine WR.s ?_; refine WR.nil ?_; exact Ends.one hKq rfl rfl (Below.refl _ _)
        · have c0 := cell_bel hbq c0; have c1 := cell_bel hbq c1; have c2 := cell_bel hbq c2; have c3 := cell_bel hbq c3; have c4 := cell_bel hbq c4; have d0 := cell_bel hbq d0; have d1 := cell_bel hbq d1; have d2 := cell_bel hbq d2; have d3 := cell_bel hbq d3; have d4 := cell_bel hbq d4
          refine WR.s ?_; refine WR.nil ?_; exact Ends.one hKq rfl rfl (Below.refl _ _)
        · rintro _ rfl _ rfl
          have c0 := cell_bel hbq c0; have c1 := cell_bel hbq c1; have c2 := cell_bel hbq c2; have c3 := cell_bel hbq c3; have c4 := cell_bel hbq c4; have d0 := cell_bel hbq d0; have d1 := cell_bel hbq d1; have d2 := cell_bel hbq d2; have d3 := cell_bel hbq d3; have d4 := cell_bel hbq d4
          refine WR.ix ?_; refine WR.nil ?_; exact Ends.one hKq rfl rfl (Below.refl _ _)
        · rintro _ rfl
          have c0 := cell_bel hbq c0; have c1 := cell_bel hbq c1; have c2 := cell_bel hbq c2; have c3 := cell_bel hbq c3; have c4 := cell_bel hbq c4; have d0 := cell_bel hbq d0; have d1 := cell_bel hbq d1; have d2 := cell_bel hbq d2; have d3 := cell_bel hbq d3; have d4 := cell_bel hbq d4
          refine WR.s ?_; refine WR.nil ?_; exact Ends.one hKq rfl rfl (Below.refl _ _)
        · rintro _ rfl
          have c0 := cell_bel hbq c0; have c1 := cell_bel hbq c1; have c2 := cell_bel hbq c2; have c3 := cell_bel hbq c3; have c4 := cell_bel hbq c4; have d0 := cell_bel hbq d0; have d1 := cell_bel hbq d1; have d2 := cell_bel hbq d2; have d3 := cell_bel hbq d3; have d4 := cell_bel hbq d4
          refine WR.ix ?_; refine WR.nil ?_; exact Ends.one hKq rfl rfl (Below.refl _ _)
        · rintro _ rfl _ rfl
          have c0 := cell_bel hbq c0; have c1 := cell_bel hbq c1; have c2 := cell_bel hbq c2; have c3 := cell_bel hbq c3; have c4 := cell_bel hbq c4; have d0 := cell_bel hbq d0; have d1 := cell_bel hbq d1; have d2 := cell_bel hbq d2; have d3 := cell_bel hbq d3; have d4 := cell_bel hbq d4
          refine WR.s ?_; refine WR.nil ?_; exact Ends.one hKq rfl rfl (Below.refl _ _)
        · rintro _ rfl
          have c0 := cell_bel hbq c0; have c1 := cell_bel hbq c1; have c2 := cell_bel hbq c2; have c3 := cell_bel hbq c3; have c4 := cell_bel hbq c4; have d0 := cell_bel hbq d0; have d1 := cell_bel hbq d1; have d2 := cell_bel hbq d2; have d3 := cell_bel hbq d3; have d4 := cell_bel hbq d4
          refine WR.s ?_; refine WR.nil ?_; exact Ends.one hKq rfl rfl (Below.refl _ _)
        · rintro _ rfl
          have c0 := cell_bel hbq c0; have c1 := cell_bel hbq c1; have c2 := cell_bel hbq c2; have c3 := cell_bel hbq c3; have c4 := cell_bel hbq c4; have d0 := cell_bel hbq d0; have d1 := cell_bel hbq d1; have d2 := cell_bel hbq d2; have d3 := cell_bel hbq d3; have d4 := cell_bel hbq d4
          first
            | (refine WR.guard_yes rfl rfl ?_; refine WR.s ?_; refine WR.nil ?_; exact Ends.one hKq rfl rfl (Below.refl _ _))
            | (refine WR.gn ?_; refine WR.nil ?_; exact Ends.one hKq rfl rfl (Below.refl _ _))
        · rintro _ rfl
          have c0 := cell_bel hbq c0; have c1 := cell_bel hbq c1; have c2 := cell_bel hbq c2; have c3 := cell_bel hbq c3; have c4 := cell_bel hbq c4; have d0 := cell_bel hbq d0; have d1 := cell_bel hbq d1; have d2 := cell_bel hbq d2; have d3 := cell_bel hbq d3; have d4 := cell_bel hbq d4
          first
            | (refine WR.guard_yes rfl rfl ?_; refine WR.s ?_; refine WR.nil ?_; exact Ends.one hKq rfl rfl (Below.refl _ _))
            | (refine WR.gn ?_; refine WR.nil ?_; exact Ends.one hKq rfl rfl (Below.refl _ _))
        · rintro _ rfl _ rfl _ rfl
          have c0 := cell_bel hbq c0; have c1 := cell_bel hbq c1; have c2 := cell_bel hbq c2; have c3 := cell_bel hbq c3; have c4 := cell_bel hbq c4; have d0 := cell_bel hbq d0; have d1 := cell_bel hbq d1; have d2 := cell_bel hbq d2; have d3 := cell_bel hbq d3; have d4 := cell_bel hbq d4
          first
            | (refine WR.guard_yes rfl rfl ?_; refine WR.ix ?_; refine WR.nil ?_; exact Ends.one hKq rfl rfl (Below.refl _ _))
            | (refine WR.gn ?_; refine WR.nil ?_; exact Ends.one hKq rfl rfl (Below.refl _ _))
        · rintro _ rfl _ rfl
          have c0 := cell_bel hbq c0; have c1 := cell_bel hbq c1; have c2 := cell_bel hbq c2; have c3 := cell_bel hbq c3; have c4 := cell_bel hbq c4; have d0 := cell_bel hbq d0; have d1 := cell_bel hbq d1; have d2 := cell_bel hbq d2; have d3 := cell_bel hbq d3; have d4 := cell_bel hbq d4
          first
            | (refine WR.guard_yes rfl rfl ?_; refine WR.s ?_; refine WR.nil ?_; exact Ends.one hKq rfl rfl (Below.refl _ _))
            | (refine WR.gn ?_; refine WR.nil ?_; exact Ends.one hKq rfl rfl (Below.refl _ _))
        · rintro _ rfl _ rfl
          have c0 := cell_bel hbq c0; have c1 := cell_bel hbq c1; have c2 := cell_bel hbq c2; have c3 := cell_bel hbq c3; have c4 := cell_bel hbq c4; have d0 := cell_bel hbq d0; have d1 := cell_bel hbq d1; have d2 := cell_bel hbq d2; have d3 := cell_bel hbq d3; have d4 := cell_bel hbq d4
          first
            | (refine WR.guard_yes rfl rfl ?_; refine WR.ix ?_; refine WR.nil ?_; exact Ends.one hKq rfl rfl (Below.refl _ _))
            | (refine WR.gn ?_; refine WR.nil ?_; exact Ends.one hKq rfl rfl (Below.refl _ _))
        · rintro _ rfl
          have c0 := cell_bel hbq c0; have c1 := cell_bel hbq c1; have c2 := cell_bel hbq c2; have c3 := cell_bel hbq c3; have c4 := cell_bel hbq c4; have d0 := cell_bel hbq d0; have d1 := cell_bel hbq d1; have d2 := cell_bel hbq d2; have d3 := cell_bel hbq d3; have d4 := cell_bel hbq d4
          first
            | (refine WR.guard_yes rfl rfl ?_; refine WR.s ?_; refine WR.nil ?_; exact Ends.one hKq rfl rfl (Below.refl _ _))
            | (refine WR.gn ?_; refine WR.nil ?_; exact Ends.one hKq rfl rfl (Below.refl _ _))
        · rintro _ rfl
          have c0 := cell_bel hbq c0; have c1 := cell_bel hbq c1; have c2 := cell_bel hbq c2; have c3 := cell_bel hbq c3; have c4 := cell_bel hbq c4; have d0 := cell_bel hbq d0; have d1 := cell_bel hbq d1; have d2 := cell_bel hbq d2; have d3 := cell_bel hbq d3; have d4 := cell_bel hbq d4
          first
            | (refine WR.guard_yes rfl rfl ?_; refine WR.s ?_; refine WR.nil ?_; exact Ends.one hKq rfl rfl (Below.refl _ _))
            | (refine WR.gn ?_; refine WR.nil ?_; exact Ends.one hKq rfl rfl (Below.refl _ _))
        · rintro _ rfl _ rfl _ rfl
          have c0 := cell_bel hbq c0; have c1 := cell_bel hbq c1; have c2 := cell_bel hbq c2; have c3 := cell_bel hbq c3; have c4 := cell_bel hbq c4; have d0 := cell_bel hbq d0; have d1 := cell_bel hbq d1; have d2 := cell_bel hbq d2; have d3 := cell_bel hbq d3; have d4 := cell_bel hbq d4
          first
            | (refine WR.guard_yes rfl rfl ?_; refine WR.ix ?_; refine WR.nil ?_; exact Ends.one hKq rfl rfl (Below.refl _ _))
            | (refine WR.gn ?_; refine WR.nil ?_; exact Ends.one hKq rfl rfl (Below.refl _ _))
        · rintro _ rfl _ rfl
          have c0 := cell_bel hbq c0; have c1 := cell_bel hbq c1; have c2 := cell_bel hbq c2; have c3 := cell_bel hbq c3; have c4 := cell_bel hbq c4; have d0 := cell_bel hbq d0; have d1 := cell_bel hbq d1; have d2 := cell_bel hbq d2; have d3 := cell_bel hbq d3; have d4 := cell_bel hbq d4
          first
            | (refine WR.guard_yes rfl rfl ?_; refine WR.s ?_; refine WR.nil ?_; exact Ends.one hKq rfl rfl (Below.refl _ _))
            | (refine WR.gn ?_; refine WR.nil ?_; exact Ends.one hKq rfl rfl (Below.refl _ _))
        · rintro _ rfl _ rfl
          have c0 := cell_bel hbq c0; have c1 := cell_bel hbq c1; have c2 := cell_bel hbq c2; have c3 := cell_bel hbq c3; have c4 := cell_bel hbq c4; have d0 := cell_bel hbq d0; have d1 := cell_bel hbq d1; have d2 := cell_bel hbq d2; have d3 := cell_bel hbq d3; have d4 := cell_bel hbq d4
          first
            | (refine WR.guard_yes rfl rfl ?_; refine WR.ix ?_; refine WR.nil ?_; exact Ends.one hKq rfl rfl (Below.refl _ _))
            | (refine WR.gn ?_; refine WR.nil ?_; exact Ends.one hKq rfl rfl (Below.refl _ _))
        · rintro _ rfl _ rfl _ rfl
          have c0 := cell_bel hbq c0; have c1 := cell_bel hbq c1; have c2 := cell_bel hbq c2; have c3 := cell_bel hbq c3; have c4 := cell_bel hbq c4; have d0 := cell_bel hbq d0; have d1 := cell_bel hbq d1; have d2 := cell_bel hbq d2; have d3 := cell_bel hbq d3; have d4 := cell_bel hbq d4
          first
            | (refine WR.guard_yes rfl rfl ?_; refine WR.s ?_; refine WR.nil ?_; exact Ends.one hKq rfl rfl (Below.refl _ _))
            | (refine WR.gn ?_; refine WR.nil ?_; exact Ends.one hKq rfl rfl (Below.refl _ _))
        · rintro _ rfl _ rfl
          have c0 := cell_bel hbq c0; have c1 := cell_bel hbq c1; have c2 := cell_bel hbq c2; have c3 := cell_bel hbq c3; have c4 := cell_bel hbq c4; have d0 := cell_bel hbq d0; have d1 := cell_bel hbq d1; have d2 := cell_bel hbq d2; have d3 := cell_bel hbq d3; have d4 := cell_bel hbq d4
          refine WR.s ?_; refine WR.nil ?_; exact Ends.one hKq rfl rfl (Below.refl _ _)
        · rintro _ rfl
          have c0 := cell_bel hbq c0; have c1 := cell_bel hbq c1; have c2 := cell_bel hbq c2; have c3 := cell_bel hbq c3; have c4 := cell_bel hbq c4; have d0 := cell_bel hbq d0; have d1 := cell_bel hbq d1; have d2 := cell_bel hbq d2; have d3 := cell_bel hbq d3; have d4 := cell_bel hbq d4
          refine WR.s ?_; refine WR.nil ?_; exact Ends.one hKq rfl rfl (Below.refl _ _)
        · rintro _ rfl
          have c0 := cell_bel hbq c0; have c1 := cell_bel hbq c1; have c2 := cell_bel hbq c2; have c3 := cell_bel hbq c3; have c4 := cell_bel hbq c4; have d0 := cell_bel hbq d0; have d1 := cell_bel hbq d1; have d2 := cell_bel hbq d2; have d3 := cell_bel hbq d3; have d4 := cell_bel hbq d4
          first
            | (refine WR.guard_yes rfl rfl ?_; refine WR.s ?_; refine WR.nil ?_; exact Ends.one hKq rfl rfl (Below.refl _ _))
            | (refine WR.gn ?_; refine WR.nil ?_; exact Ends.one hKq rfl rfl (Below.refl _ _))
        · rintro _ rfl
          have c0 := cell_bel hbq c0; have c1 := cell_bel hbq c1; have c2 := cell_bel hbq c2; have c3 := cell_bel hbq c3; have c4 := cell_bel hbq c4; have d0 := cell_bel hbq d0; have d1 := cell_bel hbq d1; have d2 := cell_bel hbq d2; have d3 := cell_bel hbq d3; have d4 := cell_bel hbq d4
          first
            | (refine WR.guard_yes rfl rfl ?_; refine WR.s ?_; refine WR.nil ?_; exact Ends.one hKq rfl rfl (Below.refl _ _))
            | (refine WR.gn ?_; refine WR.nil ?_; exact Ends.one hKq rfl rfl (Below.refl _ _))
        · rintro _ rfl _ rfl _ rfl
          have c0 := cell_bel hbq c0; have c1 := cell_bel hbq c1; have c2 := cell_bel hbq c2; have c3 := cell_bel hbq c3; have c4 := cell_bel hbq c4; have d0 := cell_bel hbq d0; have d1 := cell_bel hbq d1; have d2 := cell_bel hbq d2; have d3 := cell_bel hbq d3; have d4 := cell_bel hbq d4
          first
            | (refine WR.guard_yes rfl rfl ?_; refine WR.ix ?_; refine WR.nil ?_; exact Ends.one hKq rfl rfl (Below.refl _ _))
            | (refine WR.gn ?_; refine WR.nil ?_; exact Ends.one hKq rfl rfl (Below.refl _ _))
        · rintro _ rfl _ rfl
          have c0 := cell_bel hbq c0; have c1 := cell_bel hbq c1; have c2 := cell_bel hbq c2; have c3 := cell_bel hbq c3; have c4 := cell_bel hbq c4; have d0 := cell_bel hbq d0; have d1 := cell_bel hbq d1; have d2 := cell_bel hbq d2; have d3 := cell_bel hbq d3; have d4 := cell_bel hbq d4
          first
            | (refine WR.guard_yes rfl rfl ?_; refine WR.s ?_; refine WR.nil ?_; exact Ends.one hKq rfl rfl (Below.refl _ _))
            | (refine WR.gn ?_; refine WR.nil ?_; exact Ends.one hKq rfl rfl (Below.refl _ _))
        · rintro _ rfl _ rfl
          have c0 := cell_bel hbq c0; have c1 := cell_bel hbq c1; have c2 := cell_bel hbq c2; have c3 := cell_bel hbq c3; have c4 := cell_bel hbq c4; have d0 := cell_bel hbq d0; have d1 := cell_bel hbq d1; have d2 := cell_bel hbq d2; have d3 := cell_bel hbq d3; have d4 := cell_bel hbq d4
          first
            | (refine WR.guard_yes rfl rfl ?_; refine WR.ix ?_; refine WR.nil ?_; exact Ends.one hKq rfl rfl (Below.refl _ _))
            | (refine WR.gn ?_; refine WR.nil ?_; exact Ends.one hKq rfl rfl (Below.refl _ _))
        · rintro _ rfl
          have c0 := cell_bel hbq c0; have c1 := cell_bel hbq c1; have c2 := cell_bel hbq c2; have c3 := cell_bel hbq c3; have c4 := cell_bel hbq c4; have d0 := cell_bel hbq d0; have d1 := cell_bel hbq d1; have d2 := cell_bel hbq d2; have d3 := cell_bel hbq d3; have d4 := cell_bel hbq d4
          first
            | (refine WR.guard_yes rfl rfl ?_; refine WR.s ?_; refine WR.nil ?_; exact Ends.one hKq rfl rfl (Below.refl _ _))
            | (refine WR.gn ?_; refine WR.nil ?_; exact Ends.one hKq rfl rfl (Below.refl _ _))
        · rintro _ rfl
          have c0 := cell_bel hbq c0; have c1 := cell_bel hbq c1; have c2 := cell_bel hbq c2; have c3 := cell_bel hbq c3; have c4 := cell_bel hbq c4; have d0 := cell_bel hbq d0; have d1 := cell_bel hbq d1; have d2 := cell_bel hbq d2; have d3 := cell_bel hbq d3; have d4 := cell_bel hbq d4
          first
            | (refine WR.guard_yes rfl rfl ?_; refine WR.s ?_; refine WR.nil ?_; exact Ends.one hKq rfl rfl (Below.refl _ _))
            | (refine WR.gn ?_; refine WR.nil ?_; exact Ends.one hKq rfl rfl (Below.refl _ _))
        · rintro _ rfl _ rfl _ rfl
          have c0 := cell_bel hbq c0; have c1 := cell_bel hbq c1; have c2 := cell_bel hbq c2; have c3 := cell_bel hbq c3; have c4 := cell_bel hbq c4; have d0 := cell_bel hbq d0; have d1 := cell_bel hbq d1; have d2 := cell_bel hbq d2; have d3 := cell_bel hbq d3; have d4 := cell_bel hbq d4
          first
            | (refine WR.guard_yes rfl rfl ?_; refine WR.ix ?_; refine WR.nil ?_; exact Ends.one hKq rfl rfl (Below.refl _ _))
            | (refine WR.gn ?_; refine WR.nil ?_; exact Ends.one hKq rfl rfl (Below.refl _ _))
        · rintro _ rfl _ rfl
          have c0 := cell_bel hbq c0; have c1 := cell_bel hbq c1; have c2 := cell_bel hbq c2; have c3 := cell_bel hbq c3; have c4 := cell_bel hbq c4; have d0 := cell_bel hbq d0; have d1 := cell_bel hbq d1; have d2 := cell_bel hbq d2; have d3 := cell_bel hbq d3; have d4 := cell_bel hbq d4
          first
            | (refine WR.guard_yes rfl rfl ?_; refine WR.s ?_; refine WR.nil ?_; exact Ends.one hKq rfl rfl (Below.refl _ _))
            | (refine WR.gn ?_; refine WR.nil ?_; exact Ends.one hKq rfl rfl (Below.refl _ _))
        · rintro _ rfl _ rfl
          have c0 := cell_bel hbq c0; have c1 := cell_bel hbq c1; have c2 := cell_bel hbq c2; have c3 := cell_bel hbq c3; have c4 := cell_bel hbq c4; have d0 := cell_bel hbq d0; have d1 := cell_bel hbq d1; have d2 := cell_bel hbq d2; have d3 := cell_bel hbq d3; have d4 := cell_bel hbq d4
          first
            | (refine WR.guard_yes rfl rfl ?_; refine WR.ix ?_; refine WR.nil ?_; exact Ends.one hKq rfl rfl (Below.refl _ _))
            | (refine WR.gn ?_; refine WR.nil ?_; exact Ends.one hKq rfl rfl (Below.refl _ _))
        · rintro _ rfl _ rfl _ rfl
          have c0 := cell_bel hbq c0; have c1 := cell_bel hbq c1; have c2 := cell_bel hbq c2; have c3 := cell_bel hbq c3; have c4 := cell_bel hbq c4; have d0 := cell_bel hbq d0; have d1 := cell_bel hbq d1; have d2 := cell_bel hbq d2; have d3 := cell_bel hbq d3; have d4 := cell_bel hbq d4
          first
            | (refine WR.guard_yes rfl rfl ?_; refine WR.s ?_; refine WR.nil ?_; exact Ends.one hKq rfl rfl (Below.refl _ _))
            | (refine WR.gn ?_; refine WR.nil ?_; exact Ends.one hKq rfl rfl (Below.refl _ _))
        · rintro _ rfl _ rfl
          have c0 := cell_bel hbq c0; have c1 := cell_bel hbq c1; have c2 := cell_bel hbq c2; have c3 := cell_bel hbq c3; have c4 := cell_bel hbq c4; have d0 := cell_bel hbq d0; have d1 := cell_bel hbq d1; have d2 := cell_bel hbq d2; have d3 := cell_bel hbq d3; have d4 := cell_bel hbq d4
          refine WR.s ?_; refine WR.nil ?_; exact Ends.one hKq rfl rfl (Below.refl _ _)
        · rintro _ rfl
          have c0 := cell_bel hbq c0; have c1 := cell_bel hbq c1; have c2 := cell_bel hbq c2; have c3 := cell_bel hbq c3; have c4 := cell_bel hbq c4; have d0 := cell_bel hbq d0; have d1 := cell_bel hbq d1; have d2 := cell_bel hbq d2; have d3 := cell_bel hbq d3; have d4 := cell_bel hbq d4
          refine WR.s ?_; refine WR.nil ?_; exact Ends.one hKq rfl rfl (Below.refl _ _)
        · rintro _ rfl
          have c0 := cell_bel hbq c0; have c1 := cell_bel hbq c1; have c2 := cell_bel hbq c2; have c3 := cell_bel hbq c3; have c4 := cell_bel hbq c4; have d0 := cell_bel hbq d0; have d1 := cell_bel hbq d1; have d2 := cell_bel hbq d2; have d3 := cell_bel hbq d3; have d4 := cell_bel hbq d4
          first
            | (refine WR.guard_yes rfl rfl ?_; refine WR.s ?_; refine WR.nil ?_; exact Ends.one hKq rfl rfl (Below.refl _ _))
            | (refine WR.gn ?_; refine WR.nil ?_; exact Ends.one hKq rfl rfl (Below.refl _ _))
        · rintro _ rfl
          have c0 := cell_bel hbq c0; have c1 := cell_bel hbq c1; have c2 := cell_bel hbq c2; have c3 := cell_bel hbq c3; have c4 := cell_bel hbq c4; have d0 := cell_bel hbq d0; have d1 := cell_bel hbq d1; have d2 := cell_bel hbq d2; have d3 := cell_bel hbq d3; have d4 := cell_bel hbq d4
          first
            | (refine WR.guard_yes rfl rfl ?_; refine WR.s ?_; refine WR.nil ?_; exact Ends.one hKq rfl rfl (Below.refl _ _))
            | (refine WR.gn ?_; refine WR.nil ?_; exact Ends.one hKq rfl rfl (Below.refl _ _))
        · rintro _ rfl _ rfl _ rfl
          have c0 := cell_bel hbq c0; have c1 := cell_bel hbq c1; have c2 := cell_bel hbq c2; have c3 := cell_bel hbq c3; have c4 := cell_bel hbq c4; have d0 := cell_bel hbq d0; have d1 := cell_bel hbq d1; have d2 := cell_bel hbq d2; have d3 := cell_bel hbq d3; have d4 := cell_bel hbq d4
          first
            | (refine WR.guard_yes rfl rfl ?_; refine WR.ix ?_; refine WR.nil ?_; exact Ends.one hKq rfl rfl (Below.refl _ _))
            | (refine WR.gn ?_; refine WR.nil ?_; exact Ends.one hKq rfl rfl (Below.refl _ _))
        · rintro _ rfl _ rfl
          have c0 := cell_bel hbq c0; have c1 := cell_bel hbq c1; have c2 := cell_bel hbq c2; have c3 := cell_bel hbq c3; have c4 := cell_bel hbq c4; have d0 := cell_bel hbq d0; have d1 := cell_bel hbq d1; have d2 := cell_bel hbq d2; have d3 := cell_bel hbq d3; have d4 := cell_bel hbq d4
          first
            | (refine WR.guard_yes rfl rfl ?_; refine WR.s ?_; refine WR.nil ?_; exact Ends.one hKq rfl rfl (Below.refl _ _))
            | (refine WR.gn ?_; refine WR.nil ?_; exact Ends.one hKq rfl rfl (Below.refl _ _))
        · rintro _ rfl _ rfl
          have c0 := cell_bel hbq c0; have c1 := cell_bel hbq c1; have c2 := cell_bel hbq c2; have c3 := cell_bel hbq c3; have c4 := cell_bel hbq c4; have d0 := cell_bel hbq d0; have d1 := cell_bel hbq d1; have d2 := cell_bel hbq d2; have d3 := cell_bel hbq d3; have d4 := cell_bel hbq d4
          first
            | (refine WR.guard_yes rfl rfl ?_; refine WR.ix ?_; refine WR.nil ?_; exact Ends.one hKq rfl rfl (Below.refl _ _))
            | (refine WR.gn ?_; refine WR.nil ?_; exact Ends.one hKq rfl rfl (Below.refl _ _))
        · rintro _ rfl
          have c0 := cell_bel hbq c0; have c1 := cell_bel hbq c1; have c2 := cell_bel hbq c2; have c3 := cell_bel hbq c3; have c4 := cell_bel hbq c4; have d0 := cell_bel hbq d0; have d1 := cell_bel hbq d1; have d2 := cell_bel hbq d2; have d3 := cell_bel hbq d3; have d4 := cell_bel hbq d4
          first
            | (refine WR.guard_yes rfl rfl ?_; refine WR.s ?_; refine WR.nil ?_; exact Ends.one hKq rfl rfl (Below.refl _ _))
            | (refine WR.gn ?_; refine WR.nil ?_; exact Ends.one hKq rfl rfl (Below.refl _ _))
        · rintro _ rfl
          have c0 := cell_bel hbq c0; have c1 := cell_bel hbq c1; have c2 := cell_bel hbq c2; have c3 := cell_bel hbq c3; have c4 := cell_bel hbq c4; have d0 := cell_bel hbq d0; have d1 := cell_bel hbq d1; have d2 := cell_bel hbq d2; have d3 := cell_bel hbq d3; have d4 := cell_bel hbq d4
          first
            | (refine WR.guard_yes rfl rfl ?_; refine WR.s ?_; refine WR.nil ?_; exact Ends.one hKq rfl rfl (Below.refl _ _))
            | (refine WR.gn ?_; refine WR.nil ?_; exact Ends.one hKq rfl rfl (Below.refl _ _))
        · rintro _ rfl _ rfl _ rfl
          have c0 := cell_bel hbq c0; have c1 := cell_bel hbq c1; have c2 := cell_bel hbq c2; have c3 := cell_bel hbq c3; have c4 := cell_bel hbq c4; have d0 := cell_bel hbq d0; have d1 := cell_bel hbq d1; have d2 := cell_bel hbq d2; have d3 := cell_bel hbq d3; have d4 := cell_bel hbq d4
          first
            | (refine WR.guard_yes rfl rfl ?_; refine WR.ix ?_; refine WR.nil ?_; exact Ends.one hKq rfl rfl (Below.refl _ _))
            | (refine WR.gn ?_; refine WR.nil ?_; exact Ends.one hKq rfl rfl (Below.refl _ _))
        · rintro _ rfl _ rfl
          have c0 := cell_bel hbq c0; have c1 := cell_bel hbq c1; have c2 := cell_bel hbq c2; have c3 := cell_bel hbq c3; have c4 := cell_bel hbq c4; have d0 := cell_bel hbq d0; have d1 := cell_bel hbq d1; have d2 := cell_bel hbq d2; have d3 := cell_bel hbq d3; have d4 := cell_bel hbq d4
          first
            | (refine WR.guard_yes rfl rfl ?_; refine WR.s ?_; refine WR.nil ?_; exact Ends.one hKq rfl rfl (Below.refl _ _))
            | (refine WR.gn ?_; refine WR.nil ?_; exact Ends.one hKq rfl rfl (Below.refl _ _))
        · rintro _ rfl _ rfl
          have c0 := cell_bel hbq c0; have c1 := cell_bel hbq c1; have c2 := cell_bel hbq c2; have c3 := cell_bel hbq c3; have c4 := cell_bel hbq c4; have d0 := cell_bel hbq d0; have d1 := cell_bel hbq d1; have d2 := cell_bel hbq d2; have d3 := cell_bel hbq d3; have d4 := cell_bel hbq d4
          first
            | (refine WR.guard_yes rfl rfl ?_; refine WR.ix ?_; refine WR.nil ?_; exact Ends.one hKq rfl rfl (Below.refl _ _))
            | (refine WR.gn ?_; refine WR.nil ?_; exact Ends.one hKq rfl rfl (Below.refl _ _))
        · rintro _ rfl _ rfl _ rfl
          have c0 := cell_bel hbq c0; have c1 := cell_bel hbq c1; have c2 := cell_bel hbq c2; have c3 := cell_bel hbq c3; have c4 := cell_bel hbq c4; have d0 := cell_bel hbq d0; have d1 := cell_bel hbq d1; have d2 := cell_bel hbq d2; have d3 := cell_bel hbq d3; have d4 := cell_bel hbq d4
          first
            | (refine WR.guard_yes rfl rfl ?_; refine WR.s ?_; refine WR.nil ?_; exact Ends.one hKq rfl rfl (Below.refl _ _))
            | (refine WR.gn ?_; refine WR.nil ?_; exact Ends.one hKq rfl rfl (Below.refl _ _))
        · rintro _ rfl _ rfl
          have c0 := cell_bel hbq c0; have c1 := cell_bel hbq c1; have c2 := cell_bel hbq c2; have c3 := cell_bel hbq c3; have c4 := cell_bel hbq c4; have d0 := cell_bel hbq d0; have d1 := cell_bel hbq d1; have d2 := cell_bel hbq d2; have d3 := cell_bel hbq d3; have d4 := cell_bel hbq d4
          refine WR.s ?_; refine WR.nil ?_; exact Ends.one hKq rfl rfl (Below.refl _ _)
        · rintro _ rfl
          have c0 := cell_bel hbq c0; have c1 := cell_bel hbq c1; have c2 := cell_bel hbq c2; have c3 := cell_bel hbq c3; have c4 := cell_bel hbq c4; have d0 := cell_bel hbq d0; have d1 := cell_bel hbq d1; have d2 := cell_bel hbq d2; have d3 := cell_bel hbq d3; have d4 := cell_bel hbq d4
          refine WR.s ?_; refine WR.nil ?_; exact Ends.one hKq rfl rfl (Below.refl _ _)
        · rintro _ rfl
          have c0 := cell_bel hbq c0; have c1 := cell_bel hbq c1; have c2 := cell_bel hbq c2; have c3 := cell_bel hbq c3; have c4 := cell_bel hbq c4; have d0 := cell_bel hbq d0; have d1 := cell_bel hbq d1; have d2 := cell_bel hbq d2; have d3 := cell_bel hbq d3; have d4 := cell_bel hbq d4
          first
            | (refine WR.guard_yes rfl rfl ?_; refine WR.s ?_; refine WR.nil ?_; exact Ends.one hKq rfl rfl (Below.refl _ _))
            | (refine WR.gn ?_; refine WR.nil ?_; exact Ends.one hKq rfl rfl (Below.refl _ _))
        · rintro _ rfl
          have c0 := cell_bel hbq c0; have c1 := cell_bel hbq c1; have c2 := cell_bel hbq c2; have c3 := cell_bel hbq c3; have c4 := cell_bel hbq c4; have d0 := cell_bel hbq d0; have d1 := cell_bel hbq d1; have d2 := cell_bel hbq d2; have d3 := cell_bel hbq d3; have d4 := cell_bel hbq d4
          first
            | (refine WR.guard_yes rfl rfl ?_; refine WR.s ?_; refine WR.nil ?_; exact Ends.one hKq rfl rfl (Below.refl _ _))
            | (refine WR.gn ?_; refine WR.nil ?_; exact Ends.one hKq rfl rfl (Below.refl _ _))
        · rintro _ rfl _ rfl _ rfl
          have c0 := cell_bel hbq c0; have c1 := cell_bel hbq c1; have c2 := cell_bel hbq c2; have c3 := cell_bel hbq c3; have c4 := cell_bel hbq c4; have d0 := cell_bel hbq d0; have d1 := cell_bel hbq d1; have d2 := cell_bel hbq d2; have d3 := cell_bel hbq d3; have d4 := cell_bel hbq d4
          first
            | (refine WR.guard_yes rfl rfl ?_; refine WR.ix ?_; refine WR.nil ?_; exact Ends.one hKq rfl rfl (Below.refl _ _))
            | (refine WR.gn ?_; refine WR.nil ?_; exact Ends.one hKq rfl rfl (Below.refl _ _))
        · rintro _ rfl _ rfl
          have c0 := cell_bel hbq c0; have c1 := cell_bel hbq c1; have c2 := cell_bel hbq c2; have c3 := cell_bel hbq c3; have c4 := cell_bel hbq c4; have d0 := cell_bel hbq d0; have d1 := cell_bel hbq d1; have d2 := cell_bel hbq d2; have d3 := cell_bel hbq d3; have d4 := cell_bel hbq d4
          first
            | (refine WR.guard_yes rfl rfl ?_; refine WR.s ?_; refine WR.nil ?_; exact Ends.one hKq rfl rfl (Below.refl _ _))
            | (refine WR.gn ?_; refine WR.nil ?_; exact Ends.one hKq rfl rfl (Below.refl _ _))
        · rintro _ rfl _ rfl
          have c0 := cell_bel hbq c0; have c1 := cell_bel hbq c1; have c2 := cell_bel hbq c2; have c3 := cell_bel hbq c3; have c4 := cell_bel hbq c4; have d0 := cell_bel hbq d0; have d1 := cell_bel hbq d1; have d2 := cell_bel hbq d2; have d3 := cell_bel hbq d3; have d4 := cell_bel hbq d4
          first
            | (refine WR.guard_yes rfl rfl ?_; refine WR.ix ?_; refine WR.nil ?_; exact Ends.one hKq rfl rfl (Below.refl _ _))
            | (refine WR.gn ?_; refine WR.nil ?_; exact Ends.one hKq rfl rfl (Below.refl _ _))
        · rintro _ rfl
          have c0 := cell_bel hbq c0; have c1 := cell_bel hbq c1; have c2 := cell_bel hbq c2; have c3 := cell_bel hbq c3; have c4 := cell_bel hbq c4; have d0 := cell_bel hbq d0; have d1 := cell_bel hbq d1; have d2 := cell_bel hbq d2; have d3 := cell_bel hbq d3; have d4 := cell_bel hbq d4
          first
            | (refine WR.guard_yes rfl rfl ?_; refine WR.s ?_; refine WR.nil ?_; exact Ends.one hKq rfl rfl (Below.refl _ _))
            | (refine WR.gn ?_; refine WR.nil ?_; exact Ends.one hKq rfl rfl (Below.refl _ _))
        · rintro _ rfl
          have c0 := cell_bel hbq c0; have c1 := cell_bel hbq c1; have c2 := cell_bel hbq c2; have c3 := cell_bel hbq c3; have c4 := cell_bel hbq c4; have d0 := cell_bel hbq d0; have d1 := cell_bel hbq d1; have d2 := cell_bel hbq d2; have d3 := cell_bel hbq d3; have d4 := cell_bel hbq d4
          first
            | (refine WR.guard_yes rfl rfl ?_; refine WR.s ?_; refine WR.nil ?_; exact Ends.one hKq rfl rfl (Below.refl _ _))
            | (refine WR.gn ?_; refine WR.nil ?_; exact Ends.one hKq rfl rfl (Below.refl _ _))
        · rintro _ rfl _ rfl _ rfl
          have c0 := cell_bel hbq c0; have c1 := cell_bel hbq c1; have c2 := cell_bel hbq c2; have c3 := cell_bel hbq c3; have c4 := cell_bel hbq c4; have d0 := cell_bel hbq d0; have d1 := cell_bel hbq d1; have d2 := cell_bel hbq d2; have d3 := cell_bel hbq d3; have d4 := cell_bel hbq d4
          first
            | (refine WR.guard_yes rfl rfl ?_; refine WR.ix ?_; refine WR.nil ?_; exact Ends.one hKq rfl rfl (Below.refl _ _))
            | (refine WR.gn ?_; refine WR.nil ?_; exact Ends.one hKq rfl rfl (Below.refl _ _))
        · rintro _ rfl _ rfl
          have c0 := cell_bel hbq c0; have c1 := cell_bel hbq c1; have c2 := cell_bel hbq c2; have c3 := cell_bel hbq c3; have c4 := cell_bel hbq c4; have d0 := cell_bel hbq d0; have d1 := cell_bel hbq d1; have d2 := cell_bel hbq d2; have d3 := cell_bel hbq d3; have d4 := cell_bel hbq d4
          first
            | (refine WR.guard_yes rfl rfl ?_; refine WR.s ?_; refine WR.nil ?_; exact Ends.one hKq rfl rfl (Below.refl _ _))
            | (refine WR.gn ?_; refine WR.nil ?_; exact Ends.one hKq rfl rfl (Below.refl _ _))
        · rintro _ rfl _ rfl
          have c0 := cell_bel hbq c0; have c1 := cell_bel hbq c1; have c2 := cell_bel hbq c2; have c3 := cell_bel hbq c3; have c4 := cell_bel hbq c4; have d0 := cell_bel hbq d0; have d1 := cell_bel hbq d1; have d2 := cell_bel hbq d2; have d3 := cell_bel hbq d3; have d4 := cell_bel hbq d4
          first
            | (refine WR.guard_yes rfl rfl ?_; refine WR.ix ?_; refine WR.nil ?_; exact Ends.one hKq rfl rfl (Below.refl _ _))
            | (refine WR.gn ?_; refine WR.nil ?_; exact Ends.one hKq rfl rfl (Below.refl _ _))
        · rintro _ rfl _ rfl _ rfl
          have c0 := cell_bel hbq c0; have c1 := cell_bel hbq c1; have c2 := cell_bel hbq c2; have c3 := cell_bel hbq c3; have c4 := cell_bel hbq c4; have d0 := cell_bel hbq d0; have d1 := cell_bel hbq d1; have d2 := cell_bel hbq d2; have d3 := cell_bel hbq d3; have d4 := cell_bel hbq d4
          first
            | (refine WR.guard_yes rfl rfl ?_; refine WR.call (by rfl) (by rfl) (eq_any _ _ _ _ _ _ _ (Bs.below hbj hbq) (Bs.below hbi hbq)) ?_; rintro _ _ ⟨rfl, nd, rfl⟩; refine ⟨_, rfl, ?_⟩; rw [beq_self_eq_true]; refine WR.nil ?_; exact Ends.one hKq rfl rfl (below_dn (Below.refl _ _) nd) )
            | (refine WR.gn ?_; refine WR.nil ?_; exact Ends.one hKq rfl rfl (Below.refl _ _))
        · rintro _ rfl _ rfl
          have c0 := cell_bel hbq c0; have c1 := cell_bel hbq c1; have c2 := cell_bel hbq c2; have c3 := cell_bel hbq c3; have c4 := cell_bel hbq c4; have d0 := cell_bel hbq d0; have d1 := cell_bel hbq d1; have d2 := cell_bel hbq d2; have d3 := cell_bel hbq d3; have d4 := cell_bel hbq d4
          first
            | (refine WR.guard_yes rfl rfl ?_; refine WR.s ?_; refine WR.nil ?_; exact Ends.one hKq rfl rfl (Below.refl _ _))
            | (refine WR.gn ?_; refine WR.nil ?_; exact Ends.one hKq rfl rfl (Below.refl _ _))
        · rintro _ rfl _ rfl
          have c0 := cell_bel hbq c0; have c1 := cell_bel hbq c1; have c2 := cell_bel hbq c2; have c3 := cell_bel hbq c3; have c4 := cell_bel hbq c4; have d0 := cell_bel hbq d0; have d1 := cell_bel hbq d1; have d2 := cell_bel hbq d2; have d3 := cell_bel hbq d3; have d4 := cell_bel hbq d4
          refine WR.s ?_; refine WR.nil ?_; exact Ends.one hKq rfl rfl (Below.refl _ _)
      intro wq hbq
      rintro _ rfl _ rfl _ rfl _ rfl _ rfl _ rfl _ rfl _ rfl _ rfl _ rfl _ rfl _ rfl _ rfl _ rfl _ rfl _ rfl _ rfl _ rfl _ rfl _ rfl _ rfl _ rfl _ rfl _ rfl _ rfl _ rfl _ rfl _ rfl _ rfl _ rfl _ rfl _ rfl _ rfl _ rfl _ rfl _ rfl _ rfl _ rfl _ rfl _ rfl _ rfl _ rfl _ rfl _ rfl _ rfl _ rfl _ rfl _ rfl _ rfl _ rfl _ rfl _ rfl _ rfl _ rfl _ rfl _ rfl _ rfl _ rfl _ rfl _ rfl _ rfl _ rfl _ rfl _ rfl
      refine Ends.id ?_
      have c0 := cell_bel hbq c0; have c1 := cell_bel hbq c1; have c2 := cell_bel hbq c2; have c3 := cell_bel hbq c3; have c4 := cell_bel hbq c4; have d0 := cell_bel hbq d0; have d1 := cell_bel hbq d1; have d2 := cell_bel hbq d2; have d3 := cell_bel hbq d3; have d4 := cell_bel hbq d4
      replace M := M.below hbq
      clear c0 c1 c2 c3 c4 d0 d1 d2 d3 d4 hbi hbj
      (repeat (first | (refine WR.id ?_; first | refine WR.nil ?_ | refine WR.s ?_ | refine WR.g ?_) | (refine W.id ?_; first | refine W.seq fun _ _ => ?_ | refine W.region ?_ | refine W.s ?_ | refine W.e ?_) | (refine Ends.id ?_; first | refine Ends.seq (by assumption) ?_ | refine Ends.s ?_)))
      exact Ends.round hK (i + 1) (by repeat (first | exact .nil | refine .cons rfl ?_)) ⟨by omega, M⟩ (by omega)
    · (repeat (first | (refine WR.id ?_; first | refine WR.nil ?_ | refine WR.s ?_ | refine WR.g ?_) | (refine W.id ?_; first | refine W.seq fun _ _ => ?_ | refine W.region ?_ | refine W.s ?_ | refine W.e ?_) | (refine Ends.id ?_; first | refine Ends.seq (by assumption) ?_ | refine Ends.s ?_)))
      exact Ends.ret1 rfl rfl ⟨rfl, M.pre 3 rfl⟩
  · obtain ⟨_, hop⟩ := M.ops 0 rfl
    refine WR.call rfl rfl (encOps_any _ _ _ _ hop fun o ho => hok o ho) ?_
    rintro _ w7 ⟨v7, rfl, hf7⟩
    refine ⟨_, rfl, ?_⟩
    replace M := M.add hf7
    obtain ⟨A7, c7, rfl, -⟩ := M.br.bs.open_
    replace M := M.freeze
    clear hop hf7
    by_cases h0 : (encO (ops os)).1 = 0
    case neg =>
      have hl0 : (encO (ops os)).2.length = 0 := encO_no h0
      (repeat (first | (refine WR.id ?_; first | refine WR.nil ?_ | refine WR.s ?_ | refine WR.g ?_) | (refine W.id ?_; first | refine W.seq fun _ _ => ?_ | refine W.region ?_ | refine W.s ?_ | refine W.e ?_) | (refine Ends.id ?_; first | refine Ends.seq (by assumption) ?_ | refine Ends.s ?_)))
      exact Ends.ret1 rfl rfl ⟨rfl, M.pre 2 rfl⟩
    obtain ⟨hd1, hd2, hd3⟩ := encO_ok h0
    have hdo : decO (encO (ops os)).2 = (0, ops os) := by rw [hd3]; exact decO_back hd2 hd1
    have hol3 : (encO (ops os)).2.length ≤ 400000 := by
      have := ops_lens hd2
      rw [hd3]; simp only [opsB, List.length_append, be_len]; omega
    rw [ops_len] at hd1
    obtain ⟨Fz3, -, hown⟩ := M.z 0 rfl
    replace hown := Ob.bs hown
    (repeat (first | (refine WR.id ?_; first | refine WR.nil ?_ | refine WR.s ?_ | refine WR.g ?_) | (refine W.id ?_; first | refine W.seq fun _ _ => ?_ | refine W.region ?_ | refine W.s ?_ | refine W.e ?_) | (refine Ends.id ?_; first | refine Ends.seq (by assumption) ?_ | refine Ends.s ?_)))
    refine WR.call rfl rfl (decOps_any _ _ _ _ hown (by omega)) ?_
    rintro _ wc9 ⟨vg2, eg2, rfl, hfg2, hsg2, hng, hbg3⟩
    refine ⟨_, rfl, ?_⟩
    rw [hdo] at hfg2 ⊢
    obtain ⟨Ag2, cg2, rfl, -, -⟩ := ops_form hsg2.ops
    replace M := (M.below hbg3).addz (zops_of hsg2)
    have hgl : eg2.length = os.length := by have := congrArg List.length hfg2; rwa [ops_len, ops_len] at this
    replace hfg2 : ops eg2 = ops os := hfg2
    clear hown hsg2
    (repeat (first | (refine WR.id ?_; first | refine WR.nil ?_ | refine WR.s ?_ | refine WR.g ?_) | (refine W.id ?_; first | refine W.seq fun _ _ => ?_ | refine W.region ?_ | refine W.s ?_ | refine W.e ?_) | (refine Ends.id ?_; first | refine Ends.seq (by assumption) ?_ | refine Ends.s ?_)))
    refine W.loop (X := Nat) (fun i => [(1, .slice Ao os.length co), (15, .slice Ag2 eg2.length cg2), (81, .slice Ag2 eg2.length cg2), (82, .int .i64 (eg2.length : Nat)), (83, .int .i64 (i : Nat))])
      (fun i wr => i ≤ os.length ∧ Mem wr [] [zOps (.slice Ag2 eg2.length cg2) eg2, aBr (.slice A7 (encO (ops os)).2.length c7) (encO (ops os)).2, zOps (.slice Ao os.length co) os, zPre w]) (fun i => os.length - i)
      0 (by repeat (first | exact .nil | refine .cons rfl ?_)) ⟨Nat.zero_le _, M⟩ ?_
    clear M
    rintro i wr ⟨hi, M⟩ K hK
    (repeat (first | (refine WR.id ?_; first | refine WR.nil ?_ | refine WR.s ?_ | refine WR.g ?_) | (refine W.id ?_; first | refine W.seq fun _ _ => ?_ | refine W.region ?_ | refine W.s ?_ | refine W.e ?_) | (refine Ends.id ?_; first | refine Ends.seq (by assumption) ?_ | refine Ends.s ?_)))
    refine W.condP (by rfl) (fun hlt => ?_) (fun hlt => ?_)
    · have hil : i < os.length := by omega
      obtain ⟨⟨o, vo⟩, hxo⟩ : ∃ x, os[i]? = some x := ⟨_, List.getElem?_eq_getElem hil⟩
      obtain ⟨⟨o', vo'⟩, hxo'⟩ : ∃ x, eg2[i]? = some x := ⟨_, List.getElem?_eq_getElem (by omega : i < eg2.length)⟩
      have hoo : o' = o := by
        have h1 : (ops os)[i]? = some o := by unfold ops; rw [List.getElem?_map, hxo]; rfl
        have h2 : (ops eg2)[i]? = some o' := by unfold ops; rw [List.getElem?_map, hxo']; rfl
        rw [hfg2, h1] at h2; exact (Option.some.inj h2).symm
      subst hoo
      obtain ⟨ba, pa, Fa, hA, c0, c1, c2, c3, c4, hbi⟩ := op_cells M 2 rfl hxo
      subst hA
      obtain ⟨bb, pb, Fb, hA, d0, d1, d2, d3, d4, hbj⟩ := op_cells M 0 rfl hxo'
      subst hA
      obtain ⟨Ay, cy, rfl, -⟩ := hbi.open_
      obtain ⟨Az, cz, rfl, -⟩ := hbj.open_
      obtain ⟨kind, name, new, at_, bytes⟩ := o'
      dsimp only at *
      have hs1 : (name == name) = true := beq_self_eq_true _
      have hs2 : (new == new) = true := beq_self_eq_true _
      (repeat (first | (refine WR.id ?_; first | refine WR.nil ?_ | refine WR.s ?_ | refine WR.g ?_) | (refine W.id ?_; first | refine W.seq fun _ _ => ?_ | refine W.region ?_ | refine W.s ?_ | refine W.e ?_) | (refine Ends.id ?_; first | refine Ends.seq (by assumption) ?_ | refine Ends.s ?_)))
      apply W.draws [[], [], [0, 1], [2], [3], [], [], [5, 6], [7], [8], [4, 9], [10], [11], [11], [12, 13, 11], [14, 11], [15, 11], [11], [11], [17, 18, 11], [19, 11], [20, 11], [16, 21, 11], [11, 22], [23], [24], [24], [25, 26, 24], [27, 24], [28, 24], [24], [24], [30, 31, 24], [32, 24], [33, 24], [29, 34, 24], [24, 35], [36], [37], [37], [38, 39, 37], [40, 37], [41, 37], [37], [37], [43, 44, 37], [45, 37], [46, 37], [42, 47, 37], [37, 48], [49], [50], [50], [51, 52, 50], [53, 50], [54, 50], [50], [50], [56, 57, 50], [58, 50], [59, 50], [55, 60, 50], [61, 50], [50, 62]]
        [is _, is _, is _, is _, is _, is _, is _, is _, is _, is _, is _, is _, is _, is _, is _, is _, is _, is _, is _, is _, is _, is _, is _, is _, is _, is _, is _, is _, is _, is _, is _, is _, is _, is _, is _, is _, is _, is _, is _, is _, is _, is _, is _, is _, is _, is _, is _, is _, is _, is _, is _, is _, is _, is _, is _, is _, is _, is _, is _, is _, is _, is _, is _, is _] (by kernel_rfl) (by kernel_rfl) (by rfl) (by kernel_rfl) ⟨stab_is _, stab_is _, stab_is _, stab_is _, stab_is _, stab_is _, stab_is _, stab_is _, stab_is _, stab_is _, stab_is _, stab_is _, stab_is _, stab_is _, stab_is _, stab_is _, stab_is _, stab_is _, stab_is _, stab_is _, stab_is _, stab_is _, stab_is _, stab_is _, stab_is _, stab_is _, stab_is _, stab_is _, stab_is _, stab_is _, stab_is _, stab_is _, stab_is _, stab_is _, stab_is _, stab_is _, stab_is _, stab_is _, stab_is _, stab_is _, stab_is _, stab_is _, stab_is _, stab_is _, stab_is _, stab_is _, stab_is _, stab_is _, stab_is _, stab_is _, stab_is _, stab_is _, stab_is _, stab_is _, stab_is _, stab_is _, stab_is _, stab_is _, stab_is _, stab_is _, stab_is _, stab_is _, stab_is _, stab_is _, trivial⟩ ?step2 ?fin2
      case step2 =>
        refine ⟨fun wq hbq Kq hKq => ?_, fun wq hbq Kq hKq => ?_, fun wq hbq Kq hKq => ?_, fun wq hbq Kq hKq => ?_, fun wq hbq Kq hKq => ?_, fun wq hbq Kq hKq => ?_, fun wq hbq Kq hKq => ?_, fun wq hbq Kq hKq => ?_, fun wq hbq Kq hKq => ?_, fun wq hbq Kq hKq => ?_, fun wq hbq Kq hKq => ?_, fun wq hbq Kq hKq => ?_, fun wq hbq Kq hKq => ?_, fun wq hbq Kq hKq => ?_, fun wq hbq Kq hKq => ?_, fun wq hbq Kq hKq => ?_, fun wq hbq Kq hKq => ?_, fun wq hbq Kq hKq => ?_, fun wq hbq Kq hKq => ?_, fun wq hbq Kq hKq => ?_, fun wq hbq Kq hKq => ?_, fun wq hbq Kq hKq => ?_, fun wq hbq Kq hKq => ?_, fun wq hbq Kq hKq => ?_, fun wq hbq Kq hKq => ?_, fun wq hbq Kq hKq => ?_, fun wq hbq Kq hKq => ?_, fun wq hbq Kq hKq => ?_, fun wq hbq Kq hKq => ?_, fun wq hbq Kq hKq => ?_, fun wq hbq Kq hKq => ?_, fun wq hbq Kq hKq => ?_, fun wq hbq Kq hKq => ?_, fun wq hbq Kq hKq => ?_, fun wq hbq Kq hKq => ?_, fun wq hbq Kq hKq => ?_, fun wq hbq Kq hKq => ?_, fun wq hbq Kq hKq => ?_, fun wq hbq Kq hKq => ?_, fun wq hbq Kq hKq => ?_, fun wq hbq Kq hKq => ?_, fun wq hbq Kq hKq => ?_, fun wq hbq Kq hKq => ?_, fun wq hbq Kq hKq => ?_, fun wq hbq Kq hKq => ?_, fun wq hbq Kq hKq => ?_, fun wq hbq Kq hKq => ?_, fun wq hbq Kq hKq => ?_, fun wq hbq Kq hKq => ?_, fun wq hbq Kq hKq => ?_, fun wq hbq Kq hKq => ?_, fun wq hbq Kq hKq => ?_, fun wq hbq Kq hKq => ?_, fun wq hbq Kq hKq => ?_, fun wq hbq Kq hKq => ?_, fun wq hbq Kq hKq => ?_, fun wq hbq Kq hKq => ?_, fun wq hbq Kq hKq => ?_, fun wq hbq Kq hKq => ?_, fun wq hbq Kq hKq => ?_, fun wq hbq Kq hKq => ?_, fun wq hbq Kq hKq => ?_, fun wq hbq Kq hKq => ?_, fun wq hbq Kq hKq => ?_, trivial⟩
        · have c0 := cell_bel hbq c0; have c1 := cell_bel hbq c1; have c2 := cell_bel hbq c2; have c3 := cell_bel hbq c3; have c4 := cell_bel hbq c4; have d0 := cell_bel hbq d0; have d1 := cell_bel hbq d1; have d2 := cell_bel hbq d2; have d3 := cell_bel hbq d3; have d4 := cell_bel hbq d4
          refine WR.s ?_; refine WR.nil ?_; exact Ends.one hKq rfl rfl (Below.refl _ _)
        · have c0 := cell_bel hbq c0; have c1 := cell_bel hbq c1; have c2 := cell_bel hbq c2; have c3 := cell_bel hbq c3; have c4 := cell_bel hbq c4; have d0 := cell_bel hbq d0; have d1 := cell_bel hbq d1; have d2 := cell_bel hbq d2; have d3 := cell_bel hbq d3; have d4 := cell_bel hbq d4
          refine WR.s ?_; refine WR.nil ?_; exact Ends.one hKq rfl rfl (Below.refl _ _)
        · rintro _ rfl _ rfl
          have c0 := cell_bel hbq c0; have c1 := cell_bel hbq c1; have c2 := cell_bel hbq c2; have c3 := cell_bel hbq c3; have c4 := cell_bel hbq c4; have d0 := cell_bel hbq d0; have d1 := cell_bel hbq d1; have d2 := cell_bel hbq d2; have d3 := cell_bel hbq d3; have d4 := cell_bel hbq d4
          refine WR.ix ?_; refine WR.nil ?_; exact Ends.one hKq rfl rfl (Below.refl _ _)
        · rintro _ rfl
          have c0 := cell_bel hbq c0; have c1 := cell_bel hbq c1; have c2 := cell_bel hbq c2; have c3 := cell_bel hbq c3; have c4 := cell_bel hbq c4; have d0 := cell_bel hbq d0; have d1 := cell_bel hbq d1; have d2 := cell_bel hbq d2; have d3 := cell_bel hbq d3; have d4 := cell_bel hbq d4
          refine WR.s ?_; refine WR.nil ?_; exact Ends.one hKq rfl rfl (Below.refl _ _)
        · rintro _ rfl
          have c0 := cell_bel hbq c0; have c1 := cell_bel hbq c1; have c2 := cell_bel hbq c2; have c3 := cell_bel hbq c3; have c4 := cell_bel hbq c4; have d0 := cell_bel hbq d0; have d1 := cell_bel hbq d1; have d2 := cell_bel hbq d2; have d3 := cell_bel hbq d3; have d4 := cell_bel hbq d4
          refine WR.ix ?_; refine WR.nil ?_; exact Ends.one hKq rfl rfl (Below.refl _ _)
        · have c0 := cell_bel hbq c0; have c1 := cell_bel hbq c1; have c2 := cell_bel hbq c2; have c3 := cell_bel hbq c3; have c4 := cell_bel hbq c4; have d0 := cell_bel hbq d0; have d1 := cell_bel hbq d1; have d2 := cell_bel hbq d2; have d3 := cell_bel hbq d3; have d4 := cell_bel hbq d4
          refine WR.s ?_; refine WR.nil ?_; exact Ends.one hKq rfl rfl (Below.refl _ _)
        · have c0 := cell_bel hbq c0; have c1 := cell_bel hbq c1; have c2 := cell_bel hbq c2; have c3 := cell_bel hbq c3; have c4 := cell_bel hbq c4; have d0 := cell_bel hbq d0; have d1 := cell_bel hbq d1; have d2 := cell_bel hbq d2; have d3 := cell_bel hbq d3; have d4 := cell_bel hbq d4
          refine WR.s ?_; refine WR.nil ?_; exact Ends.one hKq rfl rfl (Below.refl _ _)
        · rintro _ rfl _ rfl
          have c0 := cell_bel hbq c0; have c1 := cell_bel hbq c1; have c2 := cell_bel hbq c2; have c3 := cell_bel hbq c3; have c4 := cell_bel hbq c4; have d0 := cell_bel hbq d0; have d1 := cell_bel hbq d1; have d2 := cell_bel hbq d2; have d3 := cell_bel hbq d3; have d4 := cell_bel hbq d4
          refine WR.ix ?_; refine WR.nil ?_; exact Ends.one hKq rfl rfl (Below.refl _ _)
        · rintro _ rfl
          have c0 := cell_bel hbq c0; have c1 := cell_bel hbq c1; have c2 := cell_bel hbq c2; have c3 := cell_bel hbq c3; have c4 := cell_bel hbq c4; have d0 := cell_bel hbq d0; have d1 := cell_bel hbq d1; have d2 := cell_bel hbq d2; have d3 := cell_bel hbq d3; have d4 := cell_bel hbq d4
          refine WR.s ?_; refine WR.nil ?_; exact Ends.one hKq rfl rfl (Below.refl _ _)
        · rintro _ rfl
          have c0 := cell_bel hbq c0; have c1 := cell_bel hbq c1; have c2 := cell_bel hbq c2; have c3 := cell_bel hbq c3; have c4 := cell_bel hbq c4; have d0 := cell_bel hbq d0; have d1 := cell_bel hbq d1; have d2 := cell_bel hbq d2; have d3 := cell_bel hbq d3; have d4 := cell_bel hbq d4
          refine WR.ix ?_; refine WR.nil ?_; exact Ends.one hKq rfl rfl (Below.refl _ _)
        · rintro _ rfl _ rfl
          have c0 := cell_bel hbq c0; have c1 := cell_bel hbq c1; have c2 := cell_bel hbq c2; have c3 := cell_bel hbq c3; have c4 := cell_bel hbq c4; have d0 := cell_bel hbq d0; have d1 := cell_bel hbq d1; have d2 := cell_bel hbq d2; have d3 := cell_bel hbq d3; have d4 := cell_bel hbq d4
          refine WR.s ?_; refine WR.nil ?_; exact Ends.one hKq rfl rfl (Below.refl _ _)
        · rintro _ rfl
          have c0 := cell_bel hbq c0; have c1 := cell_bel hbq c1; have c2 := cell_bel hbq c2; have c3 := cell_bel hbq c3; have c4 := cell_bel hbq c4; have d0 := cell_bel hbq d0; have d1 := cell_bel hbq d1; have d2 := cell_bel hbq d2; have d3 := cell_bel hbq d3; have d4 := cell_bel hbq d4
          refine WR.s ?_; refine WR.nil ?_; exact Ends.one hKq rfl rfl (Below.refl _ _)
        · rintro _ rfl
          have c0 := cell_bel hbq c0; have c1 := cell_bel hbq c1; have c2 := cell_bel hbq c2; have c3 := cell_bel hbq c3; have c4 := cell_bel hbq c4; have d0 := cell_bel hbq d0; have d1 := cell_bel hbq d1; have d2 := cell_bel hbq d2; have d3 := cell_bel hbq d3; have d4 := cell_bel hbq d4
          first
            | (refine WR.guard_yes rfl rfl ?_; refine WR.s ?_; refine WR.nil ?_; exact Ends.one hKq rfl rfl (Below.refl _ _))
            | (refine WR.gn ?_; refine WR.nil ?_; exact Ends.one hKq rfl rfl (Below.refl _ _))
        · rintro _ rfl
          have c0 := cell_bel hbq c0; have c1 := cell_bel hbq c1; have c2 := cell_bel hbq c2; have c3 := cell_bel hbq c3; have c4 := cell_bel hbq c4; have d0 := cell_bel hbq d0; have d1 := cell_bel hbq d1; have d2 := cell_bel hbq d2; have d3 := cell_bel hbq d3; have d4 := cell_bel hbq d4
          first
            | (refine WR.guard_yes rfl rfl ?_; refine WR.s ?_; refine WR.nil ?_; exact Ends.one hKq rfl rfl (Below.refl _ _))
            | (refine WR.gn ?_; refine WR.nil ?_; exact Ends.one hKq rfl rfl (Below.refl _ _))
        · rintro _ rfl _ rfl _ rfl
          have c0 := cell_bel hbq c0; have c1 := cell_bel hbq c1; have c2 := cell_bel hbq c2; have c3 := cell_bel hbq c3; have c4 := cell_bel hbq c4; have d0 := cell_bel hbq d0; have d1 := cell_bel hbq d1; have d2 := cell_bel hbq d2; have d3 := cell_bel hbq d3; have d4 := cell_bel hbq d4
          first
            | (refine WR.guard_yes rfl rfl ?_; refine WR.ix ?_; refine WR.nil ?_; exact Ends.one hKq rfl rfl (Below.refl _ _))
            | (refine WR.gn ?_; refine WR.nil ?_; exact Ends.one hKq rfl rfl (Below.refl _ _))
        · rintro _ rfl _ rfl
          have c0 := cell_bel hbq c0; have c1 := cell_bel hbq c1; have c2 := cell_bel hbq c2; have c3 := cell_bel hbq c3; have c4 := cell_bel hbq c4; have d0 := cell_bel hbq d0; have d1 := cell_bel hbq d1; have d2 := cell_bel hbq d2; have d3 := cell_bel hbq d3; have d4 := cell_bel hbq d4
          first
            | (refine WR.guard_yes rfl rfl ?_; refine WR.s ?_; refine WR.nil ?_; exact Ends.one hKq rfl rfl (Below.refl _ _))
            | (refine WR.gn ?_; refine WR.nil ?_; exact Ends.one hKq rfl rfl (Below.refl _ _))
        · rintro _ rfl _ rfl
          have c0 := cell_bel hbq c0; have c1 := cell_bel hbq c1; have c2 := cell_bel hbq c2; have c3 := cell_bel hbq c3; have c4 := cell_bel hbq c4; have d0 := cell_bel hbq d0; have d1 := cell_bel hbq d1; have d2 := cell_bel hbq d2; have d3 := cell_bel hbq d3; have d4 := cell_bel hbq d4
          first
            | (refine WR.guard_yes rfl rfl ?_; refine WR.ix ?_; refine WR.nil ?_; exact Ends.one hKq rfl rfl (Below.refl _ _))
            | (refine WR.gn ?_; refine WR.nil ?_; exact Ends.one hKq rfl rfl (Below.refl _ _))
        · rintro _ rfl
          have c0 := cell_bel hbq c0; have c1 := cell_bel hbq c1; have c2 := cell_bel hbq c2; have c3 := cell_bel hbq c3; have c4 := cell_bel hbq c4; have d0 := cell_bel hbq d0; have d1 := cell_bel hbq d1; have d2 := cell_bel hbq d2; have d3 := cell_bel hbq d3; have d4 := cell_bel hbq d4
          first
            | (refine WR.guard_yes rfl rfl ?_; refine WR.s ?_; refine WR.nil ?_; exact Ends.one hKq rfl rfl (Below.refl _ _))
            | (refine WR.gn ?_; refine WR.nil ?_; exact Ends.one hKq rfl rfl (Below.refl _ _))
        · rintro _ rfl
          have c0 := cell_bel hbq c0; have c1 := cell_bel hbq c1; have c2 := cell_bel hbq c2; have c3 := cell_bel hbq c3; have c4 := cell_bel hbq c4; have d0 := cell_bel hbq d0; have d1 := cell_bel hbq d1; have d2 := cell_bel hbq d2; have d3 := cell_bel hbq d3; have d4 := cell_bel hbq d4
          first
            | (refine WR.guard_yes rfl rfl ?_; refine WR.s ?_; refine WR.nil ?_; exact Ends.one hKq rfl rfl (Below.refl _ _))
            | (refine WR.gn ?_; refine WR.nil ?_; exact Ends.one hKq rfl rfl (Below.refl _ _))
        · rintro _ rfl _ rfl _ rfl
          have c0 := cell_bel hbq c0; have c1 := cell_bel hbq c1; have c2 := cell_bel hbq c2; have c3 := cell_bel hbq c3; have c4 := cell_bel hbq c4; have d0 := cell_bel hbq d0; have d1 := cell_bel hbq d1; have d2 := cell_bel hbq d2; have d3 := cell_bel hbq d3; have d4 := cell_bel hbq d4
          first
            | (refine WR.guard_yes rfl rfl ?_; refine WR.ix ?_; refine WR.nil ?_; exact Ends.one hKq rfl rfl (Below.refl _ _))
            | (refine WR.gn ?_; refine WR.nil ?_; exact Ends.one hKq rfl rfl (Below.refl _ _))
        · rintro _ rfl _ rfl
          have c0 := cell_bel hbq c0; have c1 := cell_bel hbq c1; have c2 := cell_bel hbq c2; have c3 := cell_bel hbq c3; have c4 := cell_bel hbq c4; have d0 := cell_bel hbq d0; have d1 := cell_bel hbq d1; have d2 := cell_bel hbq d2; have d3 := cell_bel hbq d3; have d4 := cell_bel hbq d4
          first
            | (refine WR.guard_yes rfl rfl ?_; refine WR.s ?_; refine WR.nil ?_; exact Ends.one hKq rfl rfl (Below.refl _ _))
            | (refine WR.gn ?_; refine WR.nil ?_; exact Ends.one hKq rfl rfl (Below.refl _ _))
        · rintro _ rfl _ rfl
          have c0 := cell_bel hbq c0; have c1 := cell_bel hbq c1; have c2 := cell_bel hbq c2; have c3 := cell_bel hbq c3; have c4 := cell_bel hbq c4; have d0 := cell_bel hbq d0; have d1 := cell_bel hbq d1; have d2 := cell_bel hbq d2; have d3 := cell_bel hbq d3; have d4 := cell_bel hbq d4
          first
            | (refine WR.guard_yes rfl rfl ?_; refine WR.ix ?_; refine WR.nil ?_; exact Ends.one hKq rfl rfl (Below.refl _ _))
            | (refine WR.gn ?_; refine WR.nil ?_; exact Ends.one hKq rfl rfl (Below.refl _ _))
        · rintro _ rfl _ rfl _ rfl
          have c0 := cell_bel hbq c0; have c1 := cell_bel hbq c1; have c2 := cell_bel hbq c2; have c3 := cell_bel hbq c3; have c4 := cell_bel hbq c4; have d0 := cell_bel hbq d0; have d1 := cell_bel hbq d1; have d2 := cell_bel hbq d2; have d3 := cell_bel hbq d3; have d4 := cell_bel hbq d4
          first
            | (refine WR.guard_yes rfl rfl ?_; refine WR.s ?_; refine WR.nil ?_; exact Ends.one hKq rfl rfl (Below.refl _ _))
            | (refine WR.gn ?_; refine WR.nil ?_; exact Ends.one hKq rfl rfl (Below.refl _ _))
        · rintro _ rfl _ rfl
          have c0 := cell_bel hbq c0; have c1 := cell_bel hbq c1; have c2 := cell_bel hbq c2; have c3 := cell_bel hbq c3; have c4 := cell_bel hbq c4; have d0 := cell_bel hbq d0; have d1 := cell_bel hbq d1; have d2 := cell_bel hbq d2; have d3 := cell_bel hbq d3; have d4 := cell_bel hbq d4
          refine WR.s ?_; refine WR.nil ?_; exact Ends.one hKq rfl rfl (Below.refl _ _)
        · rintro _ rfl
          have c0 := cell_bel hbq c0; have c1 := cell_bel hbq c1; have c2 := cell_bel hbq c2; have c3 := cell_bel hbq c3; have c4 := cell_bel hbq c4; have d0 := cell_bel hbq d0; have d1 := cell_bel hbq d1; have d2 := cell_bel hbq d2; have d3 := cell_bel hbq d3; have d4 := cell_bel hbq d4
          refine WR.s ?_; refine WR.nil ?_; exact Ends.one hKq rfl rfl (Below.refl _ _)
        · rintro _ rfl
          have c0 := cell_bel hbq c0; have c1 := cell_bel hbq c1; have c2 := cell_bel hbq c2; have c3 := cell_bel hbq c3; have c4 := cell_bel hbq c4; have d0 := cell_bel hbq d0; have d1 := cell_bel hbq d1; have d2 := cell_bel hbq d2; have d3 := cell_bel hbq d3; have d4 := cell_bel hbq d4
          first
            | (refine WR.guard_yes rfl rfl ?_; refine WR.s ?_; refine WR.nil ?_; exact Ends.one hKq rfl rfl (Below.refl _ _))
            | (refine WR.gn ?_; refine WR.nil ?_; exact Ends.one hKq rfl rfl (Below.refl _ _))
        · rintro _ rfl
          have c0 := cell_bel hbq c0; have c1 := cell_bel hbq c1; have c2 := cell_bel hbq c2; have c3 := cell_bel hbq c3; have c4 := cell_bel hbq c4; have d0 := cell_bel hbq d0; have d1 := cell_bel hbq d1; have d2 := cell_bel hbq d2; have d3 := cell_bel hbq d3; have d4 := cell_bel hbq d4
          first
            | (refine WR.guard_yes rfl rfl ?_; refine WR.s ?_; refine WR.nil ?_; exact Ends.one hKq rfl rfl (Below.refl _ _))
            | (refine WR.gn ?_; refine WR.nil ?_; exact Ends.one hKq rfl rfl (Below.refl _ _))
        · rintro _ rfl _ rfl _ rfl
          have c0 := cell_bel hbq c0; have c1 := cell_bel hbq c1; have c2 := cell_bel hbq c2; have c3 := cell_bel hbq c3; have c4 := cell_bel hbq c4; have d0 := cell_bel hbq d0; have d1 := cell_bel hbq d1; have d2 := cell_bel hbq d2; have d3 := cell_bel hbq d3; have d4 := cell_bel hbq d4
          first
            | (refine WR.guard_yes rfl rfl ?_; refine WR.ix ?_; refine WR.nil ?_; exact Ends.one hKq rfl rfl (Below.refl _ _))
            | (refine WR.gn ?_; refine WR.nil ?_; exact Ends.one hKq rfl rfl (Below.refl _ _))
        · rintro _ rfl _ rfl
          have c0 := cell_bel hbq c0; have c1 := cell_bel hbq c1; have c2 := cell_bel hbq c2; have c3 := cell_bel hbq c3; have c4 := cell_bel hbq c4; have d0 := cell_bel hbq d0; have d1 := cell_bel hbq d1; have d2 := cell_bel hbq d2; have d3 := cell_bel hbq d3; have d4 := cell_bel hbq d4
          first
            | (refine WR.guard_yes rfl rfl ?_; refine WR.s ?_; refine WR.nil ?_; exact Ends.one hKq rfl rfl (Below.refl _ _))
            | (refine WR.gn ?_; refine WR.nil ?_; exact Ends.one hKq rfl rfl (Below.refl _ _))
        · rintro _ rfl _ rfl
          have c0 := cell_bel hbq c0; have c1 := cell_bel hbq c1; have c2 := cell_bel hbq c2; have c3 := cell_bel hbq c3; have c4 := cell_bel hbq c4; have d0 := cell_bel hbq d0; have d1 := cell_bel hbq d1; have d2 := cell_bel hbq d2; have d3 := cell_bel hbq d3; have d4 := cell_bel hbq d4
          first
            | (refine WR.guard_yes rfl rfl ?_; refine WR.ix ?_; refine WR.nil ?_; exact Ends.one hKq rfl rfl (Below.refl _ _))
            | (refine WR.gn ?_; refine WR.nil ?_; exact Ends.one hKq rfl rfl (Below.refl _ _))
        · rintro _ rfl
          have c0 := cell_bel hbq c0; have c1 := cell_bel hbq c1; have c2 := cell_bel hbq c2; have c3 := cell_bel hbq c3; have c4 := cell_bel hbq c4; have d0 := cell_bel hbq d0; have d1 := cell_bel hbq d1; have d2 := cell_bel hbq d2; have d3 := cell_bel hbq d3; have d4 := cell_bel hbq d4
          first
            | (refine WR.guard_yes rfl rfl ?_; refine WR.s ?_; refine WR.nil ?_; exact Ends.one hKq rfl rfl (Below.refl _ _))
            | (refine WR.gn ?_; refine WR.nil ?_; exact Ends.one hKq rfl rfl (Below.refl _ _))
        · rintro _ rfl
          have c0 := cell_bel hbq c0; have c1 := cell_bel hbq c1; have c2 := cell_bel hbq c2; have c3 := cell_bel hbq c3; have c4 := cell_bel hbq c4; have d0 := cell_bel hbq d0; have d1 := cell_bel hbq d1; have d2 := cell_bel hbq d2; have d3 := cell_bel hbq d3; have d4 := cell_bel hbq d4
          first
            | (refine WR.guard_yes rfl rfl ?_; refine WR.s ?_; refine WR.nil ?_; exact Ends.one hKq rfl rfl (Below.refl _ _))
            | (refine WR.gn ?_; refine WR.nil ?_; exact Ends.one hKq rfl rfl (Below.refl _ _))
        · rintro _ rfl _ rfl _ rfl
          have c0 := cell_bel hbq c0; have c1 := cell_bel hbq c1; have c2 := cell_bel hbq c2; have c3 := cell_bel hbq c3; have c4 := cell_bel hbq c4; have d0 := cell_bel hbq d0; have d1 := cell_bel hbq d1; have d2 := cell_bel hbq d2; have d3 := cell_bel hbq d3; have d4 := cell_bel hbq d4
          first
            | (refine WR.guard_yes rfl rfl ?_; refine WR.ix ?_; refine WR.nil ?_; exact Ends.one hKq rfl rfl (Below.refl _ _))
            | (refine WR.gn ?_; refine WR.nil ?_; exact Ends.one hKq rfl rfl (Below.refl _ _))
        · rintro _ rfl _ rfl
          have c0 := cell_bel hbq c0; have c1 := cell_bel hbq c1; have c2 := cell_bel hbq c2; have c3 := cell_bel hbq c3; have c4 := cell_bel hbq c4; have d0 := cell_bel hbq d0; have d1 := cell_bel hbq d1; have d2 := cell_bel hbq d2; have d3 := cell_bel hbq d3; have d4 := cell_bel hbq d4
          first
            | (refine WR.guard_yes rfl rfl ?_; refine WR.s ?_; refine WR.nil ?_; exact Ends.one hKq rfl rfl (Below.refl _ _))
            | (refine WR.gn ?_; refine WR.nil ?_; exact Ends.one hKq rfl rfl (Below.refl _ _))
        · rintro _ rfl _ rfl
          have c0 := cell_bel hbq c0; have c1 := cell_bel hbq c1; have c2 := cell_bel hbq c2; have c3 := cell_bel hbq c3; have c4 := cell_bel hbq c4; have d0 := cell_bel hbq d0; have d1 := cell_bel hbq d1; have d2 := cell_bel hbq d2; have d3 := cell_bel hbq d3; have d4 := cell_bel hbq d4
          first
            | (refine WR.guard_yes rfl rfl ?_; refine WR.ix ?_; refine WR.nil ?_; exact Ends.one hKq rfl rfl (Below.refl _ _))
            | (refine WR.gn ?_; refine WR.nil ?_; exact Ends.one hKq rfl rfl (Below.refl _ _))
        · rintro _ rfl _ rfl _ rfl
          have c0 := cell_bel hbq c0; have c1 := cell_bel hbq c1; have c2 := cell_bel hbq c2; have c3 := cell_bel hbq c3; have c4 := cell_bel hbq c4; have d0 := cell_bel hbq d0; have d1 := cell_bel hbq d1; have d2 := cell_bel hbq d2; have d3 := cell_bel hbq d3; have d4 := cell_bel hbq d4
          first
            | (refine WR.guard_yes rfl rfl ?_; refine WR.s ?_; refine WR.nil ?_; exact Ends.one hKq rfl rfl (Below.refl _ _))
            | (refine WR.gn ?_; refine WR.nil ?_; exact Ends.one hKq rfl rfl (Below.refl _ _))
        · rintro _ rfl _ rfl
          have c0 := cell_bel hbq c0; have c1 := cell_bel hbq c1; have c2 := cell_bel hbq c2; have c3 := cell_bel hbq c3; have c4 := cell_bel hbq c4; have d0 := cell_bel hbq d0; have d1 := cell_bel hbq d1; have d2 := cell_bel hbq d2; have d3 := cell_bel hbq d3; have d4 := cell_bel hbq d4
          refine WR.s ?_; refine WR.nil ?_; exact Ends.one hKq rfl rfl (Below.refl _ _)
        · rintro _ rfl
          have c0 := cell_bel hbq c0; have c1 := cell_bel hbq c1; have c2 := cell_bel hbq c2; have c3 := cell_bel hbq c3; have c4 := cell_bel hbq c4; have d0 := cell_bel hbq d0; have d1 := cell_bel hbq d1; have d2 := cell_bel hbq d2; have d3 := cell_bel hbq d3; have d4 := cell_bel hbq d4
          refine WR.s ?_; refine WR.nil ?_; exact Ends.one hKq rfl rfl (Below.refl _ _)
        · rintro _ rfl
          have c0 := cell_bel hbq c0; have c1 := cell_bel hbq c1; have c2 := cell_bel hbq c2; have c3 := cell_bel hbq c3; have c4 := cell_bel hbq c4; have d0 := cell_bel hbq d0; have d1 := cell_bel hbq d1; have d2 := cell_bel hbq d2; have d3 := cell_bel hbq d3; have d4 := cell_bel hbq d4
          first
            | (refine WR.guard_yes rfl rfl ?_; refine WR.s ?_; refine WR.nil ?_; exact Ends.one hKq rfl rfl (Below.refl _ _))
            | (refine WR.gn ?_; refine WR.nil ?_; exact Ends.one hKq rfl rfl (Below.refl _ _))
        · rintro _ rfl
          have c0 := cell_bel hbq c0; have c1 := cell_bel hbq c1; have c2 := cell_bel hbq c2; have c3 := cell_bel hbq c3; have c4 := cell_bel hbq c4; have d0 := cell_bel hbq d0; have d1 := cell_bel hbq d1; have d2 := cell_bel hbq d2; have d3 := cell_bel hbq d3; have d4 := cell_bel hbq d4
          first
            | (refine WR.guard_yes rfl rfl ?_; refine WR.s ?_; refine WR.nil ?_; exact Ends.one hKq rfl rfl (Below.refl _ _))
            | (refine WR.gn ?_; refine WR.nil ?_; exact Ends.one hKq rfl rfl (Below.refl _ _))
        · rintro _ rfl _ rfl _ rfl
          have c0 := cell_bel hbq c0; have c1 := cell_bel hbq c1; have c2 := cell_bel hbq c2; have c3 := cell_bel hbq c3; have c4 := cell_bel hbq c4; have d0 := cell_bel hbq d0; have d1 := cell_bel hbq d1; have d2 := cell_bel hbq d2; have d3 := cell_bel hbq d3; have d4 := cell_bel hbq d4
          first
            | (refine WR.guard_yes rfl rfl ?_; refine WR.ix ?_; refine WR.nil ?_; exact Ends.one hKq rfl rfl (Below.refl _ _))
            | (refine WR.gn ?_; refine WR.nil ?_; exact Ends.one hKq rfl rfl (Below.refl _ _))
        · rintro _ rfl _ rfl
          have c0 := cell_bel hbq c0; have c1 := cell_bel hbq c1; have c2 := cell_bel hbq c2; have c3 := cell_bel hbq c3; have c4 := cell_bel hbq c4; have d0 := cell_bel hbq d0; have d1 := cell_bel hbq d1; have d2 := cell_bel hbq d2; have d3 := cell_bel hbq d3; have d4 := cell_bel hbq d4
          first
            | (refine WR.guard_yes rfl rfl ?_; refine WR.s ?_; refine WR.nil ?_; exact Ends.one hKq rfl rfl (Below.refl _ _))
            | (refine WR.gn ?_; refine WR.nil ?_; exact Ends.one hKq rfl rfl (Below.refl _ _))
        · rintro _ rfl _ rfl
          have c0 := cell_bel hbq c0; have c1 := cell_bel hbq c1; have c2 := cell_bel hbq c2; have c3 := cell_bel hbq c3; have c4 := cell_bel hbq c4; have d0 := cell_bel hbq d0; have d1 := cell_bel hbq d1; have d2 := cell_bel hbq d2; have d3 := cell_bel hbq d3; have d4 := cell_bel hbq d4
          first
            | (refine WR.guard_yes rfl rfl ?_; refine WR.ix ?_; refine WR.nil ?_; exact Ends.one hKq rfl rfl (Below.refl _ _))
            | (refine WR.gn ?_; refine WR.nil ?_; exact Ends.one hKq rfl rfl (Below.refl _ _))
        · rintro _ rfl
          have c0 := cell_bel hbq c0; have c1 := cell_bel hbq c1; have c2 := cell_bel hbq c2; have c3 := cell_bel hbq c3; have c4 := cell_bel hbq c4; have d0 := cell_bel hbq d0; have d1 := cell_bel hbq d1; have d2 := cell_bel hbq d2; have d3 := cell_bel hbq d3; have d4 := cell_bel hbq d4
          first
            | (refine WR.guard_yes rfl rfl ?_; refine WR.s ?_; refine WR.nil ?_; exact Ends.one hKq rfl rfl (Below.refl _ _))
            | (refine WR.gn ?_; refine WR.nil ?_; exact Ends.one hKq rfl rfl (Below.refl _ _))
        · rintro _ rfl
          have c0 := cell_bel hbq c0; have c1 := cell_bel hbq c1; have c2 := cell_bel hbq c2; have c3 := cell_bel hbq c3; have c4 := cell_bel hbq c4; have d0 := cell_bel hbq d0; have d1 := cell_bel hbq d1; have d2 := cell_bel hbq d2; have d3 := cell_bel hbq d3; have d4 := cell_bel hbq d4
          first
            | (refine WR.guard_yes rfl rfl ?_; refine WR.s ?_; refine WR.nil ?_; exact Ends.one hKq rfl rfl (Below.refl _ _))
            | (refine WR.gn ?_; refine WR.nil ?_; exact Ends.one hKq rfl rfl (Below.refl _ _))
        · rintro _ rfl _ rfl _ rfl
          have c0 := cell_bel hbq c0; have c1 := cell_bel hbq c1; have c2 := cell_bel hbq c2; have c3 := cell_bel hbq c3; have c4 := cell_bel hbq c4; have d0 := cell_bel hbq d0; have d1 := cell_bel hbq d1; have d2 := cell_bel hbq d2; have d3 := cell_bel hbq d3; have d4 := cell_bel hbq d4
          first
            | (refine WR.guard_yes rfl rfl ?_; refine WR.ix ?_; refine WR.nil ?_; exact Ends.one hKq rfl rfl (Below.refl _ _))
            | (refine WR.gn ?_; refine WR.nil ?_; exact Ends.one hKq rfl rfl (Below.refl _ _))
        · rintro _ rfl _ rfl
          have c0 := cell_bel hbq c0; have c1 := cell_bel hbq c1; have c2 := cell_bel hbq c2; have c3 := cell_bel hbq c3; have c4 := cell_bel hbq c4; have d0 := cell_bel hbq d0; have d1 := cell_bel hbq d1; have d2 := cell_bel hbq d2; have d3 := cell_bel hbq d3; have d4 := cell_bel hbq d4
          first
            | (refine WR.guard_yes rfl rfl ?_; refine WR.s ?_; refine WR.nil ?_; exact Ends.one hKq rfl rfl (Below.refl _ _))
            | (refine WR.gn ?_; refine WR.nil ?_; exact Ends.one hKq rfl rfl (Below.refl _ _))
        · rintro _ rfl _ rfl
          have c0 := cell_bel hbq c0; have c1 := cell_bel hbq c1; have c2 := cell_bel hbq c2; have c3 := cell_bel hbq c3; have c4 := cell_bel hbq c4; have d0 := cell_bel hbq d0; have d1 := cell_bel hbq d1; have d2 := cell_bel hbq d2; have d3 := cell_bel hbq d3; have d4 := cell_bel hbq d4
          first
            | (refine WR.guard_yes rfl rfl ?_; refine WR.ix ?_; refine WR.nil ?_; exact Ends.one hKq rfl rfl (Below.refl _ _))
            | (refine WR.gn ?_; refine WR.nil ?_; exact Ends.one hKq rfl rfl (Below.refl _ _))
        · rintro _ rfl _ rfl _ rfl
          have c0 := cell_bel hbq c0; have c1 := cell_bel hbq c1; have c2 := cell_bel hbq c2; have c3 := cell_bel hbq c3; have c4 := cell_bel hbq c4; have d0 := cell_bel hbq d0; have d1 := cell_bel hbq d1; have d2 := cell_bel hbq d2; have d3 := cell_bel hbq d3; have d4 := cell_bel hbq d4
          first
            | (refine WR.guard_yes rfl rfl ?_; refine WR.s ?_; refine WR.nil ?_; exact Ends.one hKq rfl rfl (Below.refl _ _))
            | (refine WR.gn ?_; refine WR.nil ?_; exact Ends.one hKq rfl rfl (Below.refl _ _))
        · rintro _ rfl _ rfl
          have c0 := cell_bel hbq c0; have c1 := cell_bel hbq c1; have c2 := cell_bel hbq c2; have c3 := cell_bel hbq c3; have c4 := cell_bel hbq c4; have d0 := cell_bel hbq d0; have d1 := cell_bel hbq d1; have d2 := cell_bel hbq d2; have d3 := cell_bel hbq d3; have d4 := cell_bel hbq d4
          refine WR.s ?_; refine WR.nil ?_; exact Ends.one hKq rfl rfl (Below.refl _ _)
        · rintro _ rfl
          have c0 := cell_bel hbq c0; have c1 := cell_bel hbq c1; have c2 := cell_bel hbq c2; have c3 := cell_bel hbq c3; have c4 := cell_bel hbq c4; have d0 := cell_bel hbq d0; have d1 := cell_bel hbq d1; have d2 := cell_bel hbq d2; have d3 := cell_bel hbq d3; have d4 := cell_bel hbq d4
          refine WR.s ?_; refine WR.nil ?_; exact Ends.one hKq rfl rfl (Below.refl _ _)
        · rintro _ rfl
          have c0 := cell_bel hbq c0; have c1 := cell_bel hbq c1; have c2 := cell_bel hbq c2; have c3 := cell_bel hbq c3; have c4 := cell_bel hbq c4; have d0 := cell_bel hbq d0; have d1 := cell_bel hbq d1; have d2 := cell_bel hbq d2; have d3 := cell_bel hbq d3; have d4 := cell_bel hbq d4
          first
            | (refine WR.guard_yes rfl rfl ?_; refine WR.s ?_; refine WR.nil ?_; exact Ends.one hKq rfl rfl (Below.refl _ _))
            | (refine WR.gn ?_; refine WR.nil ?_; exact Ends.one hKq rfl rfl (Below.refl _ _))
        · rintro _ rfl
          have c0 := cell_bel hbq c0; have c1 := cell_bel hbq c1; have c2 := cell_bel hbq c2; have c3 := cell_bel hbq c3; have c4 := cell_bel hbq c4; have d0 := cell_bel hbq d0; have d1 := cell_bel hbq d1; have d2 := cell_bel hbq d2; have d3 := cell_bel hbq d3; have d4 := cell_bel hbq d4
          first
            | (refine WR.guard_yes rfl rfl ?_; refine WR.s ?_; refine WR.nil ?_; exact Ends.one hKq rfl rfl (Below.refl _ _))
            | (refine WR.gn ?_; refine WR.nil ?_; exact Ends.one hKq rfl rfl (Below.refl _ _))
        · rintro _ rfl _ rfl _ rfl
          have c0 := cell_bel hbq c0; have c1 := cell_bel hbq c1; have c2 := cell_bel hbq c2; have c3 := cell_bel hbq c3; have c4 := cell_bel hbq c4; have d0 := cell_bel hbq d0; have d1 := cell_bel hbq d1; have d2 := cell_bel hbq d2; have d3 := cell_bel hbq d3; have d4 := cell_bel hbq d4
          first
            | (refine WR.guard_yes rfl rfl ?_; refine WR.ix ?_; refine WR.nil ?_; exact Ends.one hKq rfl rfl (Below.refl _ _))
            | (refine WR.gn ?_; refine WR.nil ?_; exact Ends.one hKq rfl rfl (Below.refl _ _))
        · rintro _ rfl _ rfl
          have c0 := cell_bel hbq c0; have c1 := cell_bel hbq c1; have c2 := cell_bel hbq c2; have c3 := cell_bel hbq c3; have c4 := cell_bel hbq c4; have d0 := cell_bel hbq d0; have d1 := cell_bel hbq d1; have d2 := cell_bel hbq d2; have d3 := cell_bel hbq d3; have d4 := cell_bel hbq d4
          first
            | (refine WR.guard_yes rfl rfl ?_; refine WR.s ?_; refine WR.nil ?_; exact Ends.one hKq rfl rfl (Below.refl _ _))
            | (refine WR.gn ?_; refine WR.nil ?_; exact Ends.one hKq rfl rfl (Below.refl _ _))
        · rintro _ rfl _ rfl
          have c0 := cell_bel hbq c0; have c1 := cell_bel hbq c1; have c2 := cell_bel hbq c2; have c3 := cell_bel hbq c3; have c4 := cell_bel hbq c4; have d0 := cell_bel hbq d0; have d1 := cell_bel hbq d1; have d2 := cell_bel hbq d2; have d3 := cell_bel hbq d3; have d4 := cell_bel hbq d4
          first
            | (refine WR.guard_yes rfl rfl ?_; refine WR.ix ?_; refine WR.nil ?_; exact Ends.one hKq rfl rfl (Below.refl _ _))
            | (refine WR.gn ?_; refine WR.nil ?_; exact Ends.one hKq rfl rfl (Below.refl _ _))
        · rintro _ rfl
          have c0 := cell_bel hbq c0; have c1 := cell_bel hbq c1; have c2 := cell_bel hbq c2; have c3 := cell_bel hbq c3; have c4 := cell_bel hbq c4; have d0 := cell_bel hbq d0; have d1 := cell_bel hbq d1; have d2 := cell_bel hbq d2; have d3 := cell_bel hbq d3; have d4 := cell_bel hbq d4
          first
            | (refine WR.guard_yes rfl rfl ?_; refine WR.s ?_; refine WR.nil ?_; exact Ends.one hKq rfl rfl (Below.refl _ _))
            | (refine WR.gn ?_; refine WR.nil ?_; exact Ends.one hKq rfl rfl (Below.refl _ _))
        · rintro _ rfl
          have c0 := cell_bel hbq c0; have c1 := cell_bel hbq c1; have c2 := cell_bel hbq c2; have c3 := cell_bel hbq c3; have c4 := cell_bel hbq c4; have d0 := cell_bel hbq d0; have d1 := cell_bel hbq d1; have d2 := cell_bel hbq d2; have d3 := cell_bel hbq d3; have d4 := cell_bel hbq d4
          first
            | (refine WR.guard_yes rfl rfl ?_; refine WR.s ?_; refine WR.nil ?_; exact Ends.one hKq rfl rfl (Below.refl _ _))
            | (refine WR.gn ?_; refine WR.nil ?_; exact Ends.one hKq rfl rfl (Below.refl _ _))
        · rintro _ rfl _ rfl _ rfl
          have c0 := cell_bel hbq c0; have c1 := cell_bel hbq c1; have c2 := cell_bel hbq c2; have c3 := cell_bel hbq c3; have c4 := cell_bel hbq c4; have d0 := cell_bel hbq d0; have d1 := cell_bel hbq d1; have d2 := cell_bel hbq d2; have d3 := cell_bel hbq d3; have d4 := cell_bel hbq d4
          first
            | (refine WR.guard_yes rfl rfl ?_; refine WR.ix ?_; refine WR.nil ?_; exact Ends.one hKq rfl rfl (Below.refl _ _))
            | (refine WR.gn ?_; refine WR.nil ?_; exact Ends.one hKq rfl rfl (Below.refl _ _))
        · rintro _ rfl _ rfl
          have c0 := cell_bel hbq c0; have c1 := cell_bel hbq c1; have c2 := cell_bel hbq c2; have c3 := cell_bel hbq c3; have c4 := cell_bel hbq c4; have d0 := cell_bel hbq d0; have d1 := cell_bel hbq d1; have d2 := cell_bel hbq d2; have d3 := cell_bel hbq d3; have d4 := cell_bel hbq d4
          first
            | (refine WR.guard_yes rfl rfl ?_; refine WR.s ?_; refine WR.nil ?_; exact Ends.one hKq rfl rfl (Below.refl _ _))
            | (refine WR.gn ?_; refine WR.nil ?_; exact Ends.one hKq rfl rfl (Below.refl _ _))
        · rintro _ rfl _ rfl
          have c0 := cell_bel hbq c0; have c1 := cell_bel hbq c1; have c2 := cell_bel hbq c2; have c3 := cell_bel hbq c3; have c4 := cell_bel hbq c4; have d0 := cell_bel hbq d0; have d1 := cell_bel hbq d1; have d2 := cell_bel hbq d2; have d3 := cell_bel hbq d3; have d4 := cell_bel hbq d4
          first
            | (refine WR.guard_yes rfl rfl ?_; refine WR.ix ?_; refine WR.nil ?_; exact Ends.one hKq rfl rfl (Below.refl _ _))
            | (refine WR.gn ?_; refine WR.nil ?_; exact Ends.one hKq rfl rfl (Below.refl _ _))
        · rintro _ rfl _ rfl _ rfl
          have c0 := cell_bel hbq c0; have c1 := cell_bel hbq c1; have c2 := cell_bel hbq c2; have c3 := cell_bel hbq c3; have c4 := cell_bel hbq c4; have d0 := cell_bel hbq d0; have d1 := cell_bel hbq d1; have d2 := cell_bel hbq d2; have d3 := cell_bel hbq d3; have d4 := cell_bel hbq d4
          first
            | (refine WR.guard_yes rfl rfl ?_; refine WR.call (by rfl) (by rfl) (eq_any _ _ _ _ _ _ _ (Bs.below hbj hbq) (Bs.below hbi hbq)) ?_; rintro _ _ ⟨rfl, nd, rfl⟩; refine ⟨_, rfl, ?_⟩; rw [beq_self_eq_true]; refine WR.nil ?_; exact Ends.one hKq rfl rfl (below_dn (Below.refl _ _) nd) )
            | (refine WR.gn ?_; refine WR.nil ?_; exact Ends.one hKq rfl rfl (Below.refl _ _))
        · rintro _ rfl _ rfl
          have c0 := cell_bel hbq c0; have c1 := cell_bel hbq c1; have c2 := cell_bel hbq c2; have c3 := cell_bel hbq c3; have c4 := cell_bel hbq c4; have d0 := cell_bel hbq d0; have d1 := cell_bel hbq d1; have d2 := cell_bel hbq d2; have d3 := cell_bel hbq d3; have d4 := cell_bel hbq d4
          first
            | (refine WR.guard_yes rfl rfl ?_; refine WR.s ?_; refine WR.nil ?_; exact Ends.one hKq rfl rfl (Below.refl _ _))
            | (refine WR.gn ?_; refine WR.nil ?_; exact Ends.one hKq rfl rfl (Below.refl _ _))
        · rintro _ rfl _ rfl
          have c0 := cell_bel hbq c0; have c1 := cell_bel hbq c1; have c2 := cell_bel hbq c2; have c3 := cell_bel hbq c3; have c4 := cell_bel hbq c4; have d0 := cell_bel hbq d0; have d1 := cell_bel hbq d1; have d2 := cell_bel hbq d2; have d3 := cell_bel hbq d3; have d4 := cell_bel hbq d4
          refine WR.s ?_; refine WR.nil ?_; exact Ends.one hKq rfl rfl (Below.refl _ _)
      intro wq hbq
      rintro _ rfl _ rfl _ rfl _ rfl _ rfl _ rfl _ rfl _ rfl _ rfl _ rfl _ rfl _ rfl _ rfl _ rfl _ rfl _ rfl _ rfl _ rfl _ rfl _ rfl _ rfl _ rfl _ rfl _ rfl _ rfl _ rfl _ rfl _ rfl _ rfl _ rfl _ rfl _ rfl _ rfl _ rfl _ rfl _ rfl _ rfl _ rfl _ rfl _ rfl _ rfl _ rfl _ rfl _ rfl _ rfl _ rfl _ rfl _ rfl _ rfl _ rfl _ rfl _ rfl _ rfl _ rfl _ rfl _ rfl _ rfl _ rfl _ rfl _ rfl _ rfl _ rfl _ rfl _ rfl
      refine Ends.id ?_
      have c0 := cell_bel hbq c0; have c1 := cell_bel hbq c1; have c2 := cell_bel hbq c2; have c3 := cell_bel hbq c3; have c4 := cell_bel hbq c4; have d0 := cell_bel hbq d0; have d1 := cell_bel hbq d1; have d2 := cell_bel hbq d2; have d3 := cell_bel hbq d3; have d4 := cell_bel hbq d4
      replace M := M.below hbq
      clear c0 c1 c2 c3 c4 d0 d1 d2 d3 d4 hbi hbj
      (repeat (first | (refine WR.id ?_; first | refine WR.nil ?_ | refine WR.s ?_ | refine WR.g ?_) | (refine W.id ?_; first | refine W.seq fun _ _ => ?_ | refine W.region ?_ | refine W.s ?_ | refine W.e ?_) | (refine Ends.id ?_; first | refine Ends.seq (by assumption) ?_ | refine Ends.s ?_)))
      exact Ends.round hK (i + 1) (by repeat (first | exact .nil | refine .cons rfl ?_)) ⟨by omega, M⟩ (by omega)
    · (repeat (first | (refine WR.id ?_; first | refine WR.nil ?_ | refine WR.s ?_ | refine WR.g ?_) | (refine W.id ?_; first | refine W.seq fun _ _ => ?_ | refine W.region ?_ | refine W.s ?_ | refine W.e ?_) | (refine Ends.id ?_; first | refine Ends.seq (by assumption) ?_ | refine Ends.s ?_)))
      exact Ends.ret1 rfl rfl ⟨rfl, M.pre 3 rfl⟩
end Go.Proofs.Ytjgobljclodpfaa
namespace Go.Proofs.Ytjgobljclodpfaa
open Go.ChangeShapes Go.WideShapes Go.ChangeAt Go.RowKit Go.Deep K L
set_option linter.unusedVariables false
set_option maxRecDepth 100000

theorem filesBack.sz_len : ∀ l : List OE, l.length ≤ (l.map R.OE.sz).sum
  | [] => Nat.le_refl _
  | x :: l => by
    have := filesBack.sz_len l
    simp only [List.map_cons, List.sum_cons, List.length_cons, R.OE.sz]
    omega

theorem filesBack.opened {H : Type} {enc : TypeId × Value → H} {W : World} {base : Nat} {v0 v1 v2 : Value} {d0 d1 d2 : DataW H} {p0 p1 p2 : List MemPlace}
    (o0 : Value.okWide Try.prog W .any base 24 v0) (h0 : DataW.Trod enc Try.prog W 0 (fun _ => true) true 24 v0 d0 p0)
    (o1 : Value.okWide Try.prog W .any base 25 v1) (h1 : DataW.Trod enc Try.prog W 0 (fun _ => true) true 25 v1 d1 p1)
    (o2 : Value.okWide Try.prog W .any base 3 v2) (h2 : DataW.Trod enc Try.prog W 0 (fun _ => true) true 3 v2 d2 p2) (hk : Rows.uptoBulkAll [d0, d1, d2] ≤ 1048576) :
    Calls Try.prog 9 #[v0, v1, v2] W fun e W' => e = .returned (.bool true) ∧ Below W.heap.size W W' := by
  simp only [Rows.uptoBulkAll] at hk
  obtain ⟨u, es, rfl, hF, hc⟩ := R.arg_files o0 h0 (by omega)
  obtain ⟨os, ho, hsum, hok, hkd⟩ := R.arg_ops o1 h1 (by omega)
  have hos : os.length ≤ 1048576 := Nat.le_trans (filesBack.sz_len os) hsum
  obtain ⟨n, rfl, hn⟩ := R.arg_int Try.underlying3 o2 h2
  exact filesBack_walk u v1 es os n W hF ho hc (fun o ho => ⟨hok o ho, hkd o ho⟩) hos (by simp [IntKind.min, IntKind.max, IntKind.signed, IntKind.bits] at hn; omega)

namespace filesBack
theorem contract (H : Type) (enc : TypeId × Value → H) (W : World) (base : Nat) (args : Array Value) (ds gs : List (DataW H)) (before : List MemPlace)
    (hval : ∀ (j : Nat) t v, Try.f9.params[j]? = some t → args[j]? = some v → Value.okWide Try.prog W .any base t v)
    (hW : DataW.Whole enc Try.prog Try.f9.params.toList Rows.filesBackSpec.vars false W args.toList ds gs before) (hk : Rows.uptoSmall H (ds ++ gs) = true) :
    Calls Try.prog 9 args W fun e W' => ∃ v, e = .returned v ∧ Rows.filesBackSpec.post enc Try.prog Try.f9 false true false false W args v W' := by
  have hW' := hW
  obtain ⟨p, q, hA0, hV, rfl, hfz, hnd⟩ := hW
  have hA : DataW.TrodAll enc Try.prog W 0 (fun _ => true) true Try.f9.params.toList args.toList ds p := hA0
  rw [Try.params9] at hA hval
  obtain ⟨v0, vs0, d0, ds0, p0, q0, hargs, rfl, rfl, h0, r0⟩ := trodAll_cons hA
  obtain ⟨v1, vs1, d1, ds1, p1, q1, rfl, rfl, rfl, h1, r1⟩ := trodAll_cons r0
  obtain ⟨v2, vs2, d2, ds2, p2, q2, rfl, rfl, rfl, h2, r2⟩ := trodAll_cons r1
  obtain ⟨rfl, rfl, rfl⟩ := trodAll_nil r2
  obtain rfl : args = #[v0, v1, v2] := by cases args; simp_all
  obtain ⟨rfl, rfl⟩ := trodVars_none hV
  have hk' : Rows.uptoBulkAll [d0, d1, d2] ≤ 1048576 := by have h := of_decide_eq_true hk; exact h
  refine (opened (hval 0 _ v0 rfl rfl) h0 (hval 1 _ v1 rfl rfl) h1 (hval 2 _ v2 rfl rfl) h2 hk').mono fun e W' ⟨he, hB⟩ => ?_
  subst he
  exact ⟨_, rfl, R.post_law Try.laidOut rfl hW' (fun _ => rfl) rfl Try.underlying4 (by rw [Try.params9]; intro t ht; simp only [List.mem_cons, List.not_mem_nil, or_false] at ht; rcases ht with rfl | rfl | rfl <;> exact ⟨by kernel_rfl, of_decide_eq_true (by kernel_rfl)⟩) hB⟩
set_option maxRecDepth 100000 in
theorem lifted (os : Os) (started : os.Started) (H : Type) (enc : TypeId × Value → H) (F : Stop.Interp) :
    ReturnsInHanded {} Try.checked os 9 .any ((Rows.OpenSpec.upto Rows.filesBackSpec).pre6 enc Try.prog Try.f9 Rows.filesBackUptoRow.domain false) (((Rows.OpenSpec.upto Rows.filesBackSpec).at F).post enc Try.prog Try.f9 false true false false) := by
  refine returnsInHanded_of_cond (C := Try.checked) (s := Rows.OpenSpec.upto Rows.filesBackSpec) (k := Rows.uptoSmall) rfl own started (by kernel_rfl) Try.func9
    (OpenSpec.witness (enc := enc) (C := Try.checked) (s := Rows.OpenSpec.upto Rows.filesBackSpec) (k := Rows.uptoSmall) rfl false ⟨#[], #[.agg #[.slice none 0 0], .slice none 0 0, .int .i64 0], []⟩ 8 (by kernel_rfl) (by kernel_rfl) (by kernel_rfl)
      (x := ([.agg [.nil], .nil, .lit (.int .i64 0)], [], [])) (by kernel_rfl) rfl (by kernel_rfl)) ?_
  intro W base args ds gs before hval hW _ hk _
  exact contract H enc W base args ds gs before hval hW hk
theorem over : Rows.filesBackUptoRow.holds Try.pinned (Rows.OpenSpec.upto Rows.filesBackSpec) :=
  OpenClaim.holds_of_cond 9 Try.f9 rfl rfl rfl rfl rfl rfl rfl ⟨rfl, rfl, rfl, rfl, rfl⟩ rfl rfl rfl rfl rfl (by kernel_rfl) Try.func9 (by kernel_rfl)
    (of_decide_eq_true (by kernel_rfl)) (by unfold Func.isWrapper; first | (rw [if_pos (by decide +kernel)]; kernel_rfl) | (rw [if_neg (by decide +kernel)]; exact ⟨rfl, rfl⟩))
    (fun os started H enc _ F => lifted os started H enc F)
theorem proved : Rows.FilesBackUptoSaid := over
end filesBack

end Go.Proofs.Ytjgobljclodpfaa
