/- Layer 5's operations as bytes: decoded. No condition beyond sizes. -/
import Derived.Test.YtjgobljclodpfaaFoA
import Derived.Test.YtjgobljclodpfaaFiW
namespace Go.Proofs.Ytjgobljclodpfaa
open Go.RowKit Go.Shelf K L E
set_option linter.unusedVariables false
set_option linter.unusedSimpArgs false

/-- An operation off a reader; several. -/
def rdOp (r : Rs) : Rs × FO :=
  if num (r.take 1).2 = 1 then ((rdBytes (rdName (r.take 1).1).1).1, ⟨1, (rdName (r.take 1).1).2, [], 0, (rdBytes (rdName (r.take 1).1).1).2⟩)
  else if num (r.take 1).2 = 2 then ((rdBytes ((rdName (r.take 1).1).1.take 2).1).1, ⟨2, (rdName (r.take 1).1).2, [], (num ((rdName (r.take 1).1).1.take 2).2 : Nat), (rdBytes ((rdName (r.take 1).1).1.take 2).1).2⟩)
  else if num (r.take 1).2 = 3 then ((rdName (rdName (r.take 1).1).1).1, ⟨3, (rdName (r.take 1).1).2, (rdName (rdName (r.take 1).1).1).2, 0, []⟩)
  else ((rdName (r.take 1).1).1, ⟨(num (r.take 1).2 : Nat), (rdName (r.take 1).1).2, [], 0, []⟩)
def rdOps : Nat → Rs → List FO → Rs × List FO
  | 0, r, l => (r, l)
  | k + 1, r, l => rdOps k (rdOp r).1 (l ++ [(rdOp r).2])
def decE (xs : List UInt8) (y : Rs × List FO) : Int × List FO := if y.1.err ≠ 0 ∨ (encO y.2).1 ≠ 0 ∨ ((encO y.2).2 == xs) = false then (151, []) else (0, y.2)
def decO (xs : List UInt8) : Int × List FO := if 64 < num ((⟨xs, 0, 0⟩ : Rs).take 2).2 then (151, []) else decE xs (rdOps (num ((⟨xs, 0, 0⟩ : Rs).take 2).2) ((⟨xs, 0, 0⟩ : Rs).take 2).1 [])
/-- Bytes of operations that nobody writes. -/
def zByO (os : List OE) : Ass := ⟨fun w F => (∀ e ∈ os, Bs w F e.2 e.1.bytes) ∧ ∀ b, F b → b < w.heap.size, fun h => h.2,
  fun h hs => ⟨fun e he => Sl.keep (h.1 e he) (by decide) fun b _ hF => hs.block b hF, fun b hb => Nat.lt_of_lt_of_le (h.2 b hb) hs.size⟩⟩
def FO.fine (o : FO) : Prop := o.ok ∧ -9223372036854775808 ≤ o.kind ∧ o.kind ≤ 9223372036854775807
theorem E.Mem.moreByO {w : World} {Os Zs : List Ass} {os : List OE} {x : FO} {v : Value} (M : Mem w Os (zSl 1 v x.bytes.length (bvs x.bytes) :: zByO os :: Zs)) : Mem w Os (zByO (os ++ [(x, v)]) :: Zs) :=
  ((M.part2 (a := zByO (os ++ [(x, v)])) 0 1 rfl rfl fun F E h1 h2 => ⟨fun b => F b ∨ E b, ⟨fun e he => by
    rcases List.mem_append.1 he with he | he
    · exact Sl.imp (h2.1 e he) (fun b _ hb => .inr hb) (by decide)
    · obtain rfl := List.mem_singleton.1 he
      exact Sl.imp h1.2.1 (fun b _ hb => .inl hb) (by decide), fun b hb => hb.elim (h1.2.2 b) (h2.2 b)⟩, fun b hb => hb⟩).subz (by intro z hz; simp only [List.mem_cons] at hz ⊢; rcases hz with rfl | hz; exact .inl rfl; exact .inr (.inr (.inr hz))))
theorem E.Mem.opsOf {w : World} {Os Zs : List Ass} {os : List OE} {v : Value} (M : Mem w Os Zs) (hr : ∃ base e, w.ownsRow base e 5 v os.length (os.flatMap OE.cells)) (k : Nat) (hz : Zs[k]? = some (zByO os)) : OpsF w (fun b => b < w.heap.size) v os := by
  obtain ⟨base, e, hr⟩ := hr
  obtain ⟨F, h, hb⟩ := M.z k hz
  exact ⟨(Sl.of_own hr).imp (fun b hb _ => hb) (by decide), fun e he => (h e he).lt⟩
theorem rdOp_fine (r : Rs) : (rdOp r).2.fine := by
  have h1 : num (r.take 1).2 < 256 := Rs.num_lt r 1
  have h2 := rdName_len (r.take 1).1
  have h3 := rdBytes_len (rdName (r.take 1).1).1
  have h4 := rdBytes_len ((rdName (r.take 1).1).1.take 2).1
  have h5 : num ((rdName (r.take 1).1).1.take 2).2 < 65536 := Rs.num_lt _ 2
  have h6 := rdName_len (rdName (r.take 1).1).1
  unfold rdOp
  (repeat' split) <;> simp only [FO.fine, FO.ok, List.length_nil] <;> omega
theorem nil_zsl {w : World} : (zSl 1 (.slice none 0 0) 0 (bvs [])).p w (fun _ => False) := ⟨by decide, Sl.nil _ _ _, fun _ h => h.elim⟩

set_option maxRecDepth 100000 in
set_option maxHeartbeats 8000000 in
theorem decOps_any (v : Value) (xs : List UInt8) (w : World) (F : Nat → Prop) (h : Bs w F v xs) (hl : xs.length ≤ 100000000) :
    Calls Try.prog 33 #[v] w fun e w' => ∃ v' os', e = .returned (.tuple #[v', .int .i64 (decO xs).1]) ∧ ops os' = (decO xs).2 ∧ OpsF w' (fun b => b < w'.heap.size) v' os' ∧ (∀ o ∈ os', o.1.fine) ∧ Below w.heap.size w w' := by
  obtain ⟨Ab, cb, rfl, l1, l2, -⟩ := h.open_
  have M : Mem w [] [zSl 1 (.slice Ab xs.length cb) xs.length (bvs xs), zPre w] := (Mem.start w).part 0 rfl fun G hG => ⟨fun b => b < w.heap.size, ⟨by decide, h.lt, fun b hb => hb⟩, fun b hb => (hG.1 b).2 hb⟩
  refine enter Try.func33 rfl Try.ntmps33 rfl rfl ?_
  (repeat (first | (refine WR.id ?_; first | refine WR.nil ?_ | refine WR.s ?_ | refine WR.g ?_) | (refine W.id ?_; first | refine W.seq fun _ _ => ?_ | refine W.region ?_ | refine W.s ?_ | refine W.e ?_) | (refine Ends.id ?_; first | refine Ends.seq (by assumption) ?_ | refine Ends.s ?_)))
  refine WR.call rfl rfl (read_M M h (by omega)) ?_
  rintro _ w2 ⟨b, rfl, M⟩
  refine ⟨_, rfl, ?_⟩
  (repeat (first | (refine WR.id ?_; first | refine WR.nil ?_ | refine WR.s ?_ | refine WR.g ?_) | (refine W.id ?_; first | refine W.seq fun _ _ => ?_ | refine W.region ?_ | refine W.s ?_ | refine W.e ?_) | (refine Ends.id ?_; first | refine Ends.seq (by assumption) ?_ | refine Ends.s ?_)))
  refine WR.call rfl rfl (u16_M M) ?_
  rintro _ w3 ⟨rfl, M, hu3⟩
  refine ⟨_, rfl, ?_⟩
  have hn : num ((⟨xs, 0, 0⟩ : Rs).take 2).2 < 65536 := Rs.num_lt ⟨xs, 0, 0⟩ 2
  obtain ⟨n, hnn⟩ : ∃ n, num ((⟨xs, 0, 0⟩ : Rs).take 2).2 = n := ⟨_, rfl⟩
  obtain ⟨r0, hr0⟩ : ∃ r, ((⟨xs, 0, 0⟩ : Rs).take 2).1 = r := ⟨_, rfl⟩
  have hD : decO xs = if 64 < n then (151, []) else decE xs (rdOps n r0 []) := by unfold decO; rw [hnn, hr0]
  rw [hnn] at hn ⊢
  rw [hr0] at M
  have hwn := wrap_i64 (i := (n : Int)) (by omega) (by omega)
  by_cases h64 : 64 < n
  · rw [if_pos h64] at hD
    (repeat (first | (refine WR.id ?_; first | refine WR.nil ?_ | refine WR.s ?_ | refine WR.g ?_) | (refine W.id ?_; first | refine W.seq fun _ _ => ?_ | refine W.region ?_ | refine W.s ?_ | refine W.e ?_) | (refine Ends.id ?_; first | refine Ends.seq (by assumption) ?_ | refine Ends.s ?_)))
    exact Ends.ret2 rfl rfl rfl ⟨_, [], by rw [hD], by rw [hD]; rfl, ⟨Sl.nil _ _ _, fun e he => (by cases he)⟩, fun o ho => (by cases ho), M.pre 1 rfl⟩
  rw [if_neg h64] at hD
  (repeat (first | (refine WR.id ?_; first | refine WR.nil ?_ | refine WR.s ?_ | refine WR.g ?_) | (refine W.id ?_; first | refine W.seq fun _ _ => ?_ | refine W.region ?_ | refine W.s ?_ | refine W.e ?_) | (refine Ends.id ?_; first | refine Ends.seq (by assumption) ?_ | refine Ends.s ?_)))
  rw [hwn]
  replace M : Mem w3 [aRd b r0, aRow 37 5 (.slice none 0 0) 0 []] [zByO [], zSl 1 (.slice Ab xs.length cb) xs.length (bvs xs), zPre w] :=
    ((M.new (Below.refl _ _) (a := aRow 37 5 (.slice none 0 0) 0 []) (F := fun _ => False) ⟨fun b => ⟨fun h => h.elim, fun h => (by cases h)⟩, World.ownsRow_nil _ _ _ _⟩ fun _ h => h.elim).swap).part (a := zByO []) 0 rfl fun F hF => ⟨fun _ => False, ⟨fun e he => (by cases he), fun _ h => h.elim⟩, fun _ h => h.elim⟩
  refine W.loop (X := Nat × Rs × List OE × Option Addr × Nat) (fun x => [(0, .slice Ab xs.length cb), (4, .pointer (some ⟨b, 0, none⟩)), (6, .slice x.2.2.2.1 x.2.2.1.length x.2.2.2.2), (17, .int .i64 (n : Nat)), (18, .int .i64 (x.1 : Nat))])
    (fun x wr => x.1 ≤ n ∧ x.2.2.1.length = x.1 ∧ (∀ o ∈ x.2.2.1, o.1.fine) ∧ decO xs = decE xs (rdOps (n - x.1) x.2.1 (ops x.2.2.1)) ∧ Mem wr [aRd b x.2.1, aRow 37 5 (.slice x.2.2.2.1 x.2.2.1.length x.2.2.2.2) x.2.2.1.length (x.2.2.1.flatMap OE.cells)] [zByO x.2.2.1, zSl 1 (.slice Ab xs.length cb) xs.length (bvs xs), zPre w]) (fun x => n - x.1)
    (0, r0, [], none, 0) (by repeat (first | exact .nil | refine .cons rfl ?_)) ⟨Nat.zero_le _, rfl, fun o ho => (by cases ho), hD, M⟩ ?_
  clear M hD
  rintro ⟨i, r, os, Ar, cr⟩ wr ⟨hi, hlen, hfine, hD, M⟩ K hK
  dsimp only at hi hlen hfine hD M
  dsimp only
  (repeat (first | (refine WR.id ?_; first | refine WR.nil ?_ | refine WR.s ?_ | refine WR.g ?_) | (refine W.id ?_; first | refine W.seq fun _ _ => ?_ | refine W.region ?_ | refine W.s ?_ | refine W.e ?_) | (refine Ends.id ?_; first | refine Ends.seq (by assumption) ?_ | refine Ends.s ?_)))
  refine W.condP (by rfl) (fun hlt => ?_) (fun hlt => ?_)
  · rw [show n - i = (n - (i + 1)) + 1 from by omega] at hD
    replace hD : decO xs = decE xs (rdOps (n - (i + 1)) (rdOp r).1 (ops os ++ [(rdOp r).2])) := hD
    have hof := rdOp_fine r
    have hk1 : num (r.take 1).2 < 256 := Rs.num_lt r 1
    (repeat (first | (refine WR.id ?_; first | refine WR.nil ?_ | refine WR.s ?_ | refine WR.g ?_) | (refine W.id ?_; first | refine W.seq fun _ _ => ?_ | refine W.region ?_ | refine W.s ?_ | refine W.e ?_) | (refine Ends.id ?_; first | refine Ends.seq (by assumption) ?_ | refine Ends.s ?_)))
    refine WR.call rfl rfl (u8_M M) ?_
    rintro _ w4 ⟨rfl, M, -⟩
    refine ⟨_, rfl, ?_⟩
    obtain ⟨k, hk⟩ : ∃ k, num (r.take 1).2 = k := ⟨_, rfl⟩
    have hRD : rdOp r = if k = 1 then ((rdBytes (rdName (r.take 1).1).1).1, ⟨1, (rdName (r.take 1).1).2, [], 0, (rdBytes (rdName (r.take 1).1).1).2⟩)
      else if k = 2 then ((rdBytes ((rdName (r.take 1).1).1.take 2).1).1, ⟨2, (rdName (r.take 1).1).2, [], (num ((rdName (r.take 1).1).1.take 2).2 : Nat), (rdBytes ((rdName (r.take 1).1).1.take 2).1).2⟩)
      else if k = 3 then ((rdName (rdName (r.take 1).1).1).1, ⟨3, (rdName (r.take 1).1).2, (rdName (rdName (r.take 1).1).1).2, 0, []⟩)
      else ((rdName (r.take 1).1).1, ⟨(k : Nat), (rdName (r.take 1).1).2, [], 0, []⟩) := by unfold rdOp; rw [hk]
    rw [hk] at hk1 ⊢
    generalize (r.take 1).1 = r1 at *
    (repeat (first | (refine WR.id ?_; first | refine WR.nil ?_ | refine WR.s ?_ | refine WR.g ?_) | (refine W.id ?_; first | refine W.seq fun _ _ => ?_ | refine W.region ?_ | refine W.s ?_ | refine W.e ?_) | (refine Ends.id ?_; first | refine Ends.seq (by assumption) ?_ | refine Ends.s ?_)))
    rw [wrap_i64 (by omega) (by omega)]
    refine WR.call rfl rfl (getName_M M) ?_
    rintro _ w5 ⟨rfl, M, -⟩
    refine ⟨_, rfl, ?_⟩
    refine WR.buildL (vs := [(0, .int .i64 (k : Nat)), (1, .string ⟨(rdName r1).2.toArray⟩)]) (by rfl) (by rfl) (build_op2 _ _ _) ?_
    refine WR.allocStore (c := #[.int .i64 (k : Nat), .string ⟨(rdName r1).2.toArray⟩, .string ⟨#[]⟩, .int .i64 0, .slice none 0 0]) (by rfl) (by rfl) rfl (by rfl) (by rfl) (all_oneCell_toArray op_one) (by rfl) fun w6 hb6 hx6 hs6 => ?_
    replace M := M.newBox (cs := [.int .i64 (k : Nat), .string ⟨(rdName r1).2.toArray⟩, .string ⟨#[]⟩, .int .i64 0, .slice none 0 0]) hb6 hx6
    generalize w5.heap.size = b7 at M ⊢
    clear hx6
    have hB := M.box
    rcases (by omega : k = 1 ∨ k = 2 ∨ k = 3 ∨ (k ≠ 1 ∧ k ≠ 2 ∧ k ≠ 3)) with rfl | rfl | rfl | ⟨n1, n2, n3⟩
    · rw [if_pos rfl] at hRD
      (repeat (first | (refine WR.id ?_; first | refine WR.nil ?_ | refine WR.s ?_ | refine WR.g ?_) | (refine W.id ?_; first | refine W.seq fun _ _ => ?_ | refine W.region ?_ | refine W.s ?_ | refine W.e ?_) | (refine Ends.id ?_; first | refine Ends.seq (by assumption) ?_ | refine Ends.s ?_)))
      clear hB
      refine WR.call rfl rfl (getBytes_M M.swap) ?_
      rintro _ w7 ⟨v7, rfl, M, -⟩
      refine ⟨_, rfl, ?_⟩
      obtain ⟨_, hbs⟩ := M.bs
      obtain ⟨A7, c7, rfl, -⟩ := hbs.open_
      replace M := M.freeze.swap
      (repeat (first | (refine WR.id ?_; first | refine WR.nil ?_ | refine WR.s ?_ | refine WR.g ?_) | (refine W.id ?_; first | refine W.seq fun _ _ => ?_ | refine W.region ?_ | refine W.s ?_ | refine W.e ?_) | (refine Ends.id ?_; first | refine Ends.seq (by assumption) ?_ | refine Ends.s ?_)))
      refine WR.storeBox M.box (by rfl) (by rfl) rfl rfl (by simp) fun w84 hu84 hx84 hs84 => ?_
      replace M := M.setBox hu84 hx84
      clear hx84
      have hB := M.box
      (repeat (first | (refine WR.id ?_; first | refine WR.nil ?_ | refine WR.s ?_ | refine WR.g ?_) | (refine W.id ?_; first | refine W.seq fun _ _ => ?_ | refine W.region ?_ | refine W.s ?_ | refine W.e ?_) | (refine Ends.id ?_; first | refine Ends.seq (by assumption) ?_ | refine Ends.s ?_)))
      refine WR.row1 Try.elOp (by decide) (by rfl) (by rfl) (by rfl) fun wa hba hsa => ?_
      replace M := (M.below hba).drop
      clear hB
      (repeat (first | (refine WR.id ?_; first | refine WR.nil ?_ | refine WR.s ?_ | refine WR.g ?_) | (refine W.id ?_; first | refine W.seq fun _ _ => ?_ | refine W.region ?_ | refine W.s ?_ | refine W.e ?_) | (refine Ends.id ?_; first | refine Ends.seq (by assumption) ?_ | refine Ends.s ?_)))
      refine WR.app Try.elOp (by rfl) (by rfl) (by rfl) M.swap.row hsa op_one (by omega) (by decide) (Nat.zero_le _) fun v' wc hoc huc hvc => ?_
      replace M := (M.swap.setRow huc hoc hvc).swap
      obtain ⟨-, A4, c4, rfl, -⟩ := Sl.of_own hoc
      have e1 : (os ++ [((⟨1, (rdName r1).2, [], 0, (rdBytes (rdName r1).1).2⟩ : FO), (.slice A7 (rdBytes (rdName r1).1).2.length c7 : Value))]).length = os.length + 1 := by simp
      have e2 : (os ++ [((⟨1, (rdName r1).2, [], 0, (rdBytes (rdName r1).1).2⟩ : FO), (.slice A7 (rdBytes (rdName r1).1).2.length c7 : Value))]).flatMap OE.cells = os.flatMap OE.cells ++ OE.cells ((⟨1, (rdName r1).2, [], 0, (rdBytes (rdName r1).1).2⟩ : FO), (.slice A7 (rdBytes (rdName r1).1).2.length c7 : Value)) := by rw [List.flatMap_append]; simp
      have e3 : ops (os ++ [((⟨1, (rdName r1).2, [], 0, (rdBytes (rdName r1).1).2⟩ : FO), (.slice A7 (rdBytes (rdName r1).1).2.length c7 : Value))]) = ops os ++ [(rdOp r).2] := by rw [hRD]; simp [ops]
      have hfine2 : ∀ o ∈ os ++ [((⟨1, (rdName r1).2, [], 0, (rdBytes (rdName r1).1).2⟩ : FO), (.slice A7 (rdBytes (rdName r1).1).2.length c7 : Value))], o.1.fine := fun o ho => (List.mem_append.1 ho).elim (hfine o) fun h => by
        obtain rfl := List.mem_singleton.1 h
        rw [hRD] at hof
        exact hof
      clear hsa hoc
      (repeat (first | (refine WR.id ?_; first | refine WR.nil ?_ | refine WR.s ?_ | refine WR.g ?_) | (refine W.id ?_; first | refine W.seq fun _ _ => ?_ | refine W.region ?_ | refine W.s ?_ | refine W.e ?_) | (refine Ends.id ?_; first | refine Ends.seq (by assumption) ?_ | refine Ends.s ?_)))
      rw [← e1]
      exact Ends.round hK (i + 1, (rdBytes (rdName r1).1).1, os ++ [((⟨1, (rdName r1).2, [], 0, (rdBytes (rdName r1).1).2⟩ : FO), (.slice A7 (rdBytes (rdName r1).1).2.length c7 : Value))], A4, c4) (by repeat (first | exact .nil | refine .cons rfl ?_)) ⟨by dsimp only; omega, by dsimp only; rw [e1]; omega, hfine2, by dsimp only; rw [e3, show (rdBytes (rdName r1).1).1 = (rdOp r).1 from by rw [hRD]]; exact hD, by
        dsimp only
        rw [e1, e2]
        exact E.Mem.moreByO M⟩ (by dsimp only; omega)
    · rw [if_neg (by decide), if_pos rfl] at hRD
      have hat : num ((rdName r1).1.take 2).2 < 65536 := Rs.num_lt _ 2
      have hwa := wrap_i64 (i := ((num ((rdName r1).1.take 2).2 : Nat) : Int)) (by omega) (by omega)
      (repeat (first | (refine WR.id ?_; first | refine WR.nil ?_ | refine WR.s ?_ | refine WR.g ?_) | (refine W.id ?_; first | refine W.seq fun _ _ => ?_ | refine W.region ?_ | refine W.s ?_ | refine W.e ?_) | (refine Ends.id ?_; first | refine Ends.seq (by assumption) ?_ | refine Ends.s ?_)))
      clear hB
      refine WR.call rfl rfl (u16_M M.swap) ?_
      rintro _ w7 ⟨rfl, M, -⟩
      refine ⟨_, rfl, ?_⟩
      (repeat (first | (refine WR.id ?_; first | refine WR.nil ?_ | refine WR.s ?_ | refine WR.g ?_) | (refine W.id ?_; first | refine W.seq fun _ _ => ?_ | refine W.region ?_ | refine W.s ?_ | refine W.e ?_) | (refine Ends.id ?_; first | refine Ends.seq (by assumption) ?_ | refine Ends.s ?_)))
      rw [hwa]
      refine WR.call rfl rfl (getBytes_M M) ?_
      rintro _ w8 ⟨v7, rfl, M, -⟩
      refine ⟨_, rfl, ?_⟩
      obtain ⟨_, hbs⟩ := M.bs
      obtain ⟨A7, c7, rfl, -⟩ := hbs.open_
      replace M := M.freeze.swap
      (repeat (first | (refine WR.id ?_; first | refine WR.nil ?_ | refine WR.s ?_ | refine WR.g ?_) | (refine W.id ?_; first | refine W.seq fun _ _ => ?_ | refine W.region ?_ | refine W.s ?_ | refine W.e ?_) | (refine Ends.id ?_; first | refine Ends.seq (by assumption) ?_ | refine Ends.s ?_)))
      refine WR.storeBox M.box (by rfl) (by rfl) rfl rfl (by simp) fun w83 hu83 hx83 hs83 => ?_
      replace M := M.setBox hu83 hx83
      clear hx83
      (repeat (first | (refine WR.id ?_; first | refine WR.nil ?_ | refine WR.s ?_ | refine WR.g ?_) | (refine W.id ?_; first | refine W.seq fun _ _ => ?_ | refine W.region ?_ | refine W.s ?_ | refine W.e ?_) | (refine Ends.id ?_; first | refine Ends.seq (by assumption) ?_ | refine Ends.s ?_)))
      refine WR.storeBox M.box (by rfl) (by rfl) rfl rfl (by simp) fun w84 hu84 hx84 hs84 => ?_
      replace M := M.setBox hu84 hx84
      clear hx84
      have hB := M.box
      (repeat (first | (refine WR.id ?_; first | refine WR.nil ?_ | refine WR.s ?_ | refine WR.g ?_) | (refine W.id ?_; first | refine W.seq fun _ _ => ?_ | refine W.region ?_ | refine W.s ?_ | refine W.e ?_) | (refine Ends.id ?_; first | refine Ends.seq (by assumption) ?_ | refine Ends.s ?_)))
      refine WR.row1 Try.elOp (by decide) (by rfl) (by rfl) (by rfl) fun wa hba hsa => ?_
      replace M := (M.below hba).drop
      clear hB
      (repeat (first | (refine WR.id ?_; first | refine WR.nil ?_ | refine WR.s ?_ | refine WR.g ?_) | (refine W.id ?_; first | refine W.seq fun _ _ => ?_ | refine W.region ?_ | refine W.s ?_ | refine W.e ?_) | (refine Ends.id ?_; first | refine Ends.seq (by assumption) ?_ | refine Ends.s ?_)))
      refine WR.app Try.elOp (by rfl) (by rfl) (by rfl) M.swap.row hsa op_one (by omega) (by decide) (Nat.zero_le _) fun v' wc hoc huc hvc => ?_
      replace M := (M.swap.setRow huc hoc hvc).swap
      obtain ⟨-, A4, c4, rfl, -⟩ := Sl.of_own hoc
      have e1 : (os ++ [((⟨2, (rdName r1).2, [], ((num ((rdName r1).1.take 2).2 : Nat) : Int), (rdBytes ((rdName r1).1.take 2).1).2⟩ : FO), (.slice A7 (rdBytes ((rdName r1).1.take 2).1).2.length c7 : Value))]).length = os.length + 1 := by simp
      have e2 : (os ++ [((⟨2, (rdName r1).2, [], ((num ((rdName r1).1.take 2).2 : Nat) : Int), (rdBytes ((rdName r1).1.take 2).1).2⟩ : FO), (.slice A7 (rdBytes ((rdName r1).1.take 2).1).2.length c7 : Value))]).flatMap OE.cells = os.flatMap OE.cells ++ OE.cells ((⟨2, (rdName r1).2, [], ((num ((rdName r1).1.take 2).2 : Nat) : Int), (rdBytes ((rdName r1).1.take 2).1).2⟩ : FO), (.slice A7 (rdBytes ((rdName r1).1.take 2).1).2.length c7 : Value)) := by rw [List.flatMap_append]; simp
      have e3 : ops (os ++ [((⟨2, (rdName r1).2, [], ((num ((rdName r1).1.take 2).2 : Nat) : Int), (rdBytes ((rdName r1).1.take 2).1).2⟩ : FO), (.slice A7 (rdBytes ((rdName r1).1.take 2).1).2.length c7 : Value))]) = ops os ++ [(rdOp r).2] := by rw [hRD]; simp [ops]
      have hfine2 : ∀ o ∈ os ++ [((⟨2, (rdName r1).2, [], ((num ((rdName r1).1.take 2).2 : Nat) : Int), (rdBytes ((rdName r1).1.take 2).1).2⟩ : FO), (.slice A7 (rdBytes ((rdName r1).1.take 2).1).2.length c7 : Value))], o.1.fine := fun o ho => (List.mem_append.1 ho).elim (hfine o) fun h => by
        obtain rfl := List.mem_singleton.1 h
        rw [hRD] at hof
        exact hof
      clear hsa hoc
      (repeat (first | (refine WR.id ?_; first | refine WR.nil ?_ | refine WR.s ?_ | refine WR.g ?_) | (refine W.id ?_; first | refine W.seq fun _ _ => ?_ | refine W.region ?_ | refine W.s ?_ | refine W.e ?_) | (refine Ends.id ?_; first | refine Ends.seq (by assumption) ?_ | refine Ends.s ?_)))
      rw [← e1]
      exact Ends.round hK (i + 1, (rdBytes ((rdName r1).1.take 2).1).1, os ++ [((⟨2, (rdName r1).2, [], ((num ((rdName r1).1.take 2).2 : Nat) : Int), (rdBytes ((rdName r1).1.take 2).1).2⟩ : FO), (.slice A7 (rdBytes ((rdName r1).1.take 2).1).2.length c7 : Value))], A4, c4) (by repeat (first | exact .nil | refine .cons rfl ?_)) ⟨by dsimp only; omega, by dsimp only; rw [e1]; omega, hfine2, by dsimp only; rw [e3, show (rdBytes ((rdName r1).1.take 2).1).1 = (rdOp r).1 from by rw [hRD]]; exact hD, by
        dsimp only
        rw [e1, e2]
        exact E.Mem.moreByO M⟩ (by dsimp only; omega)
    · rw [if_neg (by decide), if_neg (by decide), if_pos rfl] at hRD
      (repeat (first | (refine WR.id ?_; first | refine WR.nil ?_ | refine WR.s ?_ | refine WR.g ?_) | (refine W.id ?_; first | refine W.seq fun _ _ => ?_ | refine W.region ?_ | refine W.s ?_ | refine W.e ?_) | (refine Ends.id ?_; first | refine Ends.seq (by assumption) ?_ | refine Ends.s ?_)))
      clear hB
      refine WR.call rfl rfl (getName_M M.swap) ?_
      rintro _ w7 ⟨rfl, M, -⟩
      refine ⟨_, rfl, ?_⟩
      replace M := M.swap
      (repeat (first | (refine WR.id ?_; first | refine WR.nil ?_ | refine WR.s ?_ | refine WR.g ?_) | (refine W.id ?_; first | refine W.seq fun _ _ => ?_ | refine W.region ?_ | refine W.s ?_ | refine W.e ?_) | (refine Ends.id ?_; first | refine Ends.seq (by assumption) ?_ | refine Ends.s ?_)))
      refine WR.storeBox M.box (by rfl) (by rfl) rfl rfl (by simp) fun w82 hu82 hx82 hs82 => ?_
      replace M := M.setBox hu82 hx82
      clear hx82
      replace M := (M.new (Below.refl _ _) nil_zsl fun _ h => h.elim).freeze
      have hB := M.box
      (repeat (first | (refine WR.id ?_; first | refine WR.nil ?_ | refine WR.s ?_ | refine WR.g ?_) | (refine W.id ?_; first | refine W.seq fun _ _ => ?_ | refine W.region ?_ | refine W.s ?_ | refine W.e ?_) | (refine Ends.id ?_; first | refine Ends.seq (by assumption) ?_ | refine Ends.s ?_)))
      refine WR.row1 Try.elOp (by decide) (by rfl) (by rfl) (by rfl) fun wa hba hsa => ?_
      replace M := (M.below hba).drop
      clear hB
      (repeat (first | (refine WR.id ?_; first | refine WR.nil ?_ | refine WR.s ?_ | refine WR.g ?_) | (refine W.id ?_; first | refine W.seq fun _ _ => ?_ | refine W.region ?_ | refine W.s ?_ | refine W.e ?_) | (refine Ends.id ?_; first | refine Ends.seq (by assumption) ?_ | refine Ends.s ?_)))
      refine WR.app Try.elOp (by rfl) (by rfl) (by rfl) M.swap.row hsa op_one (by omega) (by decide) (Nat.zero_le _) fun v' wc hoc huc hvc => ?_
      replace M := (M.swap.setRow huc hoc hvc).swap
      obtain ⟨-, A4, c4, rfl, -⟩ := Sl.of_own hoc
      have e1 : (os ++ [((⟨3, (rdName r1).2, (rdName (rdName r1).1).2, 0, []⟩ : FO), (.slice none 0 0 : Value))]).length = os.length + 1 := by simp
      have e2 : (os ++ [((⟨3, (rdName r1).2, (rdName (rdName r1).1).2, 0, []⟩ : FO), (.slice none 0 0 : Value))]).flatMap OE.cells = os.flatMap OE.cells ++ OE.cells ((⟨3, (rdName r1).2, (rdName (rdName r1).1).2, 0, []⟩ : FO), (.slice none 0 0 : Value)) := by rw [List.flatMap_append]; simp
      have e3 : ops (os ++ [((⟨3, (rdName r1).2, (rdName (rdName r1).1).2, 0, []⟩ : FO), (.slice none 0 0 : Value))]) = ops os ++ [(rdOp r).2] := by rw [hRD]; simp [ops]
      have hfine2 : ∀ o ∈ os ++ [((⟨3, (rdName r1).2, (rdName (rdName r1).1).2, 0, []⟩ : FO), (.slice none 0 0 : Value))], o.1.fine := fun o ho => (List.mem_append.1 ho).elim (hfine o) fun h => by
        obtain rfl := List.mem_singleton.1 h
        rw [hRD] at hof
        exact hof
      clear hsa hoc
      (repeat (first | (refine WR.id ?_; first | refine WR.nil ?_ | refine WR.s ?_ | refine WR.g ?_) | (refine W.id ?_; first | refine W.seq fun _ _ => ?_ | refine W.region ?_ | refine W.s ?_ | refine W.e ?_) | (refine Ends.id ?_; first | refine Ends.seq (by assumption) ?_ | refine Ends.s ?_)))
      rw [← e1]
      exact Ends.round hK (i + 1, (rdName (rdName r1).1).1, os ++ [((⟨3, (rdName r1).2, (rdName (rdName r1).1).2, 0, []⟩ : FO), (.slice none 0 0 : Value))], A4, c4) (by repeat (first | exact .nil | refine .cons rfl ?_)) ⟨by dsimp only; omega, by dsimp only; rw [e1]; omega, hfine2, by dsimp only; rw [e3, show (rdName (rdName r1).1).1 = (rdOp r).1 from by rw [hRD]]; exact hD, by
        dsimp only
        rw [e1, e2]
        exact E.Mem.moreByO M⟩ (by dsimp only; omega)
    · rw [if_neg n1, if_neg n2, if_neg n3] at hRD
      have n1' : ¬ (k : Int) = 1 := by omega
      have n2' : ¬ (k : Int) = 2 := by omega
      have n3' : ¬ (k : Int) = 3 := by omega
      (repeat (first | (refine WR.id ?_; first | refine WR.nil ?_ | refine WR.s ?_ | refine WR.g ?_) | (refine W.id ?_; first | refine W.seq fun _ _ => ?_ | refine W.region ?_ | refine W.s ?_ | refine W.e ?_) | (refine Ends.id ?_; first | refine Ends.seq (by assumption) ?_ | refine Ends.s ?_)))
      clear hB
      replace M := (M.new (Below.refl _ _) nil_zsl fun _ h => h.elim).freeze
      have hB := M.box
      (repeat (first | (refine WR.id ?_; first | refine WR.nil ?_ | refine WR.s ?_ | refine WR.g ?_) | (refine W.id ?_; first | refine W.seq fun _ _ => ?_ | refine W.region ?_ | refine W.s ?_ | refine W.e ?_) | (refine Ends.id ?_; first | refine Ends.seq (by assumption) ?_ | refine Ends.s ?_)))
      refine WR.row1 Try.elOp (by decide) (by rfl) (by rfl) (by rfl) fun wa hba hsa => ?_
      replace M := (M.below hba).drop
      clear hB
      (repeat (first | (refine WR.id ?_; first | refine WR.nil ?_ | refine WR.s ?_ | refine WR.g ?_) | (refine W.id ?_; first | refine W.seq fun _ _ => ?_ | refine W.region ?_ | refine W.s ?_ | refine W.e ?_) | (refine Ends.id ?_; first | refine Ends.seq (by assumption) ?_ | refine Ends.s ?_)))
      refine WR.app Try.elOp (by rfl) (by rfl) (by rfl) M.swap.row hsa op_one (by omega) (by decide) (Nat.zero_le _) fun v' wc hoc huc hvc => ?_
      replace M := (M.swap.setRow huc hoc hvc).swap
      obtain ⟨-, A4, c4, rfl, -⟩ := Sl.of_own hoc
      have e1 : (os ++ [((⟨(k : Nat), (rdName r1).2, [], 0, []⟩ : FO), (.slice none 0 0 : Value))]).length = os.length + 1 := by simp
      have e2 : (os ++ [((⟨(k : Nat), (rdName r1).2, [], 0, []⟩ : FO), (.slice none 0 0 : Value))]).flatMap OE.cells = os.flatMap OE.cells ++ OE.cells ((⟨(k : Nat), (rdName r1).2, [], 0, []⟩ : FO), (.slice none 0 0 : Value)) := by rw [List.flatMap_append]; simp
      have e3 : ops (os ++ [((⟨(k : Nat), (rdName r1).2, [], 0, []⟩ : FO), (.slice none 0 0 : Value))]) = ops os ++ [(rdOp r).2] := by rw [hRD]; simp [ops]
      have hfine2 : ∀ o ∈ os ++ [((⟨(k : Nat), (rdName r1).2, [], 0, []⟩ : FO), (.slice none 0 0 : Value))], o.1.fine := fun o ho => (List.mem_append.1 ho).elim (hfine o) fun h => by
        obtain rfl := List.mem_singleton.1 h
        rw [hRD] at hof
        exact hof
      clear hsa hoc
      (repeat (first | (refine WR.id ?_; first | refine WR.nil ?_ | refine WR.s ?_ | refine WR.g ?_) | (refine W.id ?_; first | refine W.seq fun _ _ => ?_ | refine W.region ?_ | refine W.s ?_ | refine W.e ?_) | (refine Ends.id ?_; first | refine Ends.seq (by assumption) ?_ | refine Ends.s ?_)))
      rw [← e1]
      exact Ends.round hK (i + 1, (rdName r1).1, os ++ [((⟨(k : Nat), (rdName r1).2, [], 0, []⟩ : FO), (.slice none 0 0 : Value))], A4, c4) (by repeat (first | exact .nil | refine .cons rfl ?_)) ⟨by dsimp only; omega, by dsimp only; rw [e1]; omega, hfine2, by dsimp only; rw [e3, show (rdName r1).1 = (rdOp r).1 from by rw [hRD]]; exact hD, by
        dsimp only
        rw [e1, e2]
        exact E.Mem.moreByO M⟩ (by dsimp only; omega)
  · rw [show n - i = 0 from by omega] at hD
    replace hD : decO xs = decE xs (r, ops os) := hD
    have hof := M.opsOf ⟨_, _, M.swap.row⟩ 0 rfl
    (repeat (first | (refine WR.id ?_; first | refine WR.nil ?_ | refine WR.s ?_ | refine WR.g ?_) | (refine W.id ?_; first | refine W.seq fun _ _ => ?_ | refine W.region ?_ | refine W.s ?_ | refine W.e ?_) | (refine Ends.id ?_; first | refine Ends.seq (by assumption) ?_ | refine Ends.s ?_)))
    refine WR.call rfl rfl (encOps_any _ _ _ _ hof fun o ho => hfine o ho) ?_
    rintro _ w4 ⟨v4, rfl, hf4⟩
    refine ⟨_, rfl, ?_⟩
    replace M := (M.add hf4)
    obtain ⟨A4, c4, rfl, -⟩ := M.br.bs.open_
    have hbs4 := M.br.bs
    replace M := M.freeze
    obtain ⟨_, hxb⟩ := M.zbs 2 rfl
    (repeat (first | (refine WR.id ?_; first | refine WR.nil ?_ | refine WR.s ?_ | refine WR.g ?_) | (refine W.id ?_; first | refine W.seq fun _ _ => ?_ | refine W.region ?_ | refine W.s ?_ | refine W.e ?_) | (refine Ends.id ?_; first | refine Ends.seq (by assumption) ?_ | refine Ends.s ?_)))
    refine WR.call rfl rfl (err_M M) ?_
    rintro _ w5 ⟨rfl, rfl⟩
    refine ⟨_, rfl, ?_⟩
    have hbad : ∀ {w6 : World}, Below w.heap.size w w6 → (r.err ≠ 0 ∨ (encO (ops os)).1 ≠ 0 ∨ ((encO (ops os)).2 == xs) = false) → ∃ v' os', Ending.returned (.tuple #[.slice none 0 0, .int .i64 151]) = .returned (.tuple #[v', .int .i64 (decO xs).1]) ∧ ops os' = (decO xs).2 ∧ OpsF w6 (fun b => b < w6.heap.size) v' os' ∧ (∀ o ∈ os', o.1.fine) ∧ Below w.heap.size w w6 := fun hb hx => by
      have hD2 : decO xs = (151, []) := by rw [hD]; unfold decE; rw [if_pos hx]
      exact ⟨_, [], by rw [hD2], by rw [hD2]; rfl, ⟨Sl.nil _ _ _, fun e he => (by cases he)⟩, fun o ho => (by cases ho), hb⟩
    by_cases he : r.err = 0
    case neg =>
      (repeat (first | (refine WR.id ?_; first | refine WR.nil ?_ | refine WR.s ?_ | refine WR.g ?_) | (refine W.id ?_; first | refine W.seq fun _ _ => ?_ | refine W.region ?_ | refine W.s ?_ | refine W.e ?_) | (refine Ends.id ?_; first | refine Ends.seq (by assumption) ?_ | refine Ends.s ?_)))
      exact Ends.ret2 rfl rfl rfl (hbad (M.pre 3 rfl) (.inl he))
    by_cases h0 : (encO (ops os)).1 = 0
    case neg =>
      (repeat (first | (refine WR.id ?_; first | refine WR.nil ?_ | refine WR.s ?_ | refine WR.g ?_) | (refine W.id ?_; first | refine W.seq fun _ _ => ?_ | refine W.region ?_ | refine W.s ?_ | refine W.e ?_) | (refine Ends.id ?_; first | refine Ends.seq (by assumption) ?_ | refine Ends.s ?_)))
      exact Ends.ret2 rfl rfl rfl (hbad (M.pre 3 rfl) (.inr (.inl h0)))
    (repeat (first | (refine WR.id ?_; first | refine WR.nil ?_ | refine WR.s ?_ | refine WR.g ?_) | (refine W.id ?_; first | refine W.seq fun _ _ => ?_ | refine W.region ?_ | refine W.s ?_ | refine W.e ?_) | (refine Ends.id ?_; first | refine Ends.seq (by assumption) ?_ | refine Ends.s ?_)))
    refine WR.call rfl rfl (eq_any _ _ _ _ _ _ _ hbs4 hxb) ?_
    rintro _ _ ⟨rfl, nd, rfl⟩
    refine ⟨_, rfl, ?_⟩
    replace M := M.below (below_dn (Below.refl _ _) nd)
    by_cases hq : ((encO (ops os)).2 == xs) = true
    · rw [hq]
      have hD2 : decO xs = (0, ops os) := by rw [hD]; unfold decE; rw [if_neg (by rw [hq]; simp [he, h0])]
      (repeat (first | (refine WR.id ?_; first | refine WR.nil ?_ | refine WR.s ?_ | refine WR.g ?_) | (refine W.id ?_; first | refine W.seq fun _ _ => ?_ | refine W.region ?_ | refine W.s ?_ | refine W.e ?_) | (refine Ends.id ?_; first | refine Ends.seq (by assumption) ?_ | refine Ends.s ?_)))
      exact Ends.ret2 rfl rfl rfl ⟨_, os, by rw [hD2], by rw [hD2], M.opsOf ⟨_, _, M.swap.row⟩ 1 rfl, hfine, M.pre 3 rfl⟩
    · rw [show ((encO (ops os)).2 == xs) = false from by simpa using hq]
      (repeat (first | (refine WR.id ?_; first | refine WR.nil ?_ | refine WR.s ?_ | refine WR.g ?_) | (refine W.id ?_; first | refine W.seq fun _ _ => ?_ | refine W.region ?_ | refine W.s ?_ | refine W.e ?_) | (refine Ends.id ?_; first | refine Ends.seq (by assumption) ?_ | refine Ends.s ?_)))
      exact Ends.ret2 rfl rfl rfl (hbad (M.pre 3 rfl) (.inr (.inr (by simpa using hq))))
end Go.Proofs.Ytjgobljclodpfaa
namespace Go.Proofs.Ytjgobljclodpfaa
open Go.RowKit Go.Shelf K L E
set_option linter.unusedVariables false
set_option linter.unusedSimpArgs false

theorem E.Mem.addz {w : World} {Zs : List Ass} {a : Ass} {F : Nat → Prop} (M : Mem w [] Zs) (h : a.p w F) : Mem w [] (a :: Zs) := by
  obtain ⟨G, h1, h2, -⟩ := M
  refine ⟨fun b => G b ∨ F b, fun b hb => hb.elim (h1 b) (a.bnd h b), fun z hz => ?_, trivial⟩
  rcases List.mem_cons.1 hz with rfl | hz
  · exact ⟨F, h, fun b hb => .inr hb⟩
  · obtain ⟨E, hE, hs⟩ := h2 z hz; exact ⟨E, hE, fun b hb => .inl (hs b hb)⟩
theorem encO_ok {l : List FO} (h : (encO l).1 = 0) : l.length ≤ 64 ∧ l.all okOp = true ∧ (encO l).2 = opsB l := by
  unfold encO at h ⊢
  split at h
  · cases h
  · split at h
    · rename_i h1 h2; rw [if_neg h1, if_pos h2]; exact ⟨by omega, h2, rfl⟩
    · cases h
theorem decO_no {xs : List UInt8} (h : (decO xs).1 ≠ 0) : decO xs = (151, []) := by
  unfold decO at h ⊢
  split
  · rfl
  · rename_i h1
    rw [if_neg h1] at h
    unfold decE at h ⊢
    split
    · rfl
    · rename_i h2; rw [if_neg h2] at h; exact absurd rfl h
theorem decO_ok {xs : List UInt8} (h : (decO xs).1 = 0) : (decO xs).2.length ≤ 64 ∧ (decO xs).2.all okOp = true ∧ opsB (decO xs).2 = xs := by
  unfold decO at h ⊢
  split at h
  · cases h
  · rename_i h1
    rw [if_neg h1]
    unfold decE at h ⊢
    split at h
    · cases h
    · rename_i h2
      rw [if_neg h2]
      simp only [not_or, Decidable.not_not, Bool.not_eq_false] at h2
      obtain ⟨a, b, c⟩ := encO_ok h2.2.1
      exact ⟨a, b, by rw [← c]; exact beq_iff_eq.1 h2.2.2⟩

set_option maxRecDepth 100000 in
set_option maxHeartbeats 8000000 in
theorem filesOps_walk (vl vb : Value) (os : List OE) (xs : List UInt8) (w : World) (ho : OpsF w (· < w.heap.size) vl os) (hx : Bs w (· < w.heap.size) vb xs) (hok : ∀ o ∈ os, o.1.fine) (hol : os.length ≤ 1048576) (hxl : xs.length ≤ 1048576) :
    Calls Try.prog 8 #[vl, vb] w fun e w' => e = .returned (.bool true) ∧ Below w.heap.size w w' := by
  obtain ⟨Ao, co, rfl, m1, m2⟩ := ops_form ho.ops
  obtain ⟨Ab, cb, rfl, q1, q2, -⟩ := hx.open_
  have M : Mem w [] [zOps (.slice Ao os.length co) os, zSl 1 (.slice Ab xs.length cb) xs.length (bvs xs), zPre w] :=
    ((Mem.start w).part (a := zSl 1 (.slice Ab xs.length cb) xs.length (bvs xs)) 0 rfl fun G hG => ⟨fun b => b < w.heap.size, ⟨by decide, hx.lt, fun b hb => hb⟩, fun b hb => (hG.1 b).2 hb⟩).inOps 1 rfl ho
  refine enter Try.func8 rfl Try.ntmps8 rfl rfl ?_
  (repeat (first | (refine WR.id ?_; first | refine WR.nil ?_ | refine WR.s ?_ | refine WR.g ?_) | (refine W.id ?_; first | refine W.seq fun _ _ => ?_ | refine W.region ?_ | refine W.s ?_ | refine W.e ?_) | (refine Ends.id ?_; first | refine Ends.seq (by assumption) ?_ | refine Ends.s ?_)))
  refine WR.call rfl rfl (wakes_any _) ?_
  rintro _ w2 ⟨rfl, hb⟩
  refine ⟨_, rfl, ?_⟩
  replace M := M.below hb
  by_cases h200 : 200 < os.length
  · (repeat (first | (refine WR.id ?_; first | refine WR.nil ?_ | refine WR.s ?_ | refine WR.g ?_) | (refine W.id ?_; first | refine W.seq fun _ _ => ?_ | refine W.region ?_ | refine W.s ?_ | refine W.e ?_) | (refine Ends.id ?_; first | refine Ends.seq (by assumption) ?_ | refine Ends.s ?_)))
    exact Ends.ret1 rfl rfl ⟨rfl, M.pre 2 rfl⟩
  by_cases h100 : 100000 < xs.length
  · (repeat (first | (refine WR.id ?_; first | refine WR.nil ?_ | refine WR.s ?_ | refine WR.g ?_) | (refine W.id ?_; first | refine W.seq fun _ _ => ?_ | refine W.region ?_ | refine W.s ?_ | refine W.e ?_) | (refine Ends.id ?_; first | refine Ends.seq (by assumption) ?_ | refine Ends.s ?_)))
    exact Ends.ret1 rfl rfl ⟨rfl, M.pre 2 rfl⟩
  (repeat (first | (refine WR.id ?_; first | refine WR.nil ?_ | refine WR.s ?_ | refine WR.g ?_) | (refine W.id ?_; first | refine W.seq fun _ _ => ?_ | refine W.region ?_ | refine W.s ?_ | refine W.e ?_) | (refine Ends.id ?_; first | refine Ends.seq (by assumption) ?_ | refine Ends.s ?_)))
  refine WR.row0 Try.elOp (by rfl) fun w5 hb5 ho5 hs5 => ?_
  replace M := M.below hb5
  obtain ⟨_, hop⟩ := M.ops 0 rfl
  (repeat (first | (refine WR.id ?_; first | refine WR.nil ?_ | refine WR.s ?_ | refine WR.g ?_) | (refine W.id ?_; first | refine W.seq fun _ _ => ?_ | refine W.region ?_ | refine W.s ?_ | refine W.e ?_) | (refine Ends.id ?_; first | refine Ends.seq (by assumption) ?_ | refine Ends.s ?_)))
  refine WR.app0 Try.elOp (by rfl) (by rfl) (by rfl) ho5 hop.1 (ops_one hop) (by omega) (by decide) hb5.size fun v6 w6 ho6 hb6 => ?_
  replace M := M.below hb6
  have hop6 : OpsF w6 (fun b => b < w6.heap.size) v6 os := ⟨(Sl.of_own ho6).imp (fun b hb _ => hb) (by decide), fun e he => (Bs.below (hop.2 e he) hb6).lt⟩
  clear hop ho5
  (repeat (first | (refine WR.id ?_; first | refine WR.nil ?_ | refine WR.s ?_ | refine WR.g ?_) | (refine W.id ?_; first | refine W.seq fun _ _ => ?_ | refine W.region ?_ | refine W.s ?_ | refine W.e ?_) | (refine Ends.id ?_; first | refine Ends.seq (by assumption) ?_ | refine Ends.s ?_)))
  refine WR.call rfl rfl (encOps_any _ _ _ _ hop6 fun o ho => hok o ho) ?_
  rintro _ w7 ⟨v7, rfl, hf7⟩
  refine ⟨_, rfl, ?_⟩
  replace M := M.add hf7
  obtain ⟨A7, c7, rfl, -⟩ := M.br.bs.open_
  replace M := M.freeze
  clear hop6 ho6 hf7
  (repeat (first | (refine WR.id ?_; first | refine WR.nil ?_ | refine WR.s ?_ | refine WR.g ?_) | (refine W.id ?_; first | refine W.seq fun _ _ => ?_ | refine W.region ?_ | refine W.s ?_ | refine W.e ?_) | (refine Ends.id ?_; first | refine Ends.seq (by assumption) ?_ | refine Ends.s ?_)))
  refine W.loop (X := Nat) (fun i => [(0, .slice Ao os.length co), (1, .slice Ab xs.length cb), (5, .slice A7 (encO (ops os)).2.length c7), (6, .int .i64 (encO (ops os)).1), (7, .bool (((ops os).take i).all okOp)), (31, .slice Ao os.length co), (32, .int .i64 (os.length : Nat)), (33, .int .i64 (i : Nat))])
    (fun i wr => i ≤ os.length ∧ Mem wr [] [aBr (.slice A7 (encO (ops os)).2.length c7) (encO (ops os)).2, zOps (.slice Ao os.length co) os, zSl 1 (.slice Ab xs.length cb) xs.length (bvs xs), zPre w]) (fun i => os.length - i)
    0 (by repeat (first | exact .nil | refine .cons rfl ?_)) ⟨Nat.zero_le _, M⟩ ?_
  clear M
  rintro i wr ⟨hi, M⟩ K hK
  (repeat (first | (refine WR.id ?_; first | refine WR.nil ?_ | refine WR.s ?_ | refine WR.g ?_) | (refine W.id ?_; first | refine W.seq fun _ _ => ?_ | refine W.region ?_ | refine W.s ?_ | refine W.e ?_) | (refine Ends.id ?_; first | refine Ends.seq (by assumption) ?_ | refine Ends.s ?_)))
  refine W.condP (by rfl) (fun hlt => ?_) (fun hlt => ?_)
  · have hil : i < os.length := by omega
    obtain ⟨⟨o, vo⟩, hxo⟩ : ∃ x, os[i]? = some x := ⟨_, List.getElem?_eq_getElem hil⟩
    have hx2 : (ops os)[i]? = some o := by unfold ops; rw [List.getElem?_map, hxo]; rfl
    obtain ⟨⟨hs1, hs2, hs3, ha1, ha2⟩, hkd⟩ := hok _ (List.mem_of_getElem? hxo)
    obtain ⟨_, hz⟩ := M.ops 1 rfl
    obtain ⟨ba, oa, hA, hrng, hbi⟩ := ops_at' hz hxo
    subst hA
    obtain ⟨Ay, cy, rfl, -⟩ := hbi.open_
    have hnx : ((ops os).take (i + 1)).all okOp = (((ops os).take i).all okOp && okOp o) := by rw [List.take_add_one, hx2, List.all_append]; simp
    obtain ⟨kind, name, new, at_, bytes⟩ := o
    dsimp only at *
    (repeat (first | (refine WR.id ?_; first | refine WR.nil ?_ | refine WR.s ?_ | refine WR.g ?_) | (refine W.id ?_; first | refine W.seq fun _ _ => ?_ | refine W.region ?_ | refine W.s ?_ | refine W.e ?_) | (refine Ends.id ?_; first | refine Ends.seq (by assumption) ?_ | refine Ends.s ?_)))
    refine WR.indexAddr (j := i) (by rfl) (by rfl) (by rfl) (by omega) ?_
    refine WR.loadRow (by rfl) hrng (by rfl) (by rfl) ?_
    refine WR.allocStore (c := #[.int .i64 kind, .string ⟨name.toArray⟩, .string ⟨new.toArray⟩, .int .i64 at_, .slice Ay bytes.length cy]) (by rfl) (by rfl) rfl (by rfl) (by rfl) (all_oneCell_toArray op_one) (by rfl) fun w8 hb8 hx8 hs8 => ?_
    have M2 := (M.newBox (cs := [.int .i64 kind, .string ⟨name.toArray⟩, .string ⟨new.toArray⟩, .int .i64 at_, .slice Ay bytes.length cy]) hb8 hx8)
    generalize wr.heap.size = b9 at M2 ⊢
    clear hz hrng hbi hx8 M
    have hB := M2.box
    cases hal : ((ops os).take i).all okOp with
    | true =>
      rw [hal] at hnx
      (repeat (first | (refine WR.id ?_; first | refine WR.nil ?_ | refine WR.s ?_ | refine WR.g ?_) | (refine W.id ?_; first | refine W.seq fun _ _ => ?_ | refine W.region ?_ | refine W.s ?_ | refine W.e ?_) | (refine Ends.id ?_; first | refine Ends.seq (by assumption) ?_ | refine Ends.s ?_)))
      refine WR.call rfl rfl (rightOp_any kind name new at_ bytes Ay cy _ hs1 hs2 hs3 ⟨ha1, ha2⟩ hkd) ?_
      rintro _ w9 ⟨rfl, hb9⟩
      refine ⟨_, rfl, ?_⟩
      replace M2 := M2.below hb9
      clear hB
      (repeat (first | (refine WR.id ?_; first | refine WR.nil ?_ | refine WR.s ?_ | refine WR.g ?_) | (refine W.id ?_; first | refine W.seq fun _ _ => ?_ | refine W.region ?_ | refine W.s ?_ | refine W.e ?_) | (refine Ends.id ?_; first | refine Ends.seq (by assumption) ?_ | refine Ends.s ?_)))
      rw [show okOp ⟨kind, name, new, at_, bytes⟩ = ((ops os).take (i + 1)).all okOp from by rw [hnx]; rfl]
      exact Ends.round hK (i + 1) (by repeat (first | exact .nil | refine .cons rfl ?_)) ⟨by omega, M2.drop⟩ (by omega)
    | false =>
      rw [hal] at hnx
      clear hB
      (repeat (first | (refine WR.id ?_; first | refine WR.nil ?_ | refine WR.s ?_ | refine WR.g ?_) | (refine W.id ?_; first | refine W.seq fun _ _ => ?_ | refine W.region ?_ | refine W.s ?_ | refine W.e ?_) | (refine Ends.id ?_; first | refine Ends.seq (by assumption) ?_ | refine Ends.s ?_)))
      rw [show false = ((ops os).take (i + 1)).all okOp from by rw [hnx]; rfl]
      exact Ends.round hK (i + 1) (by repeat (first | exact .nil | refine .cons rfl ?_)) ⟨by omega, M2.drop⟩ (by omega)
  obtain rfl : i = os.length := by omega
  have hall : (ops os).take os.length = ops os := List.take_of_length_le (by rw [ops_len]; omega)
  rw [hall]
  clear hall
  by_cases h64 : 64 < os.length
  have hD : encO (ops os) = (3, []) := by unfold encO; rw [if_pos (by rw [ops_len]; exact h64)]
  simp only [hD, List.length_nil] at M ⊢
  (repeat (first | (refine WR.id ?_; first | refine WR.nil ?_ | refine WR.s ?_ | refine WR.g ?_) | (refine W.id ?_; first | refine W.seq fun _ _ => ?_ | refine W.region ?_ | refine W.s ?_ | refine W.e ?_) | (refine Ends.id ?_; first | refine Ends.seq (by assumption) ?_ | refine Ends.s ?_)))
  rotate_left
  by_cases hal : (ops os).all okOp = true
  have hD : encO (ops os) = (0, opsB (ops os)) := by unfold encO; rw [if_neg (by rw [ops_len]; exact h64), if_pos hal]
  simp only [hD, hal] at M ⊢
  obtain ⟨_, hz⟩ := M.ops 1 rfl
  (repeat (first | (refine WR.id ?_; first | refine WR.nil ?_ | refine WR.s ?_ | refine WR.g ?_) | (refine W.id ?_; first | refine W.seq fun _ _ => ?_ | refine W.region ?_ | refine W.s ?_ | refine W.e ?_) | (refine Ends.id ?_; first | refine Ends.seq (by assumption) ?_ | refine Ends.s ?_)))
  refine WR.call rfl rfl (rops_any _ _ _ _ hz hal (by omega)) ?_
  rintro _ w9 ⟨v9, rfl, ⟨G9, hb9⟩, hbw⟩
  refine ⟨_, rfl, ?_⟩
  replace M := M.below hbw
  obtain ⟨Fz, -, hown⟩ := M.z 0 rfl
  replace hown := Ob.bs hown
  (repeat (first | (refine WR.id ?_; first | refine WR.nil ?_ | refine WR.s ?_ | refine WR.g ?_) | (refine W.id ?_; first | refine W.seq fun _ _ => ?_ | refine W.region ?_ | refine W.s ?_ | refine W.e ?_) | (refine Ends.id ?_; first | refine Ends.seq (by assumption) ?_ | refine Ends.s ?_)))
  refine WR.call rfl rfl (same_any _ _ _ _ _ _ _ hown hb9) ?_
  rintro _ _ ⟨rfl, nd, rfl⟩
  refine ⟨_, rfl, ?_⟩
  replace M := M.below (below_dn (Below.refl _ _) nd)
  rw [beq_self_eq_true]
  clear hz hown hb9
  (repeat (first | (refine WR.id ?_; first | refine WR.nil ?_ | refine WR.s ?_ | refine WR.g ?_) | (refine W.id ?_; first | refine W.seq fun _ _ => ?_ | refine W.region ?_ | refine W.s ?_ | refine W.e ?_) | (refine Ends.id ?_; first | refine Ends.seq (by assumption) ?_ | refine Ends.s ?_)))
  rotate_left
  have hal2 : (ops os).all okOp = false := by simpa using hal
  have hD : encO (ops os) = (151, []) := by unfold encO; rw [if_neg (by rw [ops_len]; exact h64), if_neg hal]
  simp only [hD, hal2, List.length_nil] at M ⊢
  (repeat (first | (refine WR.id ?_; first | refine WR.nil ?_ | refine WR.s ?_ | refine WR.g ?_) | (refine W.id ?_; first | refine W.seq fun _ _ => ?_ | refine W.region ?_ | refine W.s ?_ | refine W.e ?_) | (refine Ends.id ?_; first | refine Ends.seq (by assumption) ?_ | refine Ends.s ?_)))
  all_goals
    refine WR.row0 Try.el8 (by rfl) fun wa hba hoa hsa => ?_
    replace M := M.below hba
    obtain ⟨_, hxb⟩ := M.zbs 2 rfl
    (repeat (first | (refine WR.id ?_; first | refine WR.nil ?_ | refine WR.s ?_ | refine WR.g ?_) | (refine W.id ?_; first | refine W.seq fun _ _ => ?_ | refine W.region ?_ | refine W.s ?_ | refine W.e ?_) | (refine Ends.id ?_; first | refine Ends.seq (by assumption) ?_ | refine Ends.s ?_)))
    refine WR.app0 Try.el8 (by rfl) (by rfl) (by rfl) hoa hxb (one_bvs _) (by omega) (by decide) hba.size fun v8 wb8 ho8 hb8 => ?_
    replace M := M.below hb8
    have hv8 : Bs wb8 _ v8 xs := Sl.of_own ho8
    (repeat (first | (refine WR.id ?_; first | refine WR.nil ?_ | refine WR.s ?_ | refine WR.g ?_) | (refine W.id ?_; first | refine W.seq fun _ _ => ?_ | refine W.region ?_ | refine W.s ?_ | refine W.e ?_) | (refine Ends.id ?_; first | refine Ends.seq (by assumption) ?_ | refine Ends.s ?_)))
    refine WR.call rfl rfl (decOps_any _ _ _ _ hv8 (by omega)) ?_
    rintro _ wc8 ⟨vg, eg, rfl, hfg, hsg, hng, hbg⟩
    refine ⟨_, rfl, ?_⟩
    obtain ⟨Ag, cg, rfl, -, -⟩ := ops_form hsg.ops
    replace M := (M.below hbg).addz (zops_of hsg)
    clear hxb hoa ho8 hv8 hsg
    by_cases h0 : (decO xs).1 = 0
    case neg =>
      have hno := decO_no h0
      have hl0 : eg.length = 0 := by have := congrArg List.length hfg; rw [ops_len, hno] at this; exact this
      have h151 : (decO xs).1 = 151 := by rw [hno]
      (repeat (first | (refine WR.id ?_; first | refine WR.nil ?_ | refine WR.s ?_ | refine WR.g ?_) | (refine W.id ?_; first | refine W.seq fun _ _ => ?_ | refine W.region ?_ | refine W.s ?_ | refine W.e ?_) | (refine Ends.id ?_; first | refine Ends.seq (by assumption) ?_ | refine Ends.s ?_)))
      exact Ends.ret1 rfl rfl ⟨rfl, M.pre 4 rfl⟩
    obtain ⟨hd1, hd2, hd3⟩ := decO_ok h0
    rw [← hfg] at hd1 hd2 hd3
    rw [ops_len] at hd1
    replace M := M.subz (Zs' := [zOps (.slice Ag eg.length cg) eg, zSl 1 (.slice Ab xs.length cb) xs.length (bvs xs), zPre w]) (by intro z hz; simp only [List.mem_cons, List.not_mem_nil, or_false] at hz ⊢; rcases hz with rfl | rfl | rfl <;> simp)
    (repeat (first | (refine WR.id ?_; first | refine WR.nil ?_ | refine WR.s ?_ | refine WR.g ?_) | (refine W.id ?_; first | refine W.seq fun _ _ => ?_ | refine W.region ?_ | refine W.s ?_ | refine W.e ?_) | (refine Ends.id ?_; first | refine Ends.seq (by assumption) ?_ | refine Ends.s ?_)))
    refine W.loop (X := Nat) (fun i => [(1, .slice Ab xs.length cb), (10, .slice Ag eg.length cg), (90, .slice Ag eg.length cg), (91, .int .i64 (eg.length : Nat)), (92, .int .i64 (i : Nat))])
      (fun i wr => i ≤ eg.length ∧ Mem wr [] [zOps (.slice Ag eg.length cg) eg, zSl 1 (.slice Ab xs.length cb) xs.length (bvs xs), zPre w]) (fun i => eg.length - i)
      0 (by repeat (first | exact .nil | refine .cons rfl ?_)) ⟨Nat.zero_le _, M⟩ ?_
    clear M
    rintro i wr ⟨hi, M⟩ K hK
    (repeat (first | (refine WR.id ?_; first | refine WR.nil ?_ | refine WR.s ?_ | refine WR.g ?_) | (refine W.id ?_; first | refine W.seq fun _ _ => ?_ | refine W.region ?_ | refine W.s ?_ | refine W.e ?_) | (refine Ends.id ?_; first | refine Ends.seq (by assumption) ?_ | refine Ends.s ?_)))
    refine W.condP (by rfl) (fun hlt => ?_) (fun hlt => ?_)
    · have hil : i < eg.length := by omega
      obtain ⟨⟨o, vo⟩, hxo⟩ : ∃ x, eg[i]? = some x := ⟨_, List.getElem?_eq_getElem hil⟩
      have hx2 : (ops eg)[i]? = some o := by unfold ops; rw [List.getElem?_map, hxo]; rfl
      have hok1 := List.all_eq_true.1 hd2 o (List.mem_of_getElem? hx2)
      obtain ⟨⟨hs1, hs2, hs3, ha1, ha2⟩, hkd⟩ := hng _ (List.mem_of_getElem? hxo)
      obtain ⟨_, hz⟩ := M.ops 0 rfl
      obtain ⟨ba, oa, hA, hrng, hbi⟩ := ops_at' hz hxo
      subst hA
      obtain ⟨Ay, cy, rfl, -⟩ := hbi.open_
      obtain ⟨kind, name, new, at_, bytes⟩ := o
      dsimp only at *
      (repeat (first | (refine WR.id ?_; first | refine WR.nil ?_ | refine WR.s ?_ | refine WR.g ?_) | (refine W.id ?_; first | refine W.seq fun _ _ => ?_ | refine W.region ?_ | refine W.s ?_ | refine W.e ?_) | (refine Ends.id ?_; first | refine Ends.seq (by assumption) ?_ | refine Ends.s ?_)))
      refine WR.indexAddr (j := i) (by rfl) (by rfl) (by rfl) (by omega) ?_
      refine WR.loadRow (by rfl) hrng (by rfl) (by rfl) ?_
      refine WR.allocStore (c := #[.int .i64 kind, .string ⟨name.toArray⟩, .string ⟨new.toArray⟩, .int .i64 at_, .slice Ay bytes.length cy]) (by rfl) (by rfl) rfl (by rfl) (by rfl) (all_oneCell_toArray op_one) (by rfl) fun w8 hb8 hx8 hs8 => ?_
      have M2 := (M.newBox (cs := [.int .i64 kind, .string ⟨name.toArray⟩, .string ⟨new.toArray⟩, .int .i64 at_, .slice Ay bytes.length cy]) hb8 hx8)
      generalize wr.heap.size = b9 at M2 ⊢
      clear hz hrng hbi hx8 M
      have hB := M2.box
      (repeat (first | (refine WR.id ?_; first | refine WR.nil ?_ | refine WR.s ?_ | refine WR.g ?_) | (refine W.id ?_; first | refine W.seq fun _ _ => ?_ | refine W.region ?_ | refine W.s ?_ | refine W.e ?_) | (refine Ends.id ?_; first | refine Ends.seq (by assumption) ?_ | refine Ends.s ?_)))
      refine WR.call rfl rfl (rightOp_any kind name new at_ bytes Ay cy _ hs1 hs2 hs3 ⟨ha1, ha2⟩ hkd) ?_
      rintro _ w9 ⟨rfl, hb9⟩
      refine ⟨_, rfl, ?_⟩
      replace M2 := M2.below hb9
      clear hB
      rw [hok1]
      (repeat (first | (refine WR.id ?_; first | refine WR.nil ?_ | refine WR.s ?_ | refine WR.g ?_) | (refine W.id ?_; first | refine W.seq fun _ _ => ?_ | refine W.region ?_ | refine W.s ?_ | refine W.e ?_) | (refine Ends.id ?_; first | refine Ends.seq (by assumption) ?_ | refine Ends.s ?_)))
      exact Ends.round hK (i + 1) (by repeat (first | exact .nil | refine .cons rfl ?_)) ⟨by omega, M2.drop⟩ (by omega)
    · obtain ⟨_, hz⟩ := M.ops 0 rfl
      (repeat (first | (refine WR.id ?_; first | refine WR.nil ?_ | refine WR.s ?_ | refine WR.g ?_) | (refine W.id ?_; first | refine W.seq fun _ _ => ?_ | refine W.region ?_ | refine W.s ?_ | refine W.e ?_) | (refine Ends.id ?_; first | refine Ends.seq (by assumption) ?_ | refine Ends.s ?_)))
      refine WR.call rfl rfl (rops_any _ _ _ _ hz hd2 hd1) ?_
      rintro _ w7 ⟨v7, rfl, ⟨G7, hb7⟩, hbw⟩
      refine ⟨_, rfl, ?_⟩
      replace M := M.below hbw
      obtain ⟨_, hxb⟩ := M.zbs 1 rfl
      rw [hd3] at hb7
      (repeat (first | (refine WR.id ?_; first | refine WR.nil ?_ | refine WR.s ?_ | refine WR.g ?_) | (refine W.id ?_; first | refine W.seq fun _ _ => ?_ | refine W.region ?_ | refine W.s ?_ | refine W.e ?_) | (refine Ends.id ?_; first | refine Ends.seq (by assumption) ?_ | refine Ends.s ?_)))
      refine WR.call rfl rfl (same_any _ _ _ _ _ _ _ hb7 hxb) ?_
      rintro _ _ ⟨rfl, nd, rfl⟩
      refine ⟨_, rfl, ?_⟩
      rw [beq_self_eq_true]
      replace M := M.below (below_dn (Below.refl _ _) nd)
      clear hz hxb hb7
      (repeat (first | (refine WR.id ?_; first | refine WR.nil ?_ | refine WR.s ?_ | refine WR.g ?_) | (refine W.id ?_; first | refine W.seq fun _ _ => ?_ | refine W.region ?_ | refine W.s ?_ | refine W.e ?_) | (refine Ends.id ?_; first | refine Ends.seq (by assumption) ?_ | refine Ends.s ?_)))
      exact Ends.ret1 rfl rfl ⟨rfl, M.pre 2 rfl⟩
end Go.Proofs.Ytjgobljclodpfaa
