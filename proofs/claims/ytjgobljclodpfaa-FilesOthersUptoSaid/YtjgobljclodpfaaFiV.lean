/- FilesOthers' walk: an operation changes no other file than those that it names. No condition beyond sizes. -/
import Derived.Test.YtjgobljclodpfaaFiZ
namespace Go.Proofs.Ytjgobljclodpfaa
open Go.RowKit Go.Shelf K L E
set_option linter.unusedVariables false
set_option linter.unusedSimpArgs false

theorem apply_1 (l : List Fl) (o : FO) : ((applyF l [o]).1 = 0 ∧ okFs l = true ∧ (doF l o).1 = 0 ∧ (applyF l [o]).2 = (doF l o).2) ∨ ((applyF l [o]).1 ≠ 0 ∧ (applyF l [o]).2 = []) := by
  unfold applyF
  cases hk : okFs l with
  | false => exact .inr ⟨by rw [if_pos rfl]; decide, by rw [if_pos rfl]⟩
  | true =>
    rw [if_neg (by decide), if_neg (by simp)]
    by_cases h : (doF l o).1 = 0
    · rw [doAll_cons_ok h]; exact .inl ⟨rfl, rfl, h, rfl⟩
    · rw [doAll_cons_no h]; exact .inr ⟨h, rfl⟩
theorem fs_cells {w : World} {F : Nat → Prop} {A : Option Addr} {n c i : Nat} {es : List FE} {x : Fl} {vx : Value} (h : Fs w F (.slice A n c) es) (hx : es[i]? = some (x, vx)) :
    ∃ b o, A = some ⟨b, o, none⟩ ∧ w.rangeAt b (o + i * 2) [.string ⟨x.name.toArray⟩, vx] ∧ w.cell? ⟨b, o + i * 2 + 1, none⟩ = some vx ∧ Bs w (· < w.heap.size) vx x.bytes := by
  obtain ⟨hi, he⟩ := List.getElem?_eq_some_iff.1 hx
  obtain ⟨b, o, hA, -, -, hc⟩ := row_cells (f := FE.cells) (fun _ => rfl) (by decide) h.1 i hi
  rw [he] at hc
  exact ⟨b, o, hA, fun j u hu => hc j u hu, hc 1 _ rfl, h.2 (x, vx) (List.mem_of_getElem? hx)⟩
theorem WR.addN {P : Program} {n : Nat} {D : List Deferred} {L : Slots} {w : World} {Q : Exit → Act → World → Prop} {ops : Array Oper} {rest : List Oper} {d : Nat} {ty t u : TypeId} {pos : String} {after : Array Edge} {x y : Operand} {i j : Nat} (hx : evo L x = some (.int .i64 (i : Nat))) (hy : evo L y = some (.int .i64 (j : Nat))) (hd : Nat.blt d n = true) (h1 : i + j ≤ 9223372036854775807) (h : WR P n D ops rest ((d, .int .i64 ((i + j : Nat) : Int)) :: L) w Q) : WR P n D ops (⟨some d, .binOp .add t x y u, ty, pos, after, none⟩ :: rest) L w Q :=
  WR.add hx hy hd (by omega) (by omega) (by rw [Int.natCast_add] at h; exact h)
theorem getB_mem {l : List Fl} {nm : List UInt8} (hk : okFs l = true) : (getB l nm).length ≤ 4096 := by
  cases ht : there l nm with
  | true =>
    rw [(getE_there hk ht).2]
    obtain ⟨x, hx, -, e⟩ := getFB_mem ht
    rw [e]; exact (ok_at hk hx).2
  | false => rw [(getE_not hk ht).2]; exact Nat.zero_le _
theorem zsl_in {w : World} {Os Zs : List Ass} {v : Value} {xs : List UInt8} {F : Nat → Prop} (M : Mem w Os Zs) (k : Nat) (hz : Zs[k]? = some (zPre w)) (h : Bs w F v xs) : Mem w Os (zSl 1 v xs.length (bvs xs) :: Zs) :=
  M.part k hz fun G hG => ⟨fun b => b < w.heap.size, ⟨by decide, h.lt, fun b hb => hb⟩, fun b hb => (hG.1 b).2 hb⟩
theorem agg_cells (o : FO) (vb : Value) : (Value.agg (OE.cells (o, vb)).toArray).cells.toList = OE.cells (o, vb) := rfl

set_option maxRecDepth 100000 in
set_option maxHeartbeats 8000000 in
theorem filesOthers_walk (u vb : Value) (es : List FE) (o : FO) (w : World) (h : FsF w (· < w.heap.size) u es) (hvb : Bs w (· < w.heap.size) vb o.bytes) (hc : cost (fls es) + es.length ≤ 1048576) (hok : o.ok) (hkd : -9223372036854775808 ≤ o.kind ∧ o.kind ≤ 9223372036854775807) :
    Calls Try.prog 4 #[.agg #[u], .agg (OE.cells (o, vb)).toArray] w fun e w' => e = .returned (.bool true) ∧ Below w.heap.size w w' := by
  obtain ⟨A, c, rfl, l1, l2⟩ := fs_form h.fs
  obtain ⟨Ab, cb, rfl, q1, q2, -⟩ := hvb.open_
  have M := (zsl_in (Mem.start w) 0 rfl hvb).inFs 1 rfl h.fs
  refine enter Try.func4 rfl Try.ntmps4 rfl rfl ?_
  (repeat (first | (refine WR.id ?_; first | refine WR.nil ?_ | refine WR.s ?_ | refine WR.g ?_) | (refine W.id ?_; first | refine W.seq fun _ _ => ?_ | refine W.region ?_ | refine W.s ?_ | refine W.e ?_) | (refine Ends.id ?_; first | refine Ends.seq (by assumption) ?_ | refine Ends.s ?_)))
  refine WR.box rfl (cs := #[.slice A es.length c]) rfl rfl fun w1 hb1 hx1 hs1 => ?_
  replace M := M.newBox (cs := [.slice A es.length c]) hb1 hx1
  (repeat (first | (refine WR.id ?_; first | refine WR.nil ?_ | refine WR.s ?_ | refine WR.g ?_) | (refine W.id ?_; first | refine W.seq fun _ _ => ?_ | refine W.region ?_ | refine W.s ?_ | refine W.e ?_) | (refine Ends.id ?_; first | refine Ends.seq (by assumption) ?_ | refine Ends.s ?_)))
  refine WR.box rfl (cs := #[.int .i64 o.kind, .string ⟨o.name.toArray⟩, .string ⟨o.new.toArray⟩, .int .i64 o.at_, .slice Ab o.bytes.length cb]) rfl rfl fun w2 hb2 hx2 hs2 => ?_
  replace M := M.newBox (cs := [.int .i64 o.kind, .string ⟨o.name.toArray⟩, .string ⟨o.new.toArray⟩, .int .i64 o.at_, .slice Ab o.bytes.length cb]) hb2 hx2
  generalize w1.heap.size = b3 at M ⊢
  clear hx1 hx2
  (repeat (first | (refine WR.id ?_; first | refine WR.nil ?_ | refine WR.s ?_ | refine WR.g ?_) | (refine W.id ?_; first | refine W.seq fun _ _ => ?_ | refine W.region ?_ | refine W.s ?_ | refine W.e ?_) | (refine Ends.id ?_; first | refine Ends.seq (by assumption) ?_ | refine Ends.s ?_)))
  refine WR.call rfl rfl (wakes_any _) ?_
  rintro _ w3 ⟨rfl, hb⟩
  refine ⟨_, rfl, ?_⟩
  replace M := M.below hb
  have hB := M.swap.box
  obtain ⟨_, hf⟩ := M.fs 0 rfl
  (repeat (first | (refine WR.id ?_; first | refine WR.nil ?_ | refine WR.s ?_ | refine WR.g ?_) | (refine W.id ?_; first | refine W.seq fun _ _ => ?_ | refine W.region ?_ | refine W.s ?_ | refine W.e ?_) | (refine Ends.id ?_; first | refine Ends.seq (by assumption) ?_ | refine Ends.s ?_)))
  refine WR.call rfl rfl (large_any _ _ _ _ hf) ?_
  rintro _ w4 ⟨rfl, hb⟩
  refine ⟨_, rfl, ?_⟩
  replace M := M.below hb
  clear hB hf
  cases big (fls es) with
  | true =>
    (repeat (first | (refine WR.id ?_; first | refine WR.nil ?_ | refine WR.s ?_ | refine WR.g ?_) | (refine W.id ?_; first | refine W.seq fun _ _ => ?_ | refine W.region ?_ | refine W.s ?_ | refine W.e ?_) | (refine Ends.id ?_; first | refine Ends.seq (by assumption) ?_ | refine Ends.s ?_)))
    exact Ends.ret1 rfl rfl ⟨rfl, M.pre 2 rfl⟩
  | false =>
  have hB := M.swap.box
  have hB3 := M.box
  (repeat (first | (refine WR.id ?_; first | refine WR.nil ?_ | refine WR.s ?_ | refine WR.g ?_) | (refine W.id ?_; first | refine W.seq fun _ _ => ?_ | refine W.region ?_ | refine W.s ?_ | refine W.e ?_) | (refine Ends.id ?_; first | refine Ends.seq (by assumption) ?_ | refine Ends.s ?_)))
  refine WR.row1 Try.elOp (by decide) (by rfl) (by rfl) (by rfl) fun w5 hb5 hs5 => ?_
  replace M := M.below hb5
  obtain ⟨_, hf⟩ := M.fs 0 rfl
  obtain ⟨_, hvb5⟩ := M.sl 1 rfl
  have hop : Ops w5 (w4.heap.size ≤ ·) (.slice (some ⟨w4.heap.size, 0, none⟩) 1 1) [(o, .slice Ab o.bytes.length cb)] := ⟨hs5, fun e he => by obtain rfl := List.mem_singleton.1 he; exact Bs.lt hvb5⟩
  clear hB hB3
  (repeat (first | (refine WR.id ?_; first | refine WR.nil ?_ | refine WR.s ?_ | refine WR.g ?_) | (refine W.id ?_; first | refine W.seq fun _ _ => ?_ | refine W.region ?_ | refine W.s ?_ | refine W.e ?_) | (refine Ends.id ?_; first | refine Ends.seq (by assumption) ?_ | refine Ends.s ?_)))
  refine WR.call rfl rfl (apply_any _ _ _ _ _ _ _ hf hop (by omega) (fun e he => by obtain rfl := List.mem_singleton.1 he; exact hok)) ?_
  rintro _ w6 ⟨vg, eg, rfl, hfg, hsg, hb6⟩
  refine ⟨_, rfl, ?_⟩
  replace M := M.newFs hb6 hsg
  obtain ⟨Ag, cg, rfl, g1, g2⟩ := fs_form hsg.fs
  rw [show ops [((o, Value.slice Ab o.bytes.length cb) : OE)] = [o] from rfl] at hfg ⊢
  clear hop hs5 hf hvb5 hsg
  (repeat (first | (refine WR.id ?_; first | refine WR.nil ?_ | refine WR.s ?_ | refine WR.g ?_) | (refine W.id ?_; first | refine W.seq fun _ _ => ?_ | refine W.region ?_ | refine W.s ?_ | refine W.e ?_) | (refine Ends.id ?_; first | refine Ends.seq (by assumption) ?_ | refine Ends.s ?_)))
  refine WR.alloc (by rfl) fun w7 hb7 hx7 hs7 => ?_
  replace M := M.newBox (cs := [.slice none 0 0]) hb7 hx7
  generalize w6.heap.size = b5 at M ⊢
  refine WR.storeAgg (cs' := [.slice Ag eg.length cg]) M.box (by rfl) (by rfl) (by rfl) (by rfl) one1 fun w8 hu8 hx8 hs8 => ?_
  replace M := M.setBox hu8 hx8
  clear hx7 hx8
  have hB5 := M.box
  rcases apply_1 (fls es) o with ⟨hz, hk, hd, hgd⟩ | ⟨hz, hgd⟩
  case inr =>
    have h0 : eg.length = 0 := by rw [← fls_len, hfg, hgd]; rfl
    (repeat (first | (refine WR.id ?_; first | refine WR.nil ?_ | refine WR.s ?_ | refine WR.g ?_) | (refine W.id ?_; first | refine W.seq fun _ _ => ?_ | refine W.region ?_ | refine W.s ?_ | refine W.e ?_) | (refine Ends.id ?_; first | refine Ends.seq (by assumption) ?_ | refine Ends.s ?_)))
    exact Ends.ret1 rfl rfl ⟨rfl, M.pre 3 rfl⟩
  rw [hgd] at hfg
  clear hgd
  have hkg := ok_doF hk hd
  rw [← hfg] at hkg
  have hcg := ok_cost hkg
  obtain ⟨_, hg⟩ := M.fs 0 rfl
  (repeat (first | (refine WR.id ?_; first | refine WR.nil ?_ | refine WR.s ?_ | refine WR.g ?_) | (refine W.id ?_; first | refine W.seq fun _ _ => ?_ | refine W.region ?_ | refine W.s ?_ | refine W.e ?_) | (refine Ends.id ?_; first | refine Ends.seq (by assumption) ?_ | refine Ends.s ?_)))
  refine WR.call rfl rfl (check_any _ _ _ _ hg (by omega)) ?_
  rintro _ w9 ⟨rfl, hb⟩
  refine ⟨_, rfl, ?_⟩
  replace M := M.below hb
  rw [ck_yes hkg]
  clear hB5 hg
  have hB2 := M.third.box
  (repeat (first | (refine WR.id ?_; first | refine WR.nil ?_ | refine WR.s ?_ | refine WR.g ?_) | (refine W.id ?_; first | refine W.seq fun _ _ => ?_ | refine W.region ?_ | refine W.s ?_ | refine W.e ?_) | (refine Ends.id ?_; first | refine Ends.seq (by assumption) ?_ | refine Ends.s ?_)))
  refine W.loop (X := Nat) (fun i => [(2, .pointer (some ⟨w.heap.size, 0, none⟩)), (3, .pointer (some ⟨b3, 0, none⟩)), (5, .pointer (some ⟨b5, 0, none⟩)), (38, .slice A es.length c), (39, .int .i64 (es.length : Nat)), (40, .int .i64 (i : Nat))])
    (fun i wr => i ≤ es.length ∧ Mem wr [aBox b5 [.slice Ag eg.length cg], aBox b3 [.int .i64 o.kind, .string ⟨o.name.toArray⟩, .string ⟨o.new.toArray⟩, .int .i64 o.at_, .slice Ab o.bytes.length cb], aBox w.heap.size [.slice A es.length c]] [zFs (.slice Ag eg.length cg) eg, zFs (.slice A es.length c) es, zSl 1 (.slice Ab o.bytes.length cb) o.bytes.length (bvs o.bytes), zPre w]) (fun i => es.length - i)
    0 (by repeat (first | exact .nil | refine .cons rfl ?_)) ⟨Nat.zero_le _, M⟩ ?_
  clear M hB2
  rintro i wr ⟨hi, M⟩ K hK
  (repeat (first | (refine WR.id ?_; first | refine WR.nil ?_ | refine WR.s ?_ | refine WR.g ?_) | (refine W.id ?_; first | refine W.seq fun _ _ => ?_ | refine W.region ?_ | refine W.s ?_ | refine W.e ?_) | (refine Ends.id ?_; first | refine Ends.seq (by assumption) ?_ | refine Ends.s ?_)))
  refine W.condP (by rfl) (fun hlt => ?_) (fun hlt => ?_)
  · have hil : i < es.length := by omega
    obtain ⟨⟨x, vx⟩, hx⟩ : ∃ x, es[i]? = some x := ⟨_, List.getElem?_eq_getElem hil⟩
    have hmem : x ∈ fls es := List.mem_map.2 ⟨(x, vx), List.mem_of_getElem? hx, rfl⟩
    obtain ⟨_, hf⟩ := M.fs 1 rfl
    obtain ⟨ba, oa, hA, hrng, -, hbi⟩ := fs_cells hf hx
    subst hA
    obtain ⟨Ai, ci, rfl, -⟩ := hbi.open_
    (repeat (first | (refine WR.id ?_; first | refine WR.nil ?_ | refine WR.s ?_ | refine WR.g ?_) | (refine W.id ?_; first | refine W.seq fun _ _ => ?_ | refine W.region ?_ | refine W.s ?_ | refine W.e ?_) | (refine Ends.id ?_; first | refine Ends.seq (by assumption) ?_ | refine Ends.s ?_)))
    refine WR.indexAddr (j := i) (by rfl) (by rfl) (by rfl) (by omega) ?_
    refine WR.loadRow (by rfl) hrng (by rfl) (by rfl) ?_
    refine WR.alloc (by rfl) fun wb hbb hxb hsb => ?_
    replace M := M.newBox (cs := [.string ByteArray.empty, .slice none 0 0]) hbb hxb
    generalize wr.heap.size = b8 at M ⊢
    clear hf hrng hbi hxb
    (repeat (first | (refine WR.id ?_; first | refine WR.nil ?_ | refine WR.s ?_ | refine WR.g ?_) | (refine W.id ?_; first | refine W.seq fun _ _ => ?_ | refine W.region ?_ | refine W.s ?_ | refine W.e ?_) | (refine Ends.id ?_; first | refine Ends.seq (by assumption) ?_ | refine Ends.s ?_)))
    refine WR.storeAgg (cs' := [.string ⟨x.name.toArray⟩, .slice Ai x.bytes.length ci]) M.box (by rfl) (by rfl) (by rfl) (by rfl) (by intro u hu; simp only [List.mem_cons, List.not_mem_nil, or_false] at hu; rcases hu with rfl | rfl <;> rfl) fun wc huc hxc hsc => ?_
    replace M := M.setBox huc hxc
    clear hxc
    have hB8 := M.box
    have hB5 := M.swap.box
    have hB3 := M.third.box
    have hB2 := M.fourth.box
    have hsk : (x.name == o.name) = true ∨ ((x.name == o.name) = false ∧ o.kind = 3 ∧ (x.name == o.new) = true) ∨ ((x.name == o.name) = false ∧ o.kind = 3 ∧ (x.name == o.new) = false) ∨ ((x.name == o.name) = false ∧ o.kind ≠ 3) := by
      cases x.name == o.name <;> cases x.name == o.new <;> by_cases o.kind = 3 <;> simp_all
    rcases hsk with hn | ⟨hn, h3, hn2⟩ | ⟨hn, h3, hn2⟩ | ⟨hn, h3⟩
    · (repeat (first | (refine WR.id ?_; first | refine WR.nil ?_ | refine WR.s ?_ | refine WR.g ?_) | (refine W.id ?_; first | refine W.seq fun _ _ => ?_ | refine W.region ?_ | refine W.s ?_ | refine W.e ?_) | (refine Ends.id ?_; first | refine Ends.seq (by assumption) ?_ | refine Ends.s ?_)))
      exact Ends.round hK (i + 1) (by repeat (first | exact .nil | refine .cons rfl ?_)) ⟨by omega, M.drop⟩ (by omega)
    · (repeat (first | (refine WR.id ?_; first | refine WR.nil ?_ | refine WR.s ?_ | refine WR.g ?_) | (refine W.id ?_; first | refine W.seq fun _ _ => ?_ | refine W.region ?_ | refine W.s ?_ | refine W.e ?_) | (refine Ends.id ?_; first | refine Ends.seq (by assumption) ?_ | refine Ends.s ?_)))
      exact Ends.round hK (i + 1) (by repeat (first | exact .nil | refine .cons rfl ?_)) ⟨by omega, M.drop⟩ (by omega)
    all_goals
      have hoth := others hk hd hmem (fun e => by rw [e, beq_self_eq_true] at hn; cases hn) (fun ⟨_, e⟩ => by first | (rw [e, beq_self_eq_true] at hn2; cases hn2) | exact h3 (by assumption))
      rw [← hfg] at hoth
      obtain ⟨_, hg⟩ := M.fs 0 rfl
      (repeat (first | (refine WR.id ?_; first | refine WR.nil ?_ | refine WR.s ?_ | refine WR.g ?_) | (refine W.id ?_; first | refine W.seq fun _ _ => ?_ | refine W.region ?_ | refine W.s ?_ | refine W.e ?_) | (refine Ends.id ?_; first | refine Ends.seq (by assumption) ?_ | refine Ends.s ?_)))
      refine WR.call rfl rfl (get_any _ _ _ _ _ hg (by omega)) ?_
      rintro _ wd ⟨v1, rfl, hg1, hb⟩
      refine ⟨_, rfl, ?_⟩
      replace M := M.below hb
      rw [hoth.1]
      rw [hoth.2] at hg1
      clear hB8 hB5 hB3 hB2 hg
      have hB2 := M.fourth.box
      obtain ⟨_, hf⟩ := M.fs 1 rfl
      obtain ⟨ba, oa, hA, -, hcell, hbi⟩ := fs_cells hf hx
      cases hA
      (repeat (first | (refine WR.id ?_; first | refine WR.nil ?_ | refine WR.s ?_ | refine WR.g ?_) | (refine W.id ?_; first | refine W.seq fun _ _ => ?_ | refine W.region ?_ | refine W.s ?_ | refine W.e ?_) | (refine Ends.id ?_; first | refine Ends.seq (by assumption) ?_ | refine Ends.s ?_)))
      refine WR.indexAddr (j := i) (by rfl) (by rfl) (by rfl) (by omega) ?_
      (repeat (first | (refine WR.id ?_; first | refine WR.nil ?_ | refine WR.s ?_ | refine WR.g ?_) | (refine W.id ?_; first | refine W.seq fun _ _ => ?_ | refine W.region ?_ | refine W.s ?_ | refine W.e ?_) | (refine Ends.id ?_; first | refine Ends.seq (by assumption) ?_ | refine Ends.s ?_)))
      refine WR.load (by rfl) hcell (by rfl) ?_
      (repeat (first | (refine WR.id ?_; first | refine WR.nil ?_ | refine WR.s ?_ | refine WR.g ?_) | (refine W.id ?_; first | refine W.seq fun _ _ => ?_ | refine W.region ?_ | refine W.s ?_ | refine W.e ?_) | (refine Ends.id ?_; first | refine Ends.seq (by assumption) ?_ | refine Ends.s ?_)))
      refine WR.call rfl rfl (eq_any _ _ _ _ _ _ _ hg1.bs hbi) ?_
      rintro _ _ ⟨rfl, nd, rfl⟩
      refine ⟨_, rfl, ?_⟩
      replace M := M.below (below_dn (Below.refl _ _) nd)
      rw [beq_self_eq_true]
      clear hB2 hcell hf hbi
      (repeat (first | (refine WR.id ?_; first | refine WR.nil ?_ | refine WR.s ?_ | refine WR.g ?_) | (refine W.id ?_; first | refine W.seq fun _ _ => ?_ | refine W.region ?_ | refine W.s ?_ | refine W.e ?_) | (refine Ends.id ?_; first | refine Ends.seq (by assumption) ?_ | refine Ends.s ?_)))
      exact Ends.round hK (i + 1) (by repeat (first | exact .nil | refine .cons rfl ?_)) ⟨by omega, M.drop⟩ (by omega)
  · have hB3 := M.swap.box
    have hB5 := M.box
    obtain ⟨_, hg⟩ := M.fs 0 rfl
    (repeat (first | (refine WR.id ?_; first | refine WR.nil ?_ | refine WR.s ?_ | refine WR.g ?_) | (refine W.id ?_; first | refine W.seq fun _ _ => ?_ | refine W.region ?_ | refine W.s ?_ | refine W.e ?_) | (refine Ends.id ?_; first | refine Ends.seq (by assumption) ?_ | refine Ends.s ?_)))
    refine WR.call rfl rfl (get_any o.name _ _ _ _ hg (by omega)) ?_
    rintro _ wa ⟨v1, rfl, hg1, hb⟩
    refine ⟨_, rfl, ?_⟩
    replace M := M.below hb
    clear hB3 hB5 hg
    have hB3 := M.swap.box
    have hB5 := M.box
    have hB2 := M.third.box
    have htold := told hk hd
    have hlb := getB_mem (nm := o.name) hkg
    rw [← hfg] at htold
    obtain ⟨A1, c1, rfl, k1, k2, -⟩ := hg1.bs.open_
    rcases htold with ⟨hkd, t1, t2⟩ | ⟨hkd, t1, n, ha, t2, t3, t4⟩ | ⟨hkd, t1, t2, t3⟩ | ⟨hkd, t1⟩
    · rw [t1]
      rw [t2] at hg1
      obtain ⟨_, hvb⟩ := M.sl 2 rfl
      (repeat (first | (refine WR.id ?_; first | refine WR.nil ?_ | refine WR.s ?_ | refine WR.g ?_) | (refine W.id ?_; first | refine W.seq fun _ _ => ?_ | refine W.region ?_ | refine W.s ?_ | refine W.e ?_) | (refine Ends.id ?_; first | refine Ends.seq (by assumption) ?_ | refine Ends.s ?_)))
      refine WR.call rfl rfl (eq_any _ _ _ _ _ _ _ (by rw [t2]; exact hg1.bs) hvb) ?_
      rintro _ _ ⟨rfl, nd, rfl⟩
      refine ⟨_, rfl, ?_⟩
      replace M := M.below (below_dn (Below.refl _ _) nd)
      rw [beq_self_eq_true]
      clear hB3 hB5 hB2
      (repeat (first | (refine WR.id ?_; first | refine WR.nil ?_ | refine WR.s ?_ | refine WR.g ?_) | (refine W.id ?_; first | refine W.seq fun _ _ => ?_ | refine W.region ?_ | refine W.s ?_ | refine W.e ?_) | (refine Ends.id ?_; first | refine Ends.seq (by assumption) ?_ | refine Ends.s ?_)))
      exact Ends.ret1 rfl rfl ⟨rfl, M.pre 3 rfl⟩
    · rw [t1]
      obtain ⟨_, hvb⟩ := M.sl 2 rfl
      have hB3n : Box wa b3 [.int .i64 o.kind, .string ⟨o.name.toArray⟩, .string ⟨o.new.toArray⟩, .int .i64 (n : Nat), .slice Ab o.bytes.length cb] := by
        have h := hB3
        rw [ha] at h
        exact h
      have hsub := hg1.bs.sub n o.bytes.length (by omega)
      rw [t3] at hsub
      have hsub2 : Bs wa (wr.heap.size ≤ ·) (.slice (if c1 = n then A1 else A1.map (·.add (n * 1))) (n + o.bytes.length - n) (c1 - n)) o.bytes := by rw [Nat.mul_one, Nat.add_sub_cancel_left]; exact hsub
      clear hB3 hB5 hB2 hsub
      (repeat (first | (refine WR.id ?_; first | refine WR.nil ?_ | refine WR.s ?_ | refine WR.g ?_) | (refine W.id ?_; first | refine W.seq fun _ _ => ?_ | refine W.region ?_ | refine W.s ?_ | refine W.e ?_) | (refine Ends.id ?_; first | refine Ends.seq (by assumption) ?_ | refine Ends.s ?_)))
      apply W.draws [[], [0], [1], [2], [3, 2], [2], [5, 2], [2], [7, 2], [8, 2], [6, 9, 2], [4, 10, 2], [2, 11], [12], [13], [13], [15, 13], [13], [17, 13], [13], [19, 13], [20, 13], [18, 21, 13], [14, 16, 22, 13], [13], [24, 13], [23, 25, 13], [13, 26], [27]]
        [is _, is _, is _, is _, is _, is _, is _, is _, is _, is _, is _, is _, is _, is _, is _, is _, is _, is _, is _, is _, is _, is _, is _, is _, is _, is _, is _, is _, is _] (by kernel_rfl) (by kernel_rfl) (by rfl) (by kernel_rfl) ⟨stab_is _, stab_is _, stab_is _, stab_is _, stab_is _, stab_is _, stab_is _, stab_is _, stab_is _, stab_is _, stab_is _, stab_is _, stab_is _, stab_is _, stab_is _, stab_is _, stab_is _, stab_is _, stab_is _, stab_is _, stab_is _, stab_is _, stab_is _, stab_is _, stab_is _, stab_is _, stab_is _, stab_is _, stab_is _, trivial⟩ ?step1 ?fin1
      case step1 =>
        refine ⟨fun wq hbq Kq hKq => ?_, fun wq hbq Kq hKq => ?_, fun wq hbq Kq hKq => ?_, fun wq hbq Kq hKq => ?_, fun wq hbq Kq hKq => ?_, fun wq hbq Kq hKq => ?_, fun wq hbq Kq hKq => ?_, fun wq hbq Kq hKq => ?_, fun wq hbq Kq hKq => ?_, fun wq hbq Kq hKq => ?_, fun wq hbq Kq hKq => ?_, fun wq hbq Kq hKq => ?_, fun wq hbq Kq hKq => ?_, fun wq hbq Kq hKq => ?_, fun wq hbq Kq hKq => ?_, fun wq hbq Kq hKq => ?_, fun wq hbq Kq hKq => ?_, fun wq hbq Kq hKq => ?_, fun wq hbq Kq hKq => ?_, fun wq hbq Kq hKq => ?_, fun wq hbq Kq hKq => ?_, fun wq hbq Kq hKq => ?_, fun wq hbq Kq hKq => ?_, fun wq hbq Kq hKq => ?_, fun wq hbq Kq hKq => ?_, fun wq hbq Kq hKq => ?_, fun wq hbq Kq hKq => ?_, fun wq hbq Kq hKq => ?_, fun wq hbq Kq hKq => ?_, trivial⟩
        · have hB3 := hB3n.below hbq
          refine WR.s ?_; refine WR.nil ?_; exact Ends.one hKq rfl rfl (Below.refl _ _)
        · rintro _ rfl
          have hB3 := hB3n.below hbq
          refine WR.s ?_; refine WR.nil ?_; exact Ends.one hKq rfl rfl (Below.refl _ _)
        · rintro _ rfl
          have hB3 := hB3n.below hbq
          refine WR.s ?_; refine WR.nil ?_; exact Ends.one hKq rfl rfl (Below.refl _ _)
        · rintro _ rfl
          have hB3 := hB3n.below hbq
          first
            | (refine WR.guard_yes rfl rfl ?_; refine WR.s ?_; refine WR.nil ?_; exact Ends.one hKq rfl rfl (Below.refl _ _))
            | (refine WR.gn ?_; refine WR.nil ?_; exact Ends.one hKq rfl rfl (Below.refl _ _))
        · rintro _ rfl _ rfl
          have hB3 := hB3n.below hbq
          first
            | (refine WR.guard_yes rfl rfl ?_; refine WR.s ?_; refine WR.nil ?_; exact Ends.one hKq rfl rfl (Below.refl _ _))
            | (refine WR.gn ?_; refine WR.nil ?_; exact Ends.one hKq rfl rfl (Below.refl _ _))
        · rintro _ rfl
          have hB3 := hB3n.below hbq
          first
            | (refine WR.guard_yes rfl rfl ?_; refine WR.s ?_; refine WR.nil ?_; exact Ends.one hKq rfl rfl (Below.refl _ _))
            | (refine WR.gn ?_; refine WR.nil ?_; exact Ends.one hKq rfl rfl (Below.refl _ _))
        · rintro _ rfl _ rfl
          have hB3 := hB3n.below hbq
          first
            | (refine WR.guard_yes rfl rfl ?_; refine WR.s ?_; refine WR.nil ?_; exact Ends.one hKq rfl rfl (Below.refl _ _))
            | (refine WR.gn ?_; refine WR.nil ?_; exact Ends.one hKq rfl rfl (Below.refl _ _))
        · rintro _ rfl
          have hB3 := hB3n.below hbq
          first
            | (refine WR.guard_yes rfl rfl ?_; refine WR.s ?_; refine WR.nil ?_; exact Ends.one hKq rfl rfl (Below.refl _ _))
            | (refine WR.gn ?_; refine WR.nil ?_; exact Ends.one hKq rfl rfl (Below.refl _ _))
        · rintro _ rfl _ rfl
          have hB3 := hB3n.below hbq
          first
            | (refine WR.guard_yes rfl rfl ?_; refine WR.s ?_; refine WR.nil ?_; exact Ends.one hKq rfl rfl (Below.refl _ _))
            | (refine WR.gn ?_; refine WR.nil ?_; exact Ends.one hKq rfl rfl (Below.refl _ _))
        · rintro _ rfl _ rfl
          have hB3 := hB3n.below hbq
          first
            | (refine WR.guard_yes rfl rfl ?_; refine WR.s ?_; refine WR.nil ?_; exact Ends.one hKq rfl rfl (Below.refl _ _))
            | (refine WR.gn ?_; refine WR.nil ?_; exact Ends.one hKq rfl rfl (Below.refl _ _))
        · rintro _ rfl _ rfl _ rfl
          have hB3 := hB3n.below hbq
          first
            | (refine WR.guard_yes rfl rfl ?_; refine WR.s ?_; refine WR.nil ?_; exact Ends.one hKq rfl rfl (Below.refl _ _))
            | (refine WR.gn ?_; refine WR.nil ?_; exact Ends.one hKq rfl rfl (Below.refl _ _))
        · rintro _ rfl _ rfl _ rfl
          have hB3 := hB3n.below hbq
          first
            | (refine WR.guard_yes rfl rfl ?_; refine WR.s ?_; refine WR.nil ?_; exact Ends.one hKq rfl rfl (Below.refl _ _))
            | (refine WR.gn ?_; refine WR.nil ?_; exact Ends.one hKq rfl rfl (Below.refl _ _))
        · rintro _ rfl _ rfl
          have hB3 := hB3n.below hbq
          refine WR.s ?_; refine WR.nil ?_; exact Ends.one hKq rfl rfl (Below.refl _ _)
        · rintro _ rfl
          have hB3 := hB3n.below hbq
          refine WR.s ?_; refine WR.nil ?_; exact Ends.one hKq rfl rfl (Below.refl _ _)
        · rintro _ rfl
          have hB3 := hB3n.below hbq
          first
            | (refine WR.guard_yes rfl rfl ?_; refine WR.s ?_; refine WR.nil ?_; exact Ends.one hKq rfl rfl (Below.refl _ _))
            | (refine WR.gn ?_; refine WR.nil ?_; exact Ends.one hKq rfl rfl (Below.refl _ _))
        · rintro _ rfl
          have hB3 := hB3n.below hbq
          first
            | (refine WR.guard_yes rfl rfl ?_; refine WR.s ?_; refine WR.nil ?_; exact Ends.one hKq rfl rfl (Below.refl _ _))
            | (refine WR.gn ?_; refine WR.nil ?_; exact Ends.one hKq rfl rfl (Below.refl _ _))
        · rintro _ rfl _ rfl
          have hB3 := hB3n.below hbq
          first
            | (refine WR.guard_yes rfl rfl ?_; refine WR.s ?_; refine WR.nil ?_; exact Ends.one hKq rfl rfl (Below.refl _ _))
            | (refine WR.gn ?_; refine WR.nil ?_; exact Ends.one hKq rfl rfl (Below.refl _ _))
        · rintro _ rfl
          have hB3 := hB3n.below hbq
          first
            | (refine WR.guard_yes rfl rfl ?_; refine WR.s ?_; refine WR.nil ?_; exact Ends.one hKq rfl rfl (Below.refl _ _))
            | (refine WR.gn ?_; refine WR.nil ?_; exact Ends.one hKq rfl rfl (Below.refl _ _))
        · rintro _ rfl _ rfl
          have hB3 := hB3n.below hbq
          first
            | (refine WR.guard_yes rfl rfl ?_; refine WR.s ?_; refine WR.nil ?_; exact Ends.one hKq rfl rfl (Below.refl _ _))
            | (refine WR.gn ?_; refine WR.nil ?_; exact Ends.one hKq rfl rfl (Below.refl _ _))
        · rintro _ rfl
          have hB3 := hB3n.below hbq
          first
            | (refine WR.guard_yes rfl rfl ?_; refine WR.s ?_; refine WR.nil ?_; exact Ends.one hKq rfl rfl (Below.refl _ _))
            | (refine WR.gn ?_; refine WR.nil ?_; exact Ends.one hKq rfl rfl (Below.refl _ _))
        · rintro _ rfl _ rfl
          have hB3 := hB3n.below hbq
          first
            | (refine WR.guard_yes rfl rfl ?_; refine WR.s ?_; refine WR.nil ?_; exact Ends.one hKq rfl rfl (Below.refl _ _))
            | (refine WR.gn ?_; refine WR.nil ?_; exact Ends.one hKq rfl rfl (Below.refl _ _))
        · rintro _ rfl _ rfl
          have hB3 := hB3n.below hbq
          first
            | (refine WR.guard_yes rfl rfl ?_; refine WR.s ?_; refine WR.nil ?_; exact Ends.one hKq rfl rfl (Below.refl _ _))
            | (refine WR.gn ?_; refine WR.nil ?_; exact Ends.one hKq rfl rfl (Below.refl _ _))
        · rintro _ rfl _ rfl _ rfl
          have hB3 := hB3n.below hbq
          first
            | (refine WR.guard_yes rfl rfl ?_; refine WR.addN (i := n) (j := o.bytes.length) (by rfl) (by rfl) (by rfl) (by omega) ?_; refine WR.nil ?_; exact Ends.one hKq rfl rfl (Below.refl _ _))
            | (refine WR.gn ?_; refine WR.nil ?_; exact Ends.one hKq rfl rfl (Below.refl _ _))
        · rintro _ rfl _ rfl _ rfl _ rfl
          have hB3 := hB3n.below hbq
          first
            | (refine WR.guard_yes rfl rfl ?_; refine WR.slice_lh (l := n) (h := n + o.bytes.length) (by rfl) (by rfl) (by rfl) (by rfl) (by omega) (by omega) ?_; refine WR.nil ?_; exact Ends.one hKq rfl rfl (Below.refl _ _))
            | (refine WR.gn ?_; refine WR.nil ?_; exact Ends.one hKq rfl rfl (Below.refl _ _))
        · rintro _ rfl
          have hB3 := hB3n.below hbq
          first
            | (refine WR.guard_yes rfl rfl ?_; refine WR.s ?_; refine WR.nil ?_; exact Ends.one hKq rfl rfl (Below.refl _ _))
            | (refine WR.gn ?_; refine WR.nil ?_; exact Ends.one hKq rfl rfl (Below.refl _ _))
        · rintro _ rfl _ rfl
          have hB3 := hB3n.below hbq
          first
            | (refine WR.guard_yes rfl rfl ?_; refine WR.s ?_; refine WR.nil ?_; exact Ends.one hKq rfl rfl (Below.refl _ _))
            | (refine WR.gn ?_; refine WR.nil ?_; exact Ends.one hKq rfl rfl (Below.refl _ _))
        · rintro _ rfl _ rfl _ rfl
          have hB3 := hB3n.below hbq
          first
            | (refine WR.guard_yes rfl rfl ?_; refine WR.call (by rfl) (by rfl) (eq_any _ _ _ _ _ _ _ (Bs.below hsub2 hbq) (Sl.below hvb (by decide) hbq)) ?_; rintro _ _ ⟨rfl, nd, rfl⟩; refine ⟨_, rfl, ?_⟩; rw [beq_self_eq_true]; refine WR.nil ?_; exact Ends.one hKq rfl rfl (below_dn (Below.refl _ _) nd) )
            | (refine WR.gn ?_; refine WR.nil ?_; exact Ends.one hKq rfl rfl (Below.refl _ _))
        · rintro _ rfl _ rfl
          have hB3 := hB3n.below hbq
          refine WR.s ?_; refine WR.nil ?_; exact Ends.one hKq rfl rfl (Below.refl _ _)
        · rintro _ rfl
          have hB3 := hB3n.below hbq
          refine WR.s ?_; refine WR.nil ?_; exact Ends.one hKq rfl rfl (Below.refl _ _)
      intro wq hbq
      rintro _ rfl _ rfl _ rfl _ rfl _ rfl _ rfl _ rfl _ rfl _ rfl _ rfl _ rfl _ rfl _ rfl _ rfl _ rfl _ rfl _ rfl _ rfl _ rfl _ rfl _ rfl _ rfl _ rfl _ rfl _ rfl _ rfl _ rfl _ rfl _ rfl
      refine Ends.id ?_
      have hB3 := hB3n.below hbq
      replace M := M.below hbq
      (repeat (first | (refine WR.id ?_; first | refine WR.nil ?_ | refine WR.s ?_ | refine WR.g ?_) | (refine W.id ?_; first | refine W.seq fun _ _ => ?_ | refine W.region ?_ | refine W.s ?_ | refine W.e ?_) | (refine Ends.id ?_; first | refine Ends.seq (by assumption) ?_ | refine Ends.s ?_)))
      exact Ends.ret1 rfl rfl ⟨rfl, M.pre 3 rfl⟩
    · obtain ⟨_, hf⟩ := M.fs 1 rfl
      (repeat (first | (refine WR.id ?_; first | refine WR.nil ?_ | refine WR.s ?_ | refine WR.g ?_) | (refine W.id ?_; first | refine W.seq fun _ _ => ?_ | refine W.region ?_ | refine W.s ?_ | refine W.e ?_) | (refine Ends.id ?_; first | refine Ends.seq (by assumption) ?_ | refine Ends.s ?_)))
      refine WR.call rfl rfl (get_any o.name _ _ _ _ hf (by omega)) ?_
      rintro _ we ⟨v3, rfl, hg3, hb3⟩
      refine ⟨_, rfl, ?_⟩
      replace M := M.below hb3
      clear hB3 hB5 hB2 hf
      have hB3 := M.swap.box
      have hB5 := M.box
      obtain ⟨_, hg⟩ := M.fs 0 rfl
      (repeat (first | (refine WR.id ?_; first | refine WR.nil ?_ | refine WR.s ?_ | refine WR.g ?_) | (refine W.id ?_; first | refine W.seq fun _ _ => ?_ | refine W.region ?_ | refine W.s ?_ | refine W.e ?_) | (refine Ends.id ?_; first | refine Ends.seq (by assumption) ?_ | refine Ends.s ?_)))
      refine WR.call rfl rfl (get_any o.new _ _ _ _ hg (by omega)) ?_
      rintro _ wf ⟨v4, rfl, hg4, hb4⟩
      refine ⟨_, rfl, ?_⟩
      replace M := M.below hb4
      rw [t1]
      rw [t2] at hg4
      clear hB3 hB5 hg
      have hB3 := M.swap.box
      have hg3 := Bs.below hg3.bs hb4
      (repeat (first | (refine WR.id ?_; first | refine WR.nil ?_ | refine WR.s ?_ | refine WR.g ?_) | (refine W.id ?_; first | refine W.seq fun _ _ => ?_ | refine W.region ?_ | refine W.s ?_ | refine W.e ?_) | (refine Ends.id ?_; first | refine Ends.seq (by assumption) ?_ | refine Ends.s ?_)))
      refine WR.call rfl rfl (eq_any _ _ _ _ _ _ _ hg3 hg4.bs) ?_
      rintro _ _ ⟨rfl, nd, rfl⟩
      refine ⟨_, rfl, ?_⟩
      replace M := M.below (below_dn (Below.refl _ _) nd)
      rw [beq_self_eq_true]
      clear hB3
      have hB3 := M.swap.box
      cases hnn : o.name == o.new with
      | true =>
        have he : getE (fls eg) o.name = 0 := t3.2 (beq_iff_eq.1 hnn)
        (repeat (first | (refine WR.id ?_; first | refine WR.nil ?_ | refine WR.s ?_ | refine WR.g ?_) | (refine W.id ?_; first | refine W.seq fun _ _ => ?_ | refine W.region ?_ | refine W.s ?_ | refine W.e ?_) | (refine Ends.id ?_; first | refine Ends.seq (by assumption) ?_ | refine Ends.s ?_)))
        exact Ends.ret1 rfl rfl ⟨rfl, M.pre 3 rfl⟩
      | false =>
        have he : ¬ getE (fls eg) o.name = 0 := fun e => by rw [t3.1 e, beq_self_eq_true] at hnn; cases hnn
        (repeat (first | (refine WR.id ?_; first | refine WR.nil ?_ | refine WR.s ?_ | refine WR.g ?_) | (refine W.id ?_; first | refine W.seq fun _ _ => ?_ | refine W.region ?_ | refine W.s ?_ | refine W.e ?_) | (refine Ends.id ?_; first | refine Ends.seq (by assumption) ?_ | refine Ends.s ?_)))
        exact Ends.ret1 rfl rfl ⟨rfl, M.pre 3 rfl⟩
    · rw [t1]
      (repeat (first | (refine WR.id ?_; first | refine WR.nil ?_ | refine WR.s ?_ | refine WR.g ?_) | (refine W.id ?_; first | refine W.seq fun _ _ => ?_ | refine W.region ?_ | refine W.s ?_ | refine W.e ?_) | (refine Ends.id ?_; first | refine Ends.seq (by assumption) ?_ | refine Ends.s ?_)))
      exact Ends.ret1 rfl rfl ⟨rfl, M.pre 3 rfl⟩
end Go.Proofs.Ytjgobljclodpfaa
