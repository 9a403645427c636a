/- Links: bytes cloned, a node; Send. No condition beyond sizes. -/
import Derived.Test.YtibmcpbkialbnaaLk3
namespace Go.Proofs.Ytibmcpbkialbnaa
open Go.RowKit K L E
open Go.Maps (Keyed)
set_option linter.unusedVariables false
set_option linter.unusedSimpArgs false

set_option maxHeartbeats 400000 in
theorem bclone_any (v : Value) (xs : List UInt8) (w : World) (F : Nat → Prop) (h : Bs w F v xs) (hb : xs.length ≤ 1073741824) :
    Calls Try.prog 28 #[v] w fun e w' => ∃ v', e = .returned v' ∧ Ob w' w.heap.size 5 v' xs ∧ Below w.heap.size w w' := by
  have hs := h
  obtain ⟨A, c, rfl, h1, h2, h3, -⟩ := h.open_
  have hq := fun w n c => Lib.run_eql_slice_nil (P := Try.prog) w 22 5 A n c 0 0 Try.underlying22
  cases A with
  | none =>
    obtain rfl : c = 0 := h3 rfl
    obtain rfl : xs = [] := List.eq_nil_of_length_eq_zero (by omega)
    go_enter Try.func28, Try.ntmps28
    go_wp2
    go_ret
    exact ⟨_, rfl, Ob.nil _ _ _, Below.refl _ _⟩
  | some ad =>
    go_enter Try.func28, Try.ntmps28
    go_wp2_with (at_builtin; refine app Try.el8 rfl _ _ rfl w.heap.size (World.ownsRow_lit w _ 0 (Nat.le_refl _) (by simp [maxLen]) rfl) (Sl.below hs (by omega) ((Below.refl _ _).alloc (Nat.le_refl _) _)) rfl rfl (one_bvs xs) (by omega) (by omega) (by simp) ?_; intro v' w1 ho hg)
    go_ret
    rw [Nat.zero_add, List.nil_append] at ho
    exact ⟨_, rfl, ho, ((Below.refl _ _).alloc (Nat.le_refl _) _).grown hg (by simp) (fun k hk => by cases hk; exact Nat.le_refl _)⟩

def nodeB (n : Int) : Bool := decide (1 ≤ n) && decide (n ≤ 6)
theorem node_any (n : Int) (w : World) : Calls Try.prog 27 #[.int .i64 n] w fun e w' => e = .returned (.bool (nodeB n)) ∧ w' = w := by
  refine enter Try.func27 rfl Try.ntmps27 rfl rfl ?_
  by_cases h : 1 ≤ n
  · (repeat (first | (refine WR.id ?_; first | refine WR.nil ?_ | refine WR.s ?_ | refine WR.g ?_) | (refine W.id ?_; first | refine W.seq fun _ _ => ?_ | refine W.region ?_ | refine W.s ?_ | refine W.e ?_) | (refine Ends.id ?_; first | refine Ends.seq (by assumption) ?_ | refine Ends.s ?_)))
    exact Ends.ret1 rfl rfl ⟨by simp [nodeB, h], rfl⟩
  · (repeat (first | (refine WR.id ?_; first | refine WR.nil ?_ | refine WR.s ?_ | refine WR.g ?_) | (refine W.id ?_; first | refine W.seq fun _ _ => ?_ | refine W.region ?_ | refine W.s ?_ | refine W.e ?_) | (refine Ends.id ?_; first | refine Ends.seq (by assumption) ?_ | refine Ends.s ?_)))
    exact Ends.ret1 rfl rfl ⟨by simp [nodeB, h], rfl⟩

end Go.Proofs.Ytibmcpbkialbnaa
namespace Go.Proofs.Ytibmcpbkialbnaa
open Go.RowKit K L E
open Go.Maps (Keyed)
set_option linter.unusedVariables false
set_option linter.unusedSimpArgs false

variable {g c : Nat} {l : PL} {es : List MapEntry}
def PL.put (l : PL) (p : PK) (fs : List PF) (n : Nat) : PL := ⟨fun q => if q = p then fs else l.m q, n⟩
theorem rows_put (l : PL) {es : List MapEntry} (p : PK) (fs : List PF) (n : Nat) (h : ∀ e ∈ es, e.key ≠ kv p) (hk : ∀ e ∈ es, ∃ p : PK, e.key = kv p ∧ i64 p.1 ∧ i64 p.2) : (es.map fun e => aFl e.val ((l.put p fs n).m (pk e.key))) = es.map fun e => aFl e.val (l.m (pk e.key)) := by
  refine List.map_congr_left fun e he => ?_
  obtain ⟨q, hq, _⟩ := hk e he
  have : q ≠ p := fun hh => h e he (by rw [hq, hh])
  simp [PL.put, hq, pk_kv, this]
theorem EsOk.cnt (hk : EsOk l es) (p : PK) : (l.m p).length ≤ l.n := by
  rcases hk.find p with ⟨hn, h0⟩ | ⟨l1, e, l2, rfl, he⟩
  · rw [h0]; exact Nat.zero_le _
  · rw [← hk.sum]
    simp only [List.map_append, List.map_cons, List.sum_append, List.sum_cons, he, pk_kv]
    omega
theorem entry_lk (hk : EsOk l es) (p : PK) (h1 : i64 p.1) (h2 : i64 p.2) (hap : ∀ w, IsMap Try.prog 66 w g es c → True) : ∃ l1 e l2 c', e.key = kv p ∧
    (∀ w, IsMap Try.prog 66 w g es c → ∃ w', (Instr.mapEntry 63 (.map (some g)) (kv p)).run Try.prog w = .ok (.tuple #[e.val, .int .i64 (e.born : Nat)]) w' ∧ IsMap Try.prog 66 w' g (l1 ++ e :: l2) c' ∧ Upd (· = g) w w') ∧
    (∀ w Os Zs, Mem w ((es.map fun e => aFl e.val (l.m (pk e.key))) ++ Os) Zs → Mem w (aFl e.val (l.m p) :: (((l1 ++ l2).map fun e => aFl e.val (l.m (pk e.key))) ++ Os)) Zs) ∧ (∀ x ∈ l1 ++ l2, ∃ q : PK, x.key = kv q ∧ i64 q.1 ∧ i64 q.2) ∧ (∀ q : PK, q ≠ p → (∀ x ∈ l1 ++ l2, x.key ≠ kv q) → l.m q = []) ∧ ((l1 ++ l2).map fun e => (l.m (pk e.key)).length).sum + (l.m p).length = l.n := by
  obtain ⟨kl, hkl⟩ := keyOf_kv p h1 h2
  rcases hk.find p with ⟨hn, h0⟩ | ⟨l1, e, l2, rfl, he⟩
  · refine ⟨es, ⟨kv p, .slice none 0 0, c⟩, [], c + 1, rfl, fun w hm => ?_, fun w Os Zs M => ?_, fun x hx => hk.keys x (by simpa using hx), fun q _ hq => hk.rest q (by simpa using hq), by rw [h0, List.append_nil]; exact hk.sum⟩
    · exact run_entry0 Try.keyed Try.underlying63 (zero_fls w) hm hkl hn
    · rw [h0, List.append_nil]
      obtain ⟨G, g1, g2, g3⟩ := M
      exact ⟨G, g1, g2, _, aFl_nil w, fun x h => h.elim, g3.imp fun x hx => hx.elim id False.elim⟩
  · refine ⟨l1, e, l2, c, he, fun w hm => ?_, fun w Os Zs M => ?_, fun x hx => hk.keys x ?_, fun q hq hx => hk.rest q fun x hx2 => ?_, by rw [← hk.sum]; simp only [List.map_append, List.map_cons, List.sum_append, List.sum_cons, he, pk_kv]; omega⟩
    · exact run_entry1 Try.keyed Try.underlying63 hm hkl he
    · have := M.pick (f := fun e => aFl e.val (l.m (pk e.key)))
      simp only [he, pk_kv] at this
      exact this
    · rcases List.mem_append.1 hx with hx | hx <;> simp [hx]
    · rcases List.mem_append.1 hx2 with h | h
      · exact hx x (List.mem_append_left _ h)
      · rcases List.mem_cons.1 h with rfl | h
        · rw [he]; exact fun hh => hq (kv_inj hh).symm
        · exact hx x (List.mem_append_right _ h)
/-- One entry turned: the links with other flights of one pair. -/
theorem E.Mem.putLk {w : World} {b n : Nat} {v : Value} {fs : List PF} {p : PK} {l1 l2 : List MapEntry} {e : MapEntry} {Os Zs : List Ass} (he : e.key = kv p) (h1 : i64 p.1) (h2 : i64 p.2) (hk1 : ∀ x ∈ l1 ++ l2, ∃ q : PK, x.key = kv q ∧ i64 q.1 ∧ i64 q.2) (hk2 : ∀ q : PK, q ≠ p → (∀ x ∈ l1 ++ l2, x.key ≠ kv q) → l.m q = [])
    (hs : ((l1 ++ l2).map fun e => (l.m (pk e.key)).length).sum + fs.length = n) (ht : n ≤ 512)
    (M : Mem w (aFl v fs :: aBox b [.map (some g), .int .i64 (n : Nat)] :: aMap Try.prog 66 g (l1 ++ { e with val := v } :: l2) c :: (((l1 ++ l2).map fun e => aFl e.val (l.m (pk e.key))) ++ Os)) Zs) : Mem w (aLk b (l.put p fs n) :: Os) Zs := by
  have hm := M.third.map
  have ha := hm.apart
  have hne : ∀ x ∈ l1 ++ l2, x.key ≠ kv p := fun x hx => by
    rw [← he]
    rcases List.mem_append.1 hx with h | h
    · exact ha.1 x h
    · exact ha.2 x h
  have hr := rows_put l p fs n hne hk1
  have hrs : ((l1 ++ l2).map fun e => ((l.put p fs n).m (pk e.key)).length) = (l1 ++ l2).map fun e => (l.m (pk e.key)).length := by
    refine List.map_congr_left fun e he => ?_
    obtain ⟨q, hq, _⟩ := hk1 e he
    have : q ≠ p := fun hh => hne e he (by rw [hq, hh])
    simp [PL.put, hq, pk_kv, this]
  have hpp : (l.put p fs n).m p = fs := by simp [PL.put]
  refine E.Mem.mkLk (g := g) (c := c) (es := l1 ++ { e with val := v } :: l2) ⟨fun x hx => ?_, fun q hq => ?_, ?_, ht⟩ ?_
  · rcases List.mem_append.1 hx with hx | hx
    · exact hk1 x (List.mem_append_left _ hx)
    · rcases List.mem_cons.1 hx with rfl | hx
      · exact ⟨p, he, h1, h2⟩
      · exact hk1 x (List.mem_append_right _ hx)
  · have hqp : q ≠ p := fun hh => hq { e with val := v } (by simp) (by rw [hh]; exact he)
    simp only [PL.put, if_neg hqp]
    refine hk2 q hqp fun x hx => hq x ?_
    rcases List.mem_append.1 hx with h | h <;> simp [h]
  · show _ = n
    rw [← hrs] at hs
    simp only [List.map_append, List.map_cons, List.sum_append, List.sum_cons, he, pk_kv, hpp] at hs ⊢
    omega
  · rw [← hr] at M
    have M2 := M.third.third
    refine M2.under1 fun M => M.under1 fun M => M.perm ?_
    simp only [List.map_append, List.map_cons, List.append_assoc, he, pk_kv, hpp, List.cons_append]
    exact List.perm_middle.symm

end Go.Proofs.Ytibmcpbkialbnaa
namespace Go.Proofs.Ytibmcpbkialbnaa
open Go.RowKit K L E
set_option linter.unusedVariables false
set_option linter.unusedSimpArgs false

theorem Try.elF : Elem Try.prog 43 24 4 48 (.agg #[.int .i64 0, .int .i64 0, .int .i64 0, .slice none 0 0]) := ⟨Try.underlying43, by kernel_rfl, rfl, by decide⟩
/-- A row of flights, laid open and shut. -/
theorem E.Mem.fl {w : World} {v : Value} {fs : List PF} {Os Zs : List Ass} (M : Mem w (aFl v fs :: Os) Zs) : ∃ vs : List Value, vs.length = fs.length ∧ Mem w (aLr 24 4 v fs.length (List.zipWith PF.cells fs vs).flatten :: (List.zipWith (fun v (f : PF) => aBy v f.bytes) vs fs ++ Os)) Zs := by
  obtain ⟨vs, M⟩ := M.ex
  obtain ⟨hl, M⟩ := M.cond
  exact ⟨vs, hl, M.split.under1 fun M => M.unall⟩
theorem E.Mem.mkFl {w : World} {v : Value} {fs : List PF} {Os Zs : List Ass} (vs : List Value) (hl : vs.length = fs.length) (M : Mem w (aLr 24 4 v fs.length (List.zipWith PF.cells fs vs).flatten :: (List.zipWith (fun v (f : PF) => aBy v f.bytes) vs fs ++ Os)) Zs) : Mem w (aFl v fs :: Os) Zs :=
  Mem.mkEx (f := fun vs : List Value => _) vs (Mem.mkIf hl (M.under1 fun M => M.all).join)
theorem zero_f (w : World) : (zeroValue 24).run Try.prog w = .ok (.agg #[.int .i64 0, .int .i64 0, .int .i64 0, .slice none 0 0]) w := by kernel_rfl
theorem row_fl (cs : List Value) (hc : cs.length = 4) (w : World) : (Instr.buildSlice 43 1 #[(0, .agg cs.toArray)]).run Try.prog w = .ok (.slice (some ⟨w.heap.size, 0, none⟩) 1 1) (w.alloc (.cells cs.toArray 24)) :=
  run_row_one (n := 4) Try.underlying43 zero_f rfl (size_of (by kernel_rfl)) (by decide) (by decide) _ (by rw [List.size_toArray, hc]) w
theorem sl_one (w : World) (t : TypeId) (cs : List Value) {k B : Nat} (hk : cs.length = k) (hB : B ≤ w.heap.size) : K.Sl (w.alloc (.cells cs.toArray t)) (B ≤ ·) k (.slice (some ⟨w.heap.size, 0, none⟩) 1 1) 1 cs :=
  ⟨by omega, _, 1, rfl, Nat.le_refl _, by decide, (fun h => by cases h), fun _ => ⟨_, rfl, hB, fun j u hu => by
    rw [Addr.add_lit, Nat.zero_add, cell_in (heap_alloc_last _ _)]; simpa using hu⟩⟩
theorem app_fl {w : World} {v vb vx : Value} {fs : List PF} {f : PF} {F : Nat → Prop} {Os Zs : List Ass} (M : Mem w (aFl v fs :: aBy vb f.bytes :: Os) Zs) (hx : Sl w F 4 vx 1 (f.cells vb)) (h1 : vb.oneCell' = true) (hb : fs.length + 1 ≤ 1073741824) (ty : TypeId) :
    ∃ v' w', (Builtin.append_ #[43, 43] ty #[v, vx]).run Try.prog w = .ok v' w' ∧ Mem w' (aFl v' (fs ++ [f]) :: Os) Zs ∧ Upd (fun b => v.ownBlock = some b) w w' := by
  obtain ⟨vs, hl, M⟩ := M.fl
  obtain ⟨v', w', hr, ho, hu, hv⟩ := run_lapp Try.elF ty M.lrow hx (by intro u hu; simp [PF.cells] at hu; rcases hu with rfl | rfl | rfl | rfl <;> first | rfl | exact h1) hb (by decide)
  refine ⟨v', w', hr, E.Mem.mkFl (vs ++ [vb]) (by simp [hl]) ?_, hu⟩
  have M2 := M.setLRow hu ho hv
  have e1 : (List.zipWith PF.cells (fs ++ [f]) (vs ++ [vb])).flatten = (List.zipWith PF.cells fs vs).flatten ++ f.cells vb := by
    rw [List.zipWith_append hl.symm]; simp
  have e2 : List.zipWith (fun v (f : PF) => aBy v f.bytes) (vs ++ [vb]) (fs ++ [f]) = List.zipWith (fun v (f : PF) => aBy v f.bytes) vs fs ++ [aBy vb f.bytes] := by
    rw [List.zipWith_append hl]; rfl
  rw [e1, e2, List.length_append, List.length_singleton, List.append_assoc]
  exact M2

end Go.Proofs.Ytibmcpbkialbnaa
