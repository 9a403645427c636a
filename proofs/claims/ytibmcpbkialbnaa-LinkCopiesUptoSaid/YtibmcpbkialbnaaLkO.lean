/- Layer 12's reference: the places of a pair's flights; those that have arrived; without one; sent. No condition beyond sizes. -/
import Derived.Test.YtibmcpbkialbnaaLkM
import Derived.Test.YtibmcpbkialbnaaLkE
namespace Go.Proofs.Ytibmcpbkialbnaa
open Go.RowKit K L E
open Go.Maps (Keyed)
set_option linter.unusedVariables false
set_option linter.unusedSimpArgs false

/-- a was made out of what lies at F, or new. -/
def E.GotZ (w w' : World) (F : Nat → Prop) (a : Ass) : Prop := Below w.heap.size w w' ∧ ∃ F', a.p w' F' ∧ ∀ b, F' b → F b ∨ w.heap.size ≤ b
theorem E.Fresh.got {w w' : World} {a : Ass} (h : Fresh w w' a) (F : Nat → Prop) : GotZ w w' F a := ⟨h.1, h.2.elim fun F' h2 => ⟨F', h2.1, fun b hb => .inr (h2.2 b hb)⟩⟩
theorem E.GotZ.keep {w w' : World} {a : Ass} {F : Nat → Prop} (h : a.p w F) (hb : Below w.heap.size w w') : GotZ w w' F a := ⟨hb, F, a.stab h ((Stays.of_below hb).mono fun b hb => a.bnd h b hb), fun b hb => .inl hb⟩
theorem E.Mem.gotz {w : World} {s : Ass} {Os Zs : List Ass} (M : Mem w Os Zs) (k : Nat) (hz : Zs[k]? = some s) : ∃ F, s.p w F ∧ ∀ (w' : World) (a : Ass), GotZ w w' F a → Mem w' Os (a :: Zs) := by
  obtain ⟨G, h1, h2, h3⟩ := M
  obtain ⟨F, hF, hs⟩ := h2 s (List.mem_of_getElem? hz)
  refine ⟨F, hF, fun w' a ⟨hb, F', hF', hf⟩ => ⟨fun b => G b ∨ F' b, fun b hb' => hb'.elim (fun h => Nat.lt_of_lt_of_le (h1 b h) hb.size) (a.bnd hF' b), fun z hz => ?_, ?_⟩⟩
  · rcases List.mem_cons.1 hz with rfl | hz
    · exact ⟨F', hF', fun b hb => .inr hb⟩
    · obtain ⟨E, hE, hs⟩ := h2 z hz
      exact ⟨E, z.stab hE ((Stays.of_below hb).mono fun b hb => z.bnd hE b hb), fun b hb => .inl (hs b hb)⟩
  · exact (h3.fresh (Upd.of_below hb)).imp fun b hb' => hb'.elim .inl (fun h => (hf b h).elim (fun h => .inl (hs b h)) .inr)
theorem E.Mem.splitz {w : World} {a b : Ass} {Os Zs : List Ass} (M : Mem w Os (aSep a b :: Zs)) : Mem w Os (a :: b :: Zs) := by
  obtain ⟨G, h1, h2, h3⟩ := M
  obtain ⟨F, ⟨F1, F2, f1, f2, f3, f4⟩, hs⟩ := h2 _ (List.mem_cons_self ..)
  refine ⟨G, h1, fun z hz => ?_, h3⟩
  rcases List.mem_cons.1 hz with rfl | hz
  · exact ⟨F1, f1, fun b hb => hs b ((f4 b).2 (.inl hb))⟩
  · rcases List.mem_cons.1 hz with rfl | hz
    · exact ⟨F2, f2, fun b hb => hs b ((f4 b).2 (.inr hb))⟩
    · exact h2 z (List.mem_cons_of_mem _ hz)
theorem idx_snoc {α : Type} (P : α → Bool) (fs : List α) (f : α) : idx P (fs ++ [f]) = idx P fs ++ if P f then [fs.length] else [] := by
  unfold idx
  rw [List.zipIdx_append, List.filter_append, List.map_append]
  simp only [List.zipIdx_cons, List.zipIdx_nil, List.filter_cons, List.filter_nil, Nat.zero_add]
  split <;> rfl
theorem idx_lt {α : Type} {P : α → Bool} {fs : List α} {i : Nat} (h : i ∈ idx P fs) : i < fs.length := by
  obtain ⟨k, hk⟩ := List.mem_iff_getElem?.1 h
  obtain ⟨a, x, b, rfl, rfl, _⟩ := idx_split P fs k i hk
  simp
theorem idx_le {α : Type} (P : α → Bool) (fs : List α) : (idx P fs).length ≤ fs.length := by rw [idx_len]; exact List.length_filter_le _ _
theorem nat_cell {w : World} {g c n : Nat} {l : List Nat} (h : LRow w 3 1 (.slice (some ⟨g, 0, none⟩) n c) n (natv l)) {j i : Nat} (hj : l[j]? = some i) : w.cell? ⟨g, 0 + j * 1, none⟩ = some (.int .i64 (i : Nat)) := by
  rw [Nat.mul_one]
  exact At.lit (h.cells rfl) j _ (by rw [natv, List.getElem?_map, hj]; rfl)
theorem lrow_some {w : World} {e k n c : Nat} {A : Option Addr} {xs : List Value} (h : LRow w e k (.slice A n c) n xs) (hn : 0 < n) : ∃ g, A = some ⟨g, 0, none⟩ := by
  obtain ⟨_, ⟨h0, h1⟩ | ⟨a, _, _, h0, _⟩⟩ := h
  · omega
  · cases h0; exact ⟨a, rfl⟩
variable {w : World} {Os Zs : List Ass}
set_option maxHeartbeats 1000000 in
theorem of_any (v : Value) (fs : List PF) (p : PK) (w : World) (F : Nat → Prop) (h : (aFl v fs).p w F) (hn : fs.length ≤ 1048576) :
    Calls Try.prog 37 #[.agg #[v], .int .i64 p.1, .int .i64 p.2] w fun r w' => ∃ A c, r = .returned (.slice A (RF.of fs p).length c) ∧ Fresh w w' (aLr 3 1 (.slice A (RF.of fs p).length c) (RF.of fs p).length (natv (RF.of fs p))) := by
  obtain ⟨vs, hl, hx⟩ := afl_fx h
  obtain ⟨A, cp, rfl⟩ := aFl_sl h
  refine enter Try.func37 rfl Try.ntmps37 rfl rfl ?_
  have M := Mem.src hx
  (repeat (first | (refine WR.id ?_; first | refine WR.nil ?_ | refine WR.s ?_ | refine WR.g ?_) | (refine W.id ?_; first | refine W.seq fun _ _ => ?_ | refine W.region ?_ | refine W.s ?_ | refine W.e ?_) | (refine Ends.id ?_; first | refine Ends.seq (by assumption) ?_ | refine Ends.s ?_)))
  refine WR.box rfl (cs := #[.slice A fs.length cp]) rfl rfl fun w1 hb1 hx1 hs1 => ?_
  replace M := (M.newBox (cs := [.slice A fs.length cp]) hb1 hx1).freeze
  have hB1 := M.zbox 0 rfl
  (repeat (first | (refine WR.id ?_; first | refine WR.nil ?_ | refine WR.s ?_ | refine WR.g ?_) | (refine W.id ?_; first | refine W.seq fun _ _ => ?_ | refine W.region ?_ | refine W.s ?_ | refine W.e ?_) | (refine Ends.id ?_; first | refine Ends.seq (by assumption) ?_ | refine Ends.s ?_)))
  clear hB1
  replace M : Mem w1 [aLr 3 1 (.slice none 0 0) 0 []] _ := M.new (Below.refl _ _) (F := fun _ => False) ⟨fun x => ⟨fun h => h.elim, fun h => by cases h⟩, rfl, .inl ⟨rfl, rfl⟩⟩ (fun x h => h.elim)
  refine W.loop (X := Nat × Option Addr × Nat) (fun x => [(1, .int .i64 p.1), (2, .int .i64 p.2), (7, .slice x.2.1 (idx (ofp p) (fs.take x.1)).length x.2.2), (11, .slice A fs.length cp), (12, .int .i64 (fs.length : Nat)), (13, .int .i64 (x.1 : Nat))])
    (fun x wr => x.1 ≤ fs.length ∧ Mem wr [aLr 3 1 (.slice x.2.1 (idx (ofp p) (fs.take x.1)).length x.2.2) (idx (ofp p) (fs.take x.1)).length (natv (idx (ofp p) (fs.take x.1)))] [aBox w.heap.size [.slice A fs.length cp], aFx (.slice A fs.length cp) fs vs, zPre w]) (fun x => fs.length - x.1)
    (0, none, 0) (by repeat (first | exact .nil | refine .cons rfl ?_)) ⟨Nat.zero_le _, M⟩ ?_
  clear M
  rintro ⟨j, Ar, cr⟩ wr ⟨hj, M⟩ K hK
  dsimp only at hj M
  dsimp only
  (repeat (first | (refine WR.id ?_; first | refine WR.nil ?_ | refine WR.s ?_ | refine WR.g ?_) | (refine W.id ?_; first | refine W.seq fun _ _ => ?_ | refine W.region ?_ | refine W.s ?_ | refine W.e ?_) | (refine Ends.id ?_; first | refine Ends.seq (by assumption) ?_ | refine Ends.s ?_)))
  refine W.condP (by rfl) (fun hlt => ?_) (fun hlt => ?_)
  · have hlt' : j < fs.length := by omega
    obtain ⟨f, hf⟩ : ∃ f, fs[j]? = some f := ⟨_, List.getElem?_eq_getElem hlt'⟩
    have htk : fs.take (j + 1) = fs.take j ++ [f] := by rw [List.take_add_one, hf]; rfl
    have hln : (fs.take j).length = j := by rw [List.length_take]; omega
    have hil := idx_le (ofp p) (fs.take j)
    obtain ⟨Fz, hz⟩ := M.z 1 rfl
    obtain ⟨g, c, Ab, q, hA, hr, -⟩ := elem_fl hl hz hf
    cases hA
    (repeat (first | (refine WR.id ?_; first | refine WR.nil ?_ | refine WR.s ?_ | refine WR.g ?_) | (refine W.id ?_; first | refine W.seq fun _ _ => ?_ | refine W.region ?_ | refine W.s ?_ | refine W.e ?_) | (refine Ends.id ?_; first | refine Ends.seq (by assumption) ?_ | refine Ends.s ?_)))
    refine WR.indexAddr (j := j) (by rfl) (by rfl) (by rfl) hlt' ?_
    refine WR.loadRow (by rfl) hr (by rfl) (by rfl) ?_
    refine WR.alloc (by rfl) fun w3 hb3 hx3 hs3 => ?_
    replace M := M.newBox hb3 hx3
    refine WR.assign rfl rfl ?_
    refine WR.storeAgg (cs' := f.cells (.slice Ab f.bytes.length q)) M.box (by rfl) (by rfl) (by rfl) (by rfl) (PF.one _ _ rfl) fun w4 hu4 hx4 hs4 => ?_
    replace M := M.setBox hu4 hx4
    have hB5 := M.box
    by_cases h1 : f.frm = p.1
    · by_cases h2 : f.dst = p.2
      · have ho : ofp p f = true := decide_eq_true (by rw [h1, h2])
        (repeat (first | (refine WR.id ?_; first | refine WR.nil ?_ | refine WR.s ?_ | refine WR.g ?_) | (refine W.id ?_; first | refine W.seq fun _ _ => ?_ | refine W.region ?_ | refine W.s ?_ | refine W.e ?_) | (refine Ends.id ?_; first | refine Ends.seq (by assumption) ?_ | refine Ends.s ?_)))
        refine WR.row1 Try.elInt (by decide) (by rfl) (by rfl) (by rfl) fun w7 hb7 hs7 => ?_
        replace M := (M.below hb7).drop
        refine WR.lapp Try.elInt M (by rfl) (by rfl) (by rfl) hs7 (by intro u hu; simp [Value.cells] at hu; subst hu; rfl) (by omega) (by decide) fun A8 c8 w8 M => ?_
        (repeat (first | (refine WR.id ?_; first | refine WR.nil ?_ | refine WR.s ?_ | refine WR.g ?_) | (refine W.id ?_; first | refine W.seq fun _ _ => ?_ | refine W.region ?_ | refine W.s ?_ | refine W.e ?_) | (refine Ends.id ?_; first | refine Ends.seq (by assumption) ?_ | refine Ends.s ?_)))
        have e : idx (ofp p) (fs.take (j + 1)) = idx (ofp p) (fs.take j) ++ [j] := by rw [htk, idx_snoc, if_pos ho, hln]
        refine Ends.round hK (j + 1, A8, c8) (by dsimp only; rw [e, List.length_append]; exact (by repeat (first | exact .nil | refine .cons rfl ?_))) ⟨by dsimp only; omega, ?_⟩ (by dsimp only; omega)
        dsimp only
        rw [e, List.length_append]
        rw [show natv (idx (ofp p) (fs.take j) ++ [j]) = natv (idx (ofp p) (fs.take j)) ++ [.int .i64 (j : Nat)] by simp [natv]]
        exact M
      · have ho : ofp p f = false := decide_eq_false fun e => h2 (congrArg Prod.snd e)
        (repeat (first | (refine WR.id ?_; first | refine WR.nil ?_ | refine WR.s ?_ | refine WR.g ?_) | (refine W.id ?_; first | refine W.seq fun _ _ => ?_ | refine W.region ?_ | refine W.s ?_ | refine W.e ?_) | (refine Ends.id ?_; first | refine Ends.seq (by assumption) ?_ | refine Ends.s ?_)))
        have e : idx (ofp p) (fs.take (j + 1)) = idx (ofp p) (fs.take j) := by rw [htk, idx_snoc, if_neg (by rw [ho]; decide), List.append_nil]
        refine Ends.round hK (j + 1, Ar, cr) (by dsimp only; rw [e]; exact (by repeat (first | exact .nil | refine .cons rfl ?_))) ⟨by dsimp only; omega, ?_⟩ (by dsimp only; omega)
        dsimp only
        rw [e]
        exact M.drop
    · have ho : ofp p f = false := decide_eq_false fun e => h1 (congrArg Prod.fst e)
      (repeat (first | (refine WR.id ?_; first | refine WR.nil ?_ | refine WR.s ?_ | refine WR.g ?_) | (refine W.id ?_; first | refine W.seq fun _ _ => ?_ | refine W.region ?_ | refine W.s ?_ | refine W.e ?_) | (refine Ends.id ?_; first | refine Ends.seq (by assumption) ?_ | refine Ends.s ?_)))
      have e : idx (ofp p) (fs.take (j + 1)) = idx (ofp p) (fs.take j) := by rw [htk, idx_snoc, if_neg (by rw [ho]; decide), List.append_nil]
      refine Ends.round hK (j + 1, Ar, cr) (by dsimp only; rw [e]; exact (by repeat (first | exact .nil | refine .cons rfl ?_))) ⟨by dsimp only; omega, ?_⟩ (by dsimp only; omega)
      dsimp only
      rw [e]
      exact M.drop
  · obtain rfl : j = fs.length := by omega
    rw [List.take_length] at M ⊢
    (repeat (first | (refine WR.id ?_; first | refine WR.nil ?_ | refine WR.s ?_ | refine WR.g ?_) | (refine W.id ?_; first | refine W.seq fun _ _ => ?_ | refine W.region ?_ | refine W.s ?_ | refine W.e ?_) | (refine Ends.id ?_; first | refine Ends.seq (by assumption) ?_ | refine Ends.s ?_)))
    exact Ends.ret1 rfl rfl ⟨_, _, rfl, M.fresh 2 rfl⟩

end Go.Proofs.Ytibmcpbkialbnaa
namespace Go.Proofs.Ytibmcpbkialbnaa
open Go.RowKit K L E
open Go.Maps (Keyed)
set_option linter.unusedVariables false
set_option linter.unusedSimpArgs false

variable {w : World} {Os Zs : List Ass}
def arrP (fs : RF) (now : Int) (i : Nat) : Bool := match fs[i]? with
  | none => false
  | some f => decide (f.tick ≤ now)
set_option maxHeartbeats 1000000 in
theorem arr_any (v : Value) (fs : List PF) (p : PK) (now : Int) (w : World) (F : Nat → Prop) (h : (aFl v fs).p w F) (hn : fs.length ≤ 1048576) :
    Calls Try.prog 38 #[.agg #[v], .int .i64 p.1, .int .i64 p.2, .int .i64 now] w fun r w' => ∃ A c, r = .returned (.slice A (RF.arr fs p now).length c) ∧ Fresh w w' (aLr 3 1 (.slice A (RF.arr fs p now).length c) (RF.arr fs p now).length (natv (RF.arr fs p now))) := by
  obtain ⟨vs, hl, hx⟩ := afl_fx h
  obtain ⟨A, cp, rfl⟩ := aFl_sl h
  refine enter Try.func38 rfl Try.ntmps38 rfl rfl ?_
  have M := Mem.src hx
  (repeat (first | (refine WR.id ?_; first | refine WR.nil ?_ | refine WR.s ?_ | refine WR.g ?_) | (refine W.id ?_; first | refine W.seq fun _ _ => ?_ | refine W.region ?_ | refine W.s ?_ | refine W.e ?_) | (refine Ends.id ?_; first | refine Ends.seq (by assumption) ?_ | refine Ends.s ?_)))
  refine WR.box rfl (cs := #[.slice A fs.length cp]) rfl rfl fun w1 hb1 hx1 hs1 => ?_
  replace M := (M.newBox (cs := [.slice A fs.length cp]) hb1 hx1).freeze
  have hB1 := M.zbox 0 rfl
  (repeat (first | (refine WR.id ?_; first | refine WR.nil ?_ | refine WR.s ?_ | refine WR.g ?_) | (refine W.id ?_; first | refine W.seq fun _ _ => ?_ | refine W.region ?_ | refine W.s ?_ | refine W.e ?_) | (refine Ends.id ?_; first | refine Ends.seq (by assumption) ?_ | refine Ends.s ?_)))
  have h1 := (aFl (.slice A fs.length cp) fs).stab h ((Stays.of_below hb1).mono fun b hb => (aFl _ _).bnd h b hb)
  refine WR.call rfl rfl (of_any _ fs p _ _ h1 hn) ?_
  clear hB1
  rintro _ w2 ⟨Ao, co, rfl, hfo⟩
  refine ⟨_, rfl, ?_⟩
  replace M := (M.add hfo).freeze
  have hol : (RF.of fs p).length ≤ fs.length := idx_le _ _
  (repeat (first | (refine WR.id ?_; first | refine WR.nil ?_ | refine WR.s ?_ | refine WR.g ?_) | (refine W.id ?_; first | refine W.seq fun _ _ => ?_ | refine W.region ?_ | refine W.s ?_ | refine W.e ?_) | (refine Ends.id ?_; first | refine Ends.seq (by assumption) ?_ | refine Ends.s ?_)))
  replace M : Mem w2 [aLr 3 1 (.slice none 0 0) 0 []] _ := M.new (Below.refl _ _) (F := fun _ => False) ⟨fun x => ⟨fun h => h.elim, fun h => by cases h⟩, rfl, .inl ⟨rfl, rfl⟩⟩ (fun x h => h.elim)
  refine W.loop (X := Nat × Option Addr × Nat) (fun x => [(3, .int .i64 now), (4, .pointer (some ⟨w.heap.size, 0, none⟩)), (9, .slice x.2.1 (((RF.of fs p).take x.1).filter (arrP fs now)).length x.2.2), (15, .slice Ao (RF.of fs p).length co), (16, .int .i64 ((RF.of fs p).length : Nat)), (17, .int .i64 (x.1 : Nat))])
    (fun x wr => x.1 ≤ (RF.of fs p).length ∧ Mem wr [aLr 3 1 (.slice x.2.1 (((RF.of fs p).take x.1).filter (arrP fs now)).length x.2.2) (((RF.of fs p).take x.1).filter (arrP fs now)).length (natv (((RF.of fs p).take x.1).filter (arrP fs now)))] [aLr 3 1 (.slice Ao (RF.of fs p).length co) (RF.of fs p).length (natv (RF.of fs p)), aBox w.heap.size [.slice A fs.length cp], aFx (.slice A fs.length cp) fs vs, zPre w]) (fun x => (RF.of fs p).length - x.1)
    (0, none, 0) (by repeat (first | exact .nil | refine .cons rfl ?_)) ⟨Nat.zero_le _, M⟩ ?_
  clear M
  rintro ⟨j, Ar, cr⟩ wr ⟨hj, M⟩ K hK
  dsimp only at hj M
  dsimp only
  (repeat (first | (refine WR.id ?_; first | refine WR.nil ?_ | refine WR.s ?_ | refine WR.g ?_) | (refine W.id ?_; first | refine W.seq fun _ _ => ?_ | refine W.region ?_ | refine W.s ?_ | refine W.e ?_) | (refine Ends.id ?_; first | refine Ends.seq (by assumption) ?_ | refine Ends.s ?_)))
  refine W.condP (by rfl) (fun hlt => ?_) (fun hlt => ?_)
  · have hlt' : j < (RF.of fs p).length := by omega
    obtain ⟨i, hi⟩ : ∃ i, (RF.of fs p)[j]? = some i := ⟨_, List.getElem?_eq_getElem hlt'⟩
    have hil : i < fs.length := idx_lt (List.mem_of_getElem? hi)
    obtain ⟨f, hf⟩ : ∃ f, fs[i]? = some f := ⟨_, List.getElem?_eq_getElem hil⟩
    have htk : (RF.of fs p).take (j + 1) = (RF.of fs p).take j ++ [i] := by rw [List.take_add_one, hi]; rfl
    have hcl : (((RF.of fs p).take j).filter (arrP fs now)).length ≤ j := Nat.le_trans (List.length_filter_le _ _) (by rw [List.length_take]; omega)
    obtain ⟨Fo, hFo⟩ := M.z 0 rfl
    obtain ⟨go, rfl⟩ := lrow_some hFo.2 (by omega)
    have hci := nat_cell hFo.2 hi
    obtain ⟨Fz, hz⟩ := M.z 2 rfl
    obtain ⟨g, c, Ab, q, hA, hr, -⟩ := elem_fl hl hz hf
    cases hA
    have hB4 := M.zbox 1 rfl
    have ha : arrP fs now i = decide (f.tick ≤ now) := by unfold arrP; rw [hf]
    have htc := hr 2 _ rfl
    (repeat (first | (refine WR.id ?_; first | refine WR.nil ?_ | refine WR.s ?_ | refine WR.g ?_) | (refine W.id ?_; first | refine W.seq fun _ _ => ?_ | refine W.region ?_ | refine W.s ?_ | refine W.e ?_) | (refine Ends.id ?_; first | refine Ends.seq (by assumption) ?_ | refine Ends.s ?_)))
    refine WR.indexAddr (j := j) (by rfl) (by rfl) (by rfl) hlt' ?_
    refine WR.load (by rfl) hci (by rfl) ?_
    (repeat (first | (refine WR.id ?_; first | refine WR.nil ?_ | refine WR.s ?_ | refine WR.g ?_) | (refine W.id ?_; first | refine W.seq fun _ _ => ?_ | refine W.region ?_ | refine W.s ?_ | refine W.e ?_) | (refine Ends.id ?_; first | refine Ends.seq (by assumption) ?_ | refine Ends.s ?_)))
    refine WR.indexAddr (j := i) (by rfl) (by rfl) (by rfl) hil ?_
    refine WR.fieldAddr (by rfl) (by rfl) ?_
    refine WR.load (by rfl) (by exact htc) (by rfl) ?_
    by_cases h1 : f.tick ≤ now
    · (repeat (first | (refine WR.id ?_; first | refine WR.nil ?_ | refine WR.s ?_ | refine WR.g ?_) | (refine W.id ?_; first | refine W.seq fun _ _ => ?_ | refine W.region ?_ | refine W.s ?_ | refine W.e ?_) | (refine Ends.id ?_; first | refine Ends.seq (by assumption) ?_ | refine Ends.s ?_)))
      refine WR.row1 Try.elInt (by decide) (by rfl) (by rfl) (by rfl) fun w7 hb7 hs7 => ?_
      replace M := M.below hb7
      refine WR.lapp Try.elInt M (by rfl) (by rfl) (by rfl) hs7 (by intro u hu; simp [Value.cells] at hu; subst hu; rfl) (by omega) (by decide) fun A8 c8 w8 M => ?_
      (repeat (first | (refine WR.id ?_; first | refine WR.nil ?_ | refine WR.s ?_ | refine WR.g ?_) | (refine W.id ?_; first | refine W.seq fun _ _ => ?_ | refine W.region ?_ | refine W.s ?_ | refine W.e ?_) | (refine Ends.id ?_; first | refine Ends.seq (by assumption) ?_ | refine Ends.s ?_)))
      have e : ((RF.of fs p).take (j + 1)).filter (arrP fs now) = ((RF.of fs p).take j).filter (arrP fs now) ++ [i] := by rw [htk, List.filter_append, List.filter_cons, ha, if_pos (decide_eq_true h1)]; rfl
      refine Ends.round hK (j + 1, A8, c8) (by dsimp only; rw [e, List.length_append]; exact (by repeat (first | exact .nil | refine .cons rfl ?_))) ⟨by dsimp only; omega, ?_⟩ (by dsimp only; omega)
      dsimp only
      rw [e, List.length_append]
      rw [show natv (((RF.of fs p).take j).filter (arrP fs now) ++ [i]) = natv (((RF.of fs p).take j).filter (arrP fs now)) ++ [.int .i64 (i : Nat)] by simp [natv]]
      exact M
    · (repeat (first | (refine WR.id ?_; first | refine WR.nil ?_ | refine WR.s ?_ | refine WR.g ?_) | (refine W.id ?_; first | refine W.seq fun _ _ => ?_ | refine W.region ?_ | refine W.s ?_ | refine W.e ?_) | (refine Ends.id ?_; first | refine Ends.seq (by assumption) ?_ | refine Ends.s ?_)))
      have e : ((RF.of fs p).take (j + 1)).filter (arrP fs now) = ((RF.of fs p).take j).filter (arrP fs now) := by rw [htk, List.filter_append, List.filter_cons, ha, if_neg (by rw [decide_eq_false h1]; decide)]; simp
      refine Ends.round hK (j + 1, Ar, cr) (by dsimp only; rw [e]; exact (by repeat (first | exact .nil | refine .cons rfl ?_))) ⟨by dsimp only; omega, ?_⟩ (by dsimp only; omega)
      dsimp only
      rw [e]
      exact M
  · obtain rfl : j = (RF.of fs p).length := by omega
    rw [List.take_length] at M ⊢
    (repeat (first | (refine WR.id ?_; first | refine WR.nil ?_ | refine WR.s ?_ | refine WR.g ?_) | (refine W.id ?_; first | refine W.seq fun _ _ => ?_ | refine W.region ?_ | refine W.s ?_ | refine W.e ?_) | (refine Ends.id ?_; first | refine Ends.seq (by assumption) ?_ | refine Ends.s ?_)))
    exact Ends.ret1 rfl rfl ⟨_, _, rfl, M.fresh 3 rfl⟩
set_option maxHeartbeats 1000000 in
theorem without_any (v : Value) (fs : List PF) (i : Nat) (w : World) (F : Nat → Prop) (h : (aFl v fs).p w F) (hn : fs.length ≤ 1048576) (hb : ∀ f ∈ fs, f.bytes.length ≤ 1048576) (hi : i < fs.length) :
    Calls Try.prog 42 #[.agg #[v], .int .i64 (i : Nat)] w fun r w' => ∃ v', r = .returned (.agg #[v']) ∧ Fresh w w' (aFl v' (fs.eraseIdx i)) := by
  obtain ⟨A, cp, rfl⟩ := aFl_sl h
  refine enter Try.func42 rfl Try.ntmps42 rfl rfl ?_
  have M := Mem.src h
  (repeat (first | (refine WR.id ?_; first | refine WR.nil ?_ | refine WR.s ?_ | refine WR.g ?_) | (refine W.id ?_; first | refine W.seq fun _ _ => ?_ | refine W.region ?_ | refine W.s ?_ | refine W.e ?_) | (refine Ends.id ?_; first | refine Ends.seq (by assumption) ?_ | refine Ends.s ?_)))
  refine WR.box rfl (cs := #[.slice A fs.length cp]) rfl rfl fun w1 hb1 hx1 hs1 => ?_
  replace M := (M.newBox (cs := [.slice A fs.length cp]) hb1 hx1)
  refine WR.alloc (by rfl) fun w2 hb2 hx2 hs2 => ?_
  replace M := (M.newBox (cs := [.slice none 0 0]) hb2 hx2)
  generalize w1.heap.size = b4 at M ⊢
  have hB1 := M.swap.box
  (repeat (first | (refine WR.id ?_; first | refine WR.nil ?_ | refine WR.s ?_ | refine WR.g ?_) | (refine W.id ?_; first | refine W.seq fun _ _ => ?_ | refine W.region ?_ | refine W.s ?_ | refine W.e ?_) | (refine Ends.id ?_; first | refine Ends.seq (by assumption) ?_ | refine Ends.s ?_)))
  obtain ⟨F1, hF1⟩ := M.z 0 rfl
  refine WR.call rfl rfl (copied_any _ fs _ _ hF1 hn hb) ?_
  clear hB1
  rintro _ w3 ⟨v1, rfl, hf1⟩
  refine ⟨_, rfl, ?_⟩
  replace M := (M.add hf1).third
  have h1 : ∃ A c, v1 = .slice A fs.length c := by obtain ⟨F, hF⟩ := M.swap.get; exact aFl_sl hF
  obtain ⟨A1, c1, rfl⟩ := h1
  refine WR.storeAgg (cs' := [.slice A1 fs.length c1]) M.box (by rfl) (by rfl) (by rfl) (by rfl) (by intro u hu; obtain rfl := List.mem_singleton.1 hu; rfl) fun w4 hu4 hx4 hs4 => ?_
  replace M := (M.setBox hu4 hx4).swap
  obtain ⟨f1, f, f2, v1, vb, v2, a, cq, hfs, rfl, hv1, hv2, hev, hone, M⟩ := M.flight i hi
  cases hev
  have hcp : fs.length ≤ c1 := by
    obtain ⟨_, ⟨h0, _⟩ | ⟨_, _, _, h0, _, h5, _⟩⟩ := M.lrow
    · cases h0
    · cases h0; exact h5
  replace M := M.pull2
  (repeat (first | (refine WR.id ?_; first | refine WR.nil ?_ | refine WR.s ?_ | refine WR.g ?_) | (refine W.id ?_; first | refine W.seq fun _ _ => ?_ | refine W.region ?_ | refine W.s ?_ | refine W.e ?_) | (refine Ends.id ?_; first | refine Ends.seq (by assumption) ?_ | refine Ends.s ?_)))
  apply W.drawsTo 11 [[], [0], [], [], [1, 2, 3], [], [5], [], [7], [6, 8], [4, 9]]
    [is _, is _, is _, is _, is _, is _, is _, is _, is _, is _, (fun u v => LRow u 24 4 v (fs.length - 1) ((List.zipWith PF.cells (f1 ++ f :: f2) (v1 ++ vb :: v2)).flatten.take (f1.length * 4) ++ (List.zipWith PF.cells (f1 ++ f :: f2) (v1 ++ vb :: v2)).flatten.drop ((f1.length + 1) * 4)) ∧ ∀ x, v.ownBlock = some x → x = a ∨ w4.heap.size ≤ x)] (by kernel_rfl) (by kernel_rfl) (by rfl) (by kernel_rfl) (by kernel_rfl) ⟨stab_is _, stab_is _, stab_is _, stab_is _, stab_is _, stab_is _, stab_is _, stab_is _, stab_is _, stab_is _, (fun _ _ _ ⟨h1, h2⟩ hb => ⟨h1.keep fun x hx => hb.block x (h1.lt x hx), h2⟩), trivial⟩ ?step1 ?fin1
  case step1 =>
    refine ⟨fun wq hbq Kq hKq => ?_, fun wq hbq Kq hKq => ?_, fun wq hbq Kq hKq => ?_, fun wq hbq Kq hKq => ?_, fun wq hbq Kq hKq => ?_, fun wq hbq Kq hKq => ?_, fun wq hbq Kq hKq => ?_, fun wq hbq Kq hKq => ?_, fun wq hbq Kq hKq => ?_, fun wq hbq Kq hKq => ?_, fun wq hbq Kq hKq => ?_, trivial⟩
    · have Mq := M.below hbq; have hB := Mq.swap.box; have hr := Mq.lrow
      refine WR.s ?_; refine WR.nil ?_; exact Ends.one hKq rfl rfl (Below.refl _ _)
    · rintro _ rfl
      have Mq := M.below hbq; have hB := Mq.swap.box; have hr := Mq.lrow
      refine WR.s ?_; refine WR.nil ?_; exact Ends.one hKq rfl rfl (Below.refl _ _)
    · have Mq := M.below hbq; have hB := Mq.swap.box; have hr := Mq.lrow
      refine WR.s ?_; refine WR.nil ?_; exact Ends.one hKq rfl rfl (Below.refl _ _)
    · have Mq := M.below hbq; have hB := Mq.swap.box; have hr := Mq.lrow
      refine WR.s ?_; refine WR.nil ?_; exact Ends.one hKq rfl rfl (Below.refl _ _)
    · rintro _ rfl _ rfl _ rfl
      have Mq := M.below hbq; have hB := Mq.swap.box; have hr := Mq.lrow
      refine WR.slice_hm (by rfl) (by rfl) (by rfl) (by rfl) (Nat.le_refl _) (by omega) ?_; refine WR.nil ?_; exact Ends.one hKq rfl rfl (Below.refl _ _)
    · have Mq := M.below hbq; have hB := Mq.swap.box; have hr := Mq.lrow
      refine WR.s ?_; refine WR.nil ?_; exact Ends.one hKq rfl rfl (Below.refl _ _)
    · rintro _ rfl
      have Mq := M.below hbq; have hB := Mq.swap.box; have hr := Mq.lrow
      refine WR.s ?_; refine WR.nil ?_; exact Ends.one hKq rfl rfl (Below.refl _ _)
    · have Mq := M.below hbq; have hB := Mq.swap.box; have hr := Mq.lrow
      refine WR.s ?_; refine WR.nil ?_; exact Ends.one hKq rfl rfl (Below.refl _ _)
    · rintro _ rfl
      have Mq := M.below hbq; have hB := Mq.swap.box; have hr := Mq.lrow
      refine WR.s ?_; refine WR.nil ?_; exact Ends.one hKq rfl rfl (Below.refl _ _)
    · rintro _ rfl _ rfl
      have Mq := M.below hbq; have hB := Mq.swap.box; have hr := Mq.lrow
      refine WR.slice_l (by rfl) (by rfl) (by rfl) (by omega) ?_; refine WR.nil ?_; exact Ends.one hKq rfl rfl (Below.refl _ _)
    · rintro _ rfl _ rfl
      have Mq := M.below hbq; have hB := Mq.swap.box; have hr := Mq.lrow
      obtain ⟨v23, wy, hrun, hl23, hb23, ho23⟩ := run_cutapp Try.elF 43 hr hi (one_fl hone) (by omega) (by decide); refine WR.builtin2 (v := v23) (w' := wy) (by rfl) (by rfl) (by rfl) (fun cs => by rw [BigFrame.builtin_append]; simp only [Sem.run_bind, hrun, Result.andThen_ok, Sem.run_pure]) ?_; refine WR.nil ?_; exact Ends.one hKq rfl ⟨hl23, fun x hx => (ho23 x hx).imp id (fun h => Nat.le_trans hbq.size h)⟩ hb23 
  intro wq hbq
  rintro _ rfl _ rfl _ rfl _ rfl _ rfl _ rfl _ rfl _ rfl _ rfl _ rfl v10 h10
  refine WR.id ?_
  have Mq := M.below hbq; have hB := Mq.swap.box; have hr := Mq.lrow
  obtain ⟨h10, ho⟩ := h10
  replace M := M.setLRow (Upd.of_below hbq) h10 (fun x hx => (ho x hx).imp (fun h => by rw [h]; rfl) id)
  clear Mq hB hr
  obtain ⟨-, A10, c10, rfl, -⟩ := h10.sl
  refine WR.fieldAddr (by rfl) (by rfl) ?_
  refine WR.storeBox M.swap.box (by rfl) (by rfl) rfl rfl (by simp) fun w5 hu5 hx5 hs5 => ?_
  replace M := M.swap.setBox hu5 hx5
  have hB := M.box
  (repeat (first | (refine WR.id ?_; first | refine WR.nil ?_ | refine WR.s ?_ | refine WR.g ?_) | (refine W.id ?_; first | refine W.seq fun _ _ => ?_ | refine W.region ?_ | refine W.s ?_ | refine W.e ?_) | (refine Ends.id ?_; first | refine Ends.seq (by assumption) ?_ | refine Ends.s ?_)))
  refine WR.storeAgg (cs' := [.slice A10 (fs.length - 1) c10]) M.third.box (by rfl) (by rfl) (by rfl) (by rfl) (by intro u hu; obtain rfl := List.mem_singleton.1 hu; rfl) fun w6 hu6 hx6 hs6 => ?_
  replace M := M.third.setBox hu6 hx6
  (repeat (first | (refine WR.id ?_; first | refine WR.nil ?_ | refine WR.s ?_ | refine WR.g ?_) | (refine W.id ?_; first | refine W.seq fun _ _ => ?_ | refine W.region ?_ | refine W.s ?_ | refine W.e ?_) | (refine Ends.id ?_; first | refine Ends.seq (by assumption) ?_ | refine Ends.s ?_)))
  refine Ends.retC rfl (by rfl) (hx6.load (by rfl)) ⟨_, rfl, ?_⟩
  replace M := (M.drop.drop.swap.drop)
  rw [flatten_take _ _ cells_len4, flatten_drop _ _ cells_len4, ← List.flatten_append, zip_cut hv1, show fs.length - 1 = (f1 ++ f2).length by rw [hfs]; simp] at M
  replace M := E.Mem.mkFl (Os := []) (v1 ++ v2) (by simp [hv1, hv2]) M
  have e : fs.eraseIdx f1.length = f1 ++ f2 := by rw [hfs]; exact er_mid _ _ _
  rw [e, show fs.length - 1 = (f1 ++ f2).length by rw [hfs]; simp]
  exact M.fresh 1 rfl

end Go.Proofs.Ytibmcpbkialbnaa
