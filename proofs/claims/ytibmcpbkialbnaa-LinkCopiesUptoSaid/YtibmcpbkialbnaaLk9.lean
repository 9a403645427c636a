/- Flights cloned, in memory of their own. No condition beyond sizes. -/
import Derived.Test.YtibmcpbkialbnaaLk8
import Derived.Test.YtibmcpbkialbnaaIt2
namespace Go.Proofs.Ytibmcpbkialbnaa
open Go.RowKit K L E
open Go.Maps (Keyed)
set_option linter.unusedVariables false
set_option linter.unusedSimpArgs false

variable {w : World} {b g c : Nat} {l : PL} {es : List MapEntry} {Os Zs : List Ass}
theorem sclone_any (v : Value) (n : Nat) (xs : List Value) (w : World) (F : Nat → Prop) (h : K.Sl w F 4 v n xs) (h1 : ∀ u ∈ xs, u.oneCell' = true) (hn : n ≤ 1073741824) :
    Calls Try.prog 43 #[v] w fun r w' => ∃ v', r = .returned v' ∧ Fresh w w' (aLr 24 4 v' n xs) := by
  have hs := h
  obtain ⟨hl, A, c, rfl, hc, hm, hnil, -⟩ := h
  refine enter Try.func43 rfl Try.ntmps43 rfl rfl ?_
  (repeat (first | (refine WR.id ?_; first | refine WR.nil ?_ | refine WR.s ?_ | refine WR.g ?_) | (refine W.id ?_; first | refine W.seq fun _ _ => ?_ | refine W.region ?_ | refine W.s ?_ | refine W.e ?_) | (refine Ends.id ?_; first | refine Ends.seq (by assumption) ?_ | refine Ends.s ?_)))
  refine WR.sliceNil (by rfl) (by rfl) (by rfl) ?_
  cases A with
  | none =>
    obtain rfl : c = 0 := hnil rfl
    obtain rfl : n = 0 := by omega
    obtain rfl : xs = [] := List.eq_nil_of_length_eq_zero (by simpa using hl)
    (repeat (first | (refine WR.id ?_; first | refine WR.nil ?_ | refine WR.s ?_ | refine WR.g ?_) | (refine W.id ?_; first | refine W.seq fun _ _ => ?_ | refine W.region ?_ | refine W.s ?_ | refine W.e ?_) | (refine Ends.id ?_; first | refine Ends.seq (by assumption) ?_ | refine Ends.s ?_)))
    exact Ends.ret1 rfl rfl ⟨_, rfl, aLr_of_row (Below.refl _ _) (World.ownsRow_nil _ _ _ _)⟩
  | some ad =>
    (repeat (first | (refine WR.id ?_; first | refine WR.nil ?_ | refine WR.s ?_ | refine WR.g ?_) | (refine W.id ?_; first | refine W.seq fun _ _ => ?_ | refine W.region ?_ | refine W.s ?_ | refine W.e ?_) | (refine Ends.id ?_; first | refine Ends.seq (by assumption) ?_ | refine Ends.s ?_)))
    refine WR.row0 Try.elF (by rfl) fun w1 hb1 ho1 hs1 => ?_
    refine WR.move rfl rfl ?_
    refine WR.app0 Try.elF (by rfl) (by rfl) (by rfl) ho1 (Sl.below hs (by decide) hb1) h1 hn (by decide) hb1.size fun v' w2 ho2 hb2 => ?_
    (repeat (first | (refine WR.id ?_; first | refine WR.nil ?_ | refine WR.s ?_ | refine WR.g ?_) | (refine W.id ?_; first | refine W.seq fun _ _ => ?_ | refine W.region ?_ | refine W.s ?_ | refine W.e ?_) | (refine Ends.id ?_; first | refine Ends.seq (by assumption) ?_ | refine Ends.s ?_)))
    exact Ends.ret1 rfl rfl ⟨_, rfl, aLr_of_row (hb1.trans (hb2.mono hb1.size)) ho2⟩

/-- Flights as they lie: the row's value, the bytes' values. -/
def aFx (v : Value) (fs : List PF) (vs : List Value) : Ass := aSep (aLr 24 4 v fs.length (List.zipWith PF.cells fs vs).flatten) (aAll (List.zipWith (fun v (f : PF) => aBy v f.bytes) vs fs))
theorem afl_fx {v : Value} {fs : List PF} {F : Nat → Prop} (h : (aFl v fs).p w F) : ∃ vs : List Value, vs.length = fs.length ∧ (aFx v fs vs).p w F := by
  obtain ⟨vs, hl, h⟩ := h
  exact ⟨vs, hl, h⟩
theorem fx_row {v : Value} {fs : List PF} {vs : List Value} {F : Nat → Prop} (h : (aFx v fs vs).p w F) : LRow w 24 4 v fs.length (List.zipWith PF.cells fs vs).flatten := by
  obtain ⟨F1, F2, h1, _⟩ := h; exact h1.2
theorem fx_bytes {v vb : Value} {fs : List PF} {f : PF} {vs : List Value} {F : Nat → Prop} (h : (aFx v fs vs).p w F) {j : Nat} (hv : vs[j]? = some vb) (hf : fs[j]? = some f) : ∃ F, Bs w F vb f.bytes := by
  obtain ⟨F1, F2, _, h2, _⟩ := h
  obtain ⟨F', hF'⟩ := aAll_mem h2 (x := aBy vb f.bytes) (List.mem_of_getElem? (i := j) (by rw [List.getElem?_zipWith, hv, hf]))
  exact ⟨_, Sl.of_row hF'.2⟩
theorem fx_one {v : Value} {fs : List PF} {vs : List Value} {F : Nat → Prop} (hl : vs.length = fs.length) (h : (aFx v fs vs).p w F) : ∀ x ∈ vs, x.oneCell' = true := by
  intro x hx
  obtain ⟨j, hj⟩ := List.mem_iff_getElem?.1 hx
  have hlt := (List.getElem?_eq_some_iff.1 hj).1
  obtain ⟨F', hF'⟩ := fx_bytes h hj (List.getElem?_eq_getElem (by omega : j < fs.length))
  obtain ⟨-, A, c, rfl, -⟩ := hF'
  rfl
theorem zip_at {fs : List PF} {vs : List Value} {f : PF} {vb : Value} {j : Nat} (hv : vs[j]? = some vb) (hf : fs[j]? = some f) : (List.zipWith PF.cells fs vs)[j]? = some (f.cells vb) := by rw [List.getElem?_zipWith, hv, hf]
theorem zip_modify {fs : List PF} {vs : List Value} {vb u : Value} {f : PF} {j : Nat} (hf : fs[j]? = some f) (hv : vs[j]? = some vb) : (List.zipWith PF.cells fs vs).modify j (·.set 3 u) = List.zipWith PF.cells fs (vs.set j u) := by
  have hj := (List.getElem?_eq_some_iff.1 hv).1
  apply List.ext_getElem?
  intro i
  rw [List.getElem?_modify]
  by_cases h : j = i
  · subst h
    rw [List.getElem?_zipWith, List.getElem?_zipWith, hf, hv, List.getElem?_set_self hj]
    simp [PF.cells]
  · rw [List.getElem?_zipWith, List.getElem?_zipWith, List.getElem?_set_ne h]
    simp [h]
set_option maxHeartbeats 1000000 in
theorem cloned_any (v : Value) (fs : List PF) (w : World) (F : Nat → Prop) (h : (aFl v fs).p w F) (hn : fs.length ≤ 1048576) (hb : ∀ f ∈ fs, f.bytes.length ≤ 1048576) :
    Calls Try.prog 39 #[v] w fun r w' => ∃ v', r = .returned v' ∧ Fresh w w' (aFl v' fs) := by
  obtain ⟨vs, hl, hx⟩ := afl_fx h
  have hone := fx_one hl hx
  refine enter Try.func39 rfl Try.ntmps39 rfl rfl ?_
  have M := Mem.src hx
  (repeat (first | (refine WR.id ?_; first | refine WR.nil ?_ | refine WR.s ?_ | refine WR.g ?_) | (refine W.id ?_; first | refine W.seq fun _ _ => ?_ | refine W.region ?_ | refine W.s ?_ | refine W.e ?_) | (refine Ends.id ?_; first | refine Ends.seq (by assumption) ?_ | refine Ends.s ?_)))
  refine WR.call rfl rfl (sclone_any v _ _ _ _ (fx_row hx).sl (one_fl hone) (by omega)) ?_
  rintro _ w1 ⟨v', rfl, hf⟩
  refine ⟨_, rfl, ?_⟩
  replace M := M.add hf
  obtain ⟨A, cp, rfl⟩ : ∃ A c, v' = .slice A fs.length c := by obtain ⟨_, A, c, h, _⟩ := M.lrow.sl; exact ⟨A, c, h⟩
  (repeat (first | (refine WR.id ?_; first | refine WR.nil ?_ | refine WR.s ?_ | refine WR.g ?_) | (refine W.id ?_; first | refine W.seq fun _ _ => ?_ | refine W.region ?_ | refine W.s ?_ | refine W.e ?_) | (refine Ends.id ?_; first | refine Ends.seq (by assumption) ?_ | refine Ends.s ?_)))
  refine W.loop (X := Nat × List Value) (fun x => [(0, .slice A fs.length cp), (7, .int .i64 (fs.length : Nat)), (8, .int .i64 (x.1 : Nat))])
    (fun x wr => x.1 ≤ fs.length ∧ x.2.length = x.1 ∧ Mem wr (aLr 24 4 (.slice A fs.length cp) fs.length (List.zipWith PF.cells fs (x.2 ++ vs.drop x.1)).flatten :: List.zipWith (fun v (f : PF) => aBy v f.bytes) x.2 fs) [aFx v fs vs, zPre w]) (fun x => fs.length - x.1)
    (0, []) (by repeat (first | exact .nil | refine .cons rfl ?_)) ⟨Nat.zero_le _, rfl, by simpa using M⟩ ?_
  clear M
  rintro ⟨j, ws⟩ wr ⟨hj, hw, M⟩ K hK
  dsimp only at hj hw M
  dsimp only
  (repeat (first | (refine WR.id ?_; first | refine WR.nil ?_ | refine WR.s ?_ | refine WR.g ?_) | (refine W.id ?_; first | refine W.seq fun _ _ => ?_ | refine W.region ?_ | refine W.s ?_ | refine W.e ?_) | (refine Ends.id ?_; first | refine Ends.seq (by assumption) ?_ | refine Ends.s ?_)))
  refine W.condP (by rfl) (fun hlt => ?_) (fun hlt => ?_)
  · have hlt' : j < fs.length := by omega
    obtain ⟨f, hff⟩ : ∃ f, fs[j]? = some f := ⟨_, List.getElem?_eq_getElem hlt'⟩
    obtain ⟨vb, hvb⟩ : ∃ vb, vs[j]? = some vb := ⟨_, List.getElem?_eq_getElem (by omega)⟩
    obtain ⟨a, rfl⟩ : ∃ a, A = some ⟨a, 0, none⟩ := by
      obtain ⟨_, ⟨h0, h1⟩ | ⟨a, _, _, h0, _⟩⟩ := M.lrow
      · omega
      · cases h0; exact ⟨a, rfl⟩
    have hvj : (ws ++ vs.drop j)[j]? = some vb := by rw [List.getElem?_append_right (by omega), hw, Nat.sub_self, List.getElem?_drop]; simpa using hvb
    have hcell := range_get (At.lit (M.lrow.cells (g := a) rfl)) cells_len4 (zip_at hvj hff) 3 _ rfl
    obtain ⟨Fz, hz⟩ := M.z 0 rfl
    obtain ⟨Fb, hbs⟩ := fx_bytes hz hvb hff
    (repeat (first | (refine WR.id ?_; first | refine WR.nil ?_ | refine WR.s ?_ | refine WR.g ?_) | (refine W.id ?_; first | refine W.seq fun _ _ => ?_ | refine W.region ?_ | refine W.s ?_ | refine W.e ?_) | (refine Ends.id ?_; first | refine Ends.seq (by assumption) ?_ | refine Ends.s ?_)))
    refine WR.indexAddr (j := j) (by rfl) (by rfl) (by rfl) hlt' ?_
    refine WR.fieldAddr (by rfl) (by rfl) ?_
    refine WR.load (by rfl) (by exact hcell) (by rfl) ?_
    refine WR.call rfl rfl (bclone_any _ _ _ _ hbs (by have := hb f (List.mem_of_getElem? hff); omega)) ?_
    rintro _ w2 ⟨vn, rfl, ho, hb2⟩
    refine ⟨_, rfl, ?_⟩
    obtain ⟨An, cn, rfl, -⟩ := ho.bs.open_
    replace M := (M.newRow hb2 ho (Nat.le_refl _)).swap
    refine WR.indexAddr (j := j) (by rfl) (by rfl) (by rfl) hlt' ?_
    refine WR.fieldAddr (by rfl) (by rfl) ?_
    rw [show 0 + j * 4 + 3 = j * 4 + 3 from by omega]
    refine WR.storeLr M (by rfl) (by rfl) rfl rfl (by
      have := M.lrow.1
      omega) fun w3 M => ?_
    rw [flatten_set _ _ _ _ cells_len4 (by simp; omega) (by decide), zip_modify hff hvj] at M
    (repeat (first | (refine WR.id ?_; first | refine WR.nil ?_ | refine WR.s ?_ | refine WR.g ?_) | (refine W.id ?_; first | refine W.seq fun _ _ => ?_ | refine W.region ?_ | refine W.s ?_ | refine W.e ?_) | (refine Ends.id ?_; first | refine Ends.seq (by assumption) ?_ | refine Ends.s ?_)))
    refine Ends.round hK (j + 1, ws ++ [.slice An f.bytes.length cn]) (by repeat (first | exact .nil | refine .cons rfl ?_)) ⟨by dsimp only; omega, by simp [hw], ?_⟩ (by dsimp only; omega)
    dsimp only
    have e1 : (ws ++ vs.drop j).set j (.slice An f.bytes.length cn) = ws ++ [.slice An f.bytes.length cn] ++ vs.drop (j + 1) := by
      rw [List.set_append_right _ _ (by omega), hw, Nat.sub_self, List.append_assoc]
      congr 1
      rw [List.drop_eq_getElem_cons (by omega : j < vs.length)]
      rfl
    rw [e1] at M
    refine M.perm (.cons _ ?_)
    have e2 : List.zipWith (fun v (f : PF) => aBy v f.bytes) (ws ++ [.slice An f.bytes.length cn]) fs = List.zipWith (fun v (f : PF) => aBy v f.bytes) ws fs ++ [aBy (.slice An f.bytes.length cn) f.bytes] := by
      rw [show fs = fs.take j ++ f :: fs.drop (j + 1) from by
        have := (List.getElem?_eq_some_iff.1 hff).2
        rw [← this, ← List.drop_eq_getElem_cons hlt', List.take_append_drop]]
      rw [List.zipWith_append (by simp; omega), ← List.append_nil ws, List.zipWith_append (by simp; omega)]
      simp
    rw [e2]
    exact (List.perm_append_comm (l₁ := [_]))
  · obtain rfl : j = fs.length := by omega
    (repeat (first | (refine WR.id ?_; first | refine WR.nil ?_ | refine WR.s ?_ | refine WR.g ?_) | (refine W.id ?_; first | refine W.seq fun _ _ => ?_ | refine W.region ?_ | refine W.s ?_ | refine W.e ?_) | (refine Ends.id ?_; first | refine Ends.seq (by assumption) ?_ | refine Ends.s ?_)))
    refine Ends.ret1 rfl rfl ⟨_, rfl, ?_⟩
    rw [show ws ++ vs.drop fs.length = ws by rw [List.drop_of_length_le (by omega), List.append_nil]] at M
    have M2 := E.Mem.mkFl (Os := []) ws hw (by rw [List.append_nil]; exact M)
    exact M2.fresh 1 rfl

end Go.Proofs.Ytibmcpbkialbnaa
namespace Go.Proofs.Ytibmcpbkialbnaa
open Go.RowKit K L E
open Go.Maps (Keyed)
set_option linter.unusedVariables false
set_option linter.unusedSimpArgs false

def aSrc (b : Nat) (v : Value) (fs : List PF) (vs : List Value) : Ass := aSep (aBox b [v]) (aFx v fs vs)
variable {w : World} {b g c : Nat} {l : PL} {es : List MapEntry} {Os Zs : List Ass}
theorem all_M (hok : l.ok) (M : Mem w (aLk b l :: Os) Zs) (p : PK) (h1 : i64 p.1) (h2 : i64 p.2) :
    Calls Try.prog 24 #[.pointer (some ⟨b, 0, none⟩), .int .i64 p.1, .int .i64 p.2] w fun r w' => ∃ b7 v vs, r = .returned (.func (.func 40) #[] #[.pointer (some ⟨b7, 0, none⟩)]) ∧ vs.length = (l.m p).length ∧ Mem w' (aSrc b7 v (l.m p) vs :: aLk b l :: Os) Zs := by
  refine enter Try.func24 rfl Try.ntmps24 rfl rfl ?_
  (repeat (first | (refine WR.id ?_; first | refine WR.nil ?_ | refine WR.s ?_ | refine WR.g ?_) | (refine W.id ?_; first | refine W.seq fun _ _ => ?_ | refine W.region ?_ | refine W.s ?_ | refine W.e ?_) | (refine Ends.id ?_; first | refine Ends.seq (by assumption) ?_ | refine Ends.s ?_)))
  refine WR.alloc (by rfl) fun w1 hb1 hx hs1 => ?_
  replace M := (M.newBox (cs := [.slice none 0 0]) hb1 hx).swap
  obtain ⟨g, es, c, hk, Mo⟩ := M.lk
  have hcnt := hk.cnt p
  have htop := hk.top
  obtain ⟨v, hlook, F, hF⟩ := look_lk hk Mo.drop p h1 h2
  have hB := Mo.box
  (repeat (first | (refine WR.id ?_; first | refine WR.nil ?_ | refine WR.s ?_ | refine WR.g ?_) | (refine W.id ?_; first | refine W.seq fun _ _ => ?_ | refine W.region ?_ | refine W.s ?_ | refine W.e ?_) | (refine Ends.id ?_; first | refine Ends.seq (by assumption) ?_ | refine Ends.s ?_)))
  refine WR.pairB rfl rfl rfl ?_
  refine WR.lookup (by rfl) (by rfl) (hlook _ Mo.drop.map) (by rfl) ?_
  refine WR.call rfl rfl (cloned_any v _ _ _ hF (by omega) (fun f hf => by have := (right_i64 (hok p f hf).2).2.2.2.1; omega)) ?_
  rintro _ w2 ⟨v', rfl, hf⟩
  refine ⟨_, rfl, ?_⟩
  replace M := (M.add hf).third
  obtain ⟨A, cp, rfl⟩ : ∃ A c, v' = .slice A (l.m p).length c := by obtain ⟨F, hF⟩ := M.swap.get; exact aFl_sl hF
  refine WR.storeBox M.box (by rfl) (by rfl) rfl rfl (by simp) fun w3 hu3 hx3 hs3 => ?_
  replace M := (M.setBox hu3 hx3).swap
  obtain ⟨vs, M⟩ := M.ex
  obtain ⟨hl, M⟩ := M.cond
  (repeat (first | (refine WR.id ?_; first | refine WR.nil ?_ | refine WR.s ?_ | refine WR.g ?_) | (refine W.id ?_; first | refine W.seq fun _ _ => ?_ | refine W.region ?_ | refine W.s ?_ | refine W.e ?_) | (refine Ends.id ?_; first | refine Ends.seq (by assumption) ?_ | refine Ends.s ?_)))
  refine WR.val (v := .func (.func 40) #[] #[.pointer (some ⟨w.heap.size, 0, none⟩)]) (w' := w3) rfl (fun a ha => by
    have h1 := ha.ev (x := .tmp 7) rfl
    generalize a.eval = ev at h1 ⊢
    unfold execOp
    simp [h1, Instr.makeFunc, Sem.run_pure, Result.andThen]) ?_
  (repeat (first | (refine WR.id ?_; first | refine WR.nil ?_ | refine WR.s ?_ | refine WR.g ?_) | (refine W.id ?_; first | refine W.seq fun _ _ => ?_ | refine W.region ?_ | refine W.s ?_ | refine W.e ?_) | (refine Ends.id ?_; first | refine Ends.seq (by assumption) ?_ | refine Ends.s ?_)))
  exact Ends.ret1 rfl rfl ⟨_, _, vs, rfl, hl, M.swap.join⟩
def encF (x : Nat × PF × Value) : Array Value := #[.int .i64 (x.1 : Nat), .agg (x.2.1.cells x.2.2).toArray]
def GA (fs : List PF) (pre : List (Nat × PF × Value)) : Prop := ∀ (j : Nat) x, pre[j]? = some x → x.1 = j ∧ fs[j]? = some x.2.1
theorem GA.snoc {fs : List PF} {pre : List (Nat × PF × Value)} {f : PF} {vb : Value} (h : GA fs pre) (hf : fs[pre.length]? = some f) : GA fs (pre ++ [(pre.length, f, vb)]) := by
  intro j x hx
  by_cases hj : j < pre.length
  · rw [List.getElem?_append_left hj] at hx; exact h j x hx
  · rw [List.getElem?_append_right (by omega)] at hx
    obtain ⟨hj2, he⟩ := List.getElem?_eq_some_iff.1 hx
    have : j = pre.length := by simp at hj2; omega
    subst this
    simp at he
    subst he
    exact ⟨rfl, hf⟩
theorem GA.last {fs : List PF} {pre : List (Nat × PF × Value)} {x : Nat × PF × Value} (h : GA fs (pre ++ [x])) : x.1 = pre.length ∧ fs[pre.length]? = some x.2.1 := h _ _ (by simp)
set_option maxHeartbeats 1000000 in
theorem all_iter (b7 : Nat) (v : Value) (fs : List PF) (vs : List Value) (hl : vs.length = fs.length) (hn : fs.length ≤ 1048576) (hb : ∀ f ∈ fs, f.bytes.length ≤ 1048576) :
    Iter Try.prog 40 #[.pointer (some ⟨b7, 0, none⟩)] encF (fun x => aBy x.2.2 x.2.1.bytes) (aSrc b7 v fs vs) (fun xs => GA fs xs ∧ xs.length = fs.length) (GA fs) fs.length := by
  intro l J Jx W hsrc hY h0
  obtain ⟨F0, hF0⟩ := hsrc _ _ h0
  obtain ⟨A, cp, rfl⟩ : ∃ A c, v = .slice A fs.length c := by obtain ⟨F1, F2, _, h2, _⟩ := hF0; obtain ⟨_, A, c, h, _⟩ := (fx_row h2).sl; exact ⟨A, c, h⟩
  have hB : Box W b7 [.slice A fs.length cp] := by obtain ⟨F1, F2, h1, _⟩ := hF0; exact h1.2
  refine enterI Try.func40 rfl Try.ntmps40 rfl rfl ?_
  (repeat (first | (refine WRI.id ?_; first | refine WRI.nil ?_ | refine WRI.s ?_ | refine WRI.g ?_) | (refine WI.id ?_; first | refine WI.seq fun _ _ => ?_ | refine WI.region ?_ | refine WI.s ?_ | refine WI.e ?_) | (refine Ends.id ?_; first | refine Ends.seqI (by assumption) ?_ | refine Ends.s ?_)))
  refine WI.loop (X := Nat) (fun j => [(0, .func (.yield l) #[] #[]), (5, .slice A fs.length cp), (6, .int .i64 (fs.length : Nat)), (7, .int .i64 (j : Nat))])
    (fun j wr => j ≤ fs.length ∧ ∃ pre W0, pre.length = j ∧ GA fs pre ∧ J pre W0 ∧ Below W0.heap.size W0 wr) (fun j => fs.length - j)
    0 (by repeat (first | exact .nil | refine .cons rfl ?_)) ⟨Nat.zero_le _, [], W, rfl, (fun j x hx => by simp at hx), h0, Below.refl _ _⟩ ?_
  rintro j wr ⟨hj, pre, W0, rfl, hG, hJ, hbw⟩ K hK
  (repeat (first | (refine WRI.id ?_; first | refine WRI.nil ?_ | refine WRI.s ?_ | refine WRI.g ?_) | (refine WI.id ?_; first | refine WI.seq fun _ _ => ?_ | refine WI.region ?_ | refine WI.s ?_ | refine WI.e ?_) | (refine Ends.id ?_; first | refine Ends.seqI (by assumption) ?_ | refine Ends.s ?_)))
  refine WI.condP (by rfl) (fun hlt => ?_) (fun hlt => ?_)
  · have hlt' : pre.length < fs.length := by omega
    obtain ⟨f, hff⟩ : ∃ f, fs[pre.length]? = some f := ⟨_, List.getElem?_eq_getElem hlt'⟩
    obtain ⟨vb, hvb⟩ : ∃ vb, vs[pre.length]? = some vb := ⟨_, List.getElem?_eq_getElem (by omega)⟩
    obtain ⟨F1, hF1⟩ := hsrc _ _ hJ
    have M := (Mem.src hF1).below hbw
    obtain ⟨F2, F3, F4, _, hx, _⟩ := M.z 0 rfl
    obtain ⟨Fb, hbs⟩ := fx_bytes hx hvb hff
    have hrow := fx_row hx
    obtain ⟨a, rfl⟩ : ∃ a, A = some ⟨a, 0, none⟩ := by
      obtain ⟨_, ⟨h0, h1⟩ | ⟨a, _, _, h0, _⟩⟩ := hrow
      · omega
      · cases h0; exact ⟨a, rfl⟩
    have hrng := range_get (At.lit (hrow.cells (g := a) rfl)) cells_len4 (zip_at hvb hff)
    have h1b := fx_one hl hx vb (List.mem_of_getElem? hvb)
    (repeat (first | (refine WRI.id ?_; first | refine WRI.nil ?_ | refine WRI.s ?_ | refine WRI.g ?_) | (refine WI.id ?_; first | refine WI.seq fun _ _ => ?_ | refine WI.region ?_ | refine WI.s ?_ | refine WI.e ?_) | (refine Ends.id ?_; first | refine Ends.seqI (by assumption) ?_ | refine Ends.s ?_)))
    refine WRI.indexAddr (j := pre.length) (by rfl) (by rfl) (by rfl) hlt' ?_
    refine WRI.loadRow (by rfl) hrng (by rfl) (by rfl) ?_
    refine WRI.alloc (by rfl) fun w1 hb1 hx1 hs1 => ?_
    replace M := M.newBox (cs := [.int .i64 0, .int .i64 0, .int .i64 0, .slice none 0 0]) hb1 hx1
    refine WRI.assign rfl rfl ?_
    refine WRI.storeAgg (cs' := f.cells vb) M.box (by rfl) (by rfl) (by rfl) (by rfl) (by
      intro u hu; simp [PF.cells] at hu; rcases hu with rfl | rfl | rfl | rfl <;> first | rfl | exact h1b) fun w2 hu2 hx2 hs2 => ?_
    replace M := M.setBox hu2 hx2
    have hB := M.box
    obtain ⟨F2, F3, F4, _, hx, _⟩ := M.z 0 rfl
    obtain ⟨Fb, hbs⟩ := fx_bytes hx hvb hff
    (repeat (first | (refine WRI.id ?_; first | refine WRI.nil ?_ | refine WRI.s ?_ | refine WRI.g ?_) | (refine WI.id ?_; first | refine WI.seq fun _ _ => ?_ | refine WI.region ?_ | refine WI.s ?_ | refine WI.e ?_) | (refine Ends.id ?_; first | refine Ends.seqI (by assumption) ?_ | refine Ends.s ?_)))
    refine WRI.call rfl rfl (bclone_any _ _ _ _ hbs (by have := hb f (List.mem_of_getElem? hff); omega)) ?_
    rintro _ w3 ⟨vn, rfl, ho, hb3⟩
    refine ⟨_, rfl, ?_⟩
    obtain ⟨An, cn, rfl, -⟩ := ho.bs.open_
    replace M := (M.newRow hb3 ho (Nat.le_refl _)).swap
    have hB := M.box
    (repeat (first | (refine WRI.id ?_; first | refine WRI.nil ?_ | refine WRI.s ?_ | refine WRI.g ?_) | (refine WI.id ?_; first | refine WI.seq fun _ _ => ?_ | refine WI.region ?_ | refine WI.s ?_ | refine WI.e ?_) | (refine Ends.id ?_; first | refine Ends.seqI (by assumption) ?_ | refine Ends.s ?_)))
    refine WRI.storeBox M.box (by rfl) (by rfl) rfl rfl (by simp [PF.cells]) fun w4 hu4 hx4 hs4 => ?_
    replace M := (M.setBox hu4 hx4)
    have hB := M.box
    (repeat (first | (refine WRI.id ?_; first | refine WRI.nil ?_ | refine WRI.s ?_ | refine WRI.g ?_) | (refine WI.id ?_; first | refine WI.seq fun _ _ => ?_ | refine WI.region ?_ | refine WI.s ?_ | refine WI.e ?_) | (refine Ends.id ?_; first | refine Ends.seqI (by assumption) ?_ | refine Ends.s ?_)))
    refine WRI.yield (vs := encF (pre.length, f, .slice An f.bytes.length cn)) (by rfl) (by rfl) (by rfl) (hY pre (pre.length, f, .slice An f.bytes.length cn) W0 w4 hJ (M.swap.fresh 1 rfl) (hG.snoc hff) hlt') ?_
    rintro e w5 (⟨rfl, hJ5⟩ | ⟨rfl, hJ5⟩)
    · refine ⟨_, rfl, ?_⟩
      (repeat (first | (refine WRI.id ?_; first | refine WRI.nil ?_ | refine WRI.s ?_ | refine WRI.g ?_) | (refine WI.id ?_; first | refine WI.seq fun _ _ => ?_ | refine WI.region ?_ | refine WI.s ?_ | refine WI.e ?_) | (refine Ends.id ?_; first | refine Ends.seqI (by assumption) ?_ | refine Ends.s ?_)))
      exact Ends.round hK (pre.length + 1) (by repeat (first | exact .nil | refine .cons rfl ?_)) ⟨by omega, _, w5, by simp, hG.snoc hff, hJ5, Below.refl _ _⟩ (by omega)
    · refine ⟨_, rfl, ?_⟩
      (repeat (first | (refine WRI.id ?_; first | refine WRI.nil ?_ | refine WRI.s ?_ | refine WRI.g ?_) | (refine WI.id ?_; first | refine WI.seq fun _ _ => ?_ | refine WI.region ?_ | refine WI.s ?_ | refine WI.e ?_) | (refine Ends.id ?_; first | refine Ends.seqI (by assumption) ?_ | refine Ends.s ?_)))
      exact Ends.ret0 rfl ⟨⟨_, rfl⟩, .inr ⟨_, w5, hG.snoc hff, hJ5, Below.refl _ _⟩⟩
  · (repeat (first | (refine WRI.id ?_; first | refine WRI.nil ?_ | refine WRI.s ?_ | refine WRI.g ?_) | (refine WI.id ?_; first | refine WI.seq fun _ _ => ?_ | refine WI.region ?_ | refine WI.s ?_ | refine WI.e ?_) | (refine Ends.id ?_; first | refine Ends.seqI (by assumption) ?_ | refine Ends.s ?_)))
    exact Ends.end0 rfl ⟨⟨_, rfl⟩, .inl ⟨pre, W0, ⟨hG, by omega⟩, hJ, hbw⟩⟩

end Go.Proofs.Ytibmcpbkialbnaa
