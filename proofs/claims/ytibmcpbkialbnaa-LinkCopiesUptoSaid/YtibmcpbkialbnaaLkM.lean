/- Layer 12's reference in plain words: all flights in one list; how it stands to links by pairs. No condition. -/
import Derived.Test.YtibmcpbkialbnaaLkJ
import Derived.Test.YtibmcpbkialbnaaLkK
namespace Go.Proofs.Ytibmcpbkialbnaa
open Go.RowKit K L E
set_option linter.unusedVariables false
set_option linter.unusedSimpArgs false

/-- The places of those that a test lets through. -/
def idx {α : Type} (P : α → Bool) (fs : List α) : List Nat := (fs.zipIdx.filter fun x => P x.1).map (·.2)
theorem idx_off {α : Type} (P : α → Bool) : ∀ (fs : List α) (k : Nat), ((fs.zipIdx k).filter fun x => P x.1).map (·.2) = (idx P fs).map (· + k)
  | [], k => rfl
  | f :: fs, k => by
    have h1 := idx_off P fs (k + 1)
    have h2 := idx_off P fs 1
    unfold idx at h1 h2 ⊢
    rw [List.zipIdx_cons, List.zipIdx_cons, List.filter_cons, List.filter_cons]
    dsimp only
    split
    · rw [List.map_cons, List.map_cons, List.map_cons, h1, h2]
      simp only [List.map_map]
      congr 1
      · omega
      · apply List.map_congr_left; intro x _; simp only [Function.comp]; omega
    · rw [h1, h2]
      simp only [List.map_map]
      apply List.map_congr_left; intro x _; simp only [Function.comp]; omega
theorem idx_cons {α : Type} (P : α → Bool) (f : α) (fs : List α) : idx P (f :: fs) = if P f then 0 :: (idx P fs).map (· + 1) else (idx P fs).map (· + 1) := by
  have h := idx_off P fs 1
  unfold idx at h ⊢
  rw [List.zipIdx_cons, List.filter_cons]
  dsimp only
  split
  · rw [List.map_cons, Nat.zero_add, h]
  · rw [Nat.zero_add, h]
theorem idx_len {α : Type} (P : α → Bool) : ∀ fs : List α, (idx P fs).length = (fs.filter P).length
  | [] => rfl
  | f :: fs => by
    rw [idx_cons, List.filter_cons]
    split <;> simp [idx_len P fs]
theorem idx_split {α : Type} (P : α → Bool) : ∀ (fs : List α) (k i : Nat), (idx P fs)[k]? = some i → ∃ a x b, fs = a ++ x :: b ∧ a.length = i ∧ P x = true ∧ (a.filter P).length = k
  | [], k, i, h => by simp [idx] at h
  | f :: fs, k, i, h => by
    rw [idx_cons] at h
    by_cases hf : P f = true
    · rw [if_pos hf] at h
      cases k with
      | zero =>
        simp at h
        subst h
        exact ⟨[], f, fs, rfl, rfl, hf, rfl⟩
      | succ k =>
        rw [List.getElem?_cons_succ, List.getElem?_map] at h
        cases hk : (idx P fs)[k]? with
        | none => rw [hk] at h; cases h
        | some j =>
          rw [hk] at h
          simp at h
          subst h
          obtain ⟨a, x, b, e1, e2, e3, e4⟩ := idx_split P fs k j hk
          exact ⟨f :: a, x, b, by rw [e1]; rfl, by simp [e2], e3, by rw [List.filter_cons, if_pos hf]; simp [e4]⟩
    · rw [if_neg hf, List.getElem?_map] at h
      cases hk : (idx P fs)[k]? with
      | none => rw [hk] at h; cases h
      | some j =>
        rw [hk] at h
        simp at h
        subst h
        obtain ⟨a, x, b, e1, e2, e3, e4⟩ := idx_split P fs k j hk
        exact ⟨f :: a, x, b, by rw [e1]; rfl, by simp [e2], e3, by rw [List.filter_cons, if_neg hf]; exact e4⟩
theorem idx_get {α : Type} (P : α → Bool) : ∀ (a : List α) (x : α) (b : List α), P x = true → (idx P (a ++ x :: b))[(a.filter P).length]? = some a.length
  | [], x, b, h => by rw [List.nil_append, idx_cons, if_pos h]; rfl
  | f :: a, x, b, h => by
    have ih := idx_get P a x b h
    rw [List.cons_append, idx_cons, List.filter_cons]
    by_cases hf : P f = true
    · rw [if_pos hf, if_pos hf, List.length_cons, List.getElem?_cons_succ, List.getElem?_map, ih]; rfl
    · rw [if_neg hf, if_neg hf, List.getElem?_map, ih]; rfl
theorem came_idx (fs : List PF) (now : Int) : cameF fs now = idx (fun f => decide (f.tick ≤ now)) fs := rfl
def ofp (p : PK) (f : PF) : Bool := decide ((f.frm, f.dst) = p)
abbrev RF := List PF
def RF.of (fs : RF) (p : PK) : List Nat := idx (ofp p) fs
def RF.arr (fs : RF) (p : PK) (now : Int) : List Nat := (RF.of fs p).filter fun i => match fs[i]? with | none => false | some f => decide (f.tick ≤ now)
def RF.send (fs : RF) (f : PF) : Int × RF := if rightB f = false then (2, fs) else if fs.length = 512 then (6, fs) else (0, fs ++ [f])
def RF.give (fs : RF) (p : PK) (now n : Int) : Int × List UInt8 × RF := if n < 0 then (4, [], fs) else match (RF.arr fs p now)[n.toNat]? with
  | none => (4, [], fs)
  | some i => match fs[i]? with
    | none => (4, [], fs)
    | some f => (0, f.bytes, fs.eraseIdx i)
def RF.lose (fs : RF) (p : PK) (n : Int) : Int × RF := if n < 0 then (4, fs) else match (RF.of fs p)[n.toNat]? with
  | none => (4, fs)
  | some i => (0, fs.eraseIdx i)
def RF.dbl (fs : RF) (p : PK) (n : Int) : Int × RF := if n < 0 then (4, fs) else match (RF.of fs p)[n.toNat]? with
  | none => (4, fs)
  | some i => match fs[i]? with
    | none => (4, fs)
    | some f => RF.send fs f
def RF.spoil (fs : RF) (p : PK) (n bit : Int) : Int × RF := if n < 0 then (4, fs) else match (RF.of fs p)[n.toNat]? with
  | none => (4, fs)
  | some i => match fs[i]? with
    | none => (4, fs)
    | some f => if bit < 0 ∨ 8 * (f.bytes.length : Int) ≤ bit then (2, fs) else (0, fs.set i { f with bytes := turnB f.bytes bit.toNat })
def RF.act (fs : RF) (o : PO) : Int × RF := match kindOf o.kind with
  | 0 => RF.send fs o.fl
  | 1 => ((RF.give fs o.pr o.now o.n).1, (RF.give fs o.pr o.now o.n).2.2)
  | 2 => RF.lose fs o.pr o.n
  | 3 => RF.dbl fs o.pr o.n
  | _ => RF.spoil fs o.pr o.n o.bit
theorem arr_idx (fs : RF) (p : PK) (now : Int) : RF.arr fs p now = idx (fun f => ofp p f && decide (f.tick ≤ now)) fs := by
  unfold RF.arr RF.of idx
  rw [List.filter_map, List.filter_filter]
  congr 1
  apply List.filter_congr
  rintro ⟨f, i⟩ hx
  obtain ⟨_, h2, h3⟩ := List.mem_zipIdx hx
  simp only [Nat.zero_add, Nat.sub_zero] at h2 h3
  simp only [Function.comp, List.getElem?_eq_getElem h2, ← h3]
  exact Bool.and_comm _ _
/-- Links and the list of all that is on its way. -/
structure TieL (l : PL) (fs : RF) : Prop where
  at_ : ∀ p, l.m p = fs.filter (ofp p)
  n : l.n = fs.length
  ok : ∀ f ∈ fs, rightB f = true
theorem TieL.lok {l : PL} {fs : RF} (h : TieL l fs) : l.ok := fun p f hf => by
  rw [h.at_] at hf
  obtain ⟨h1, h2⟩ := List.mem_filter.1 hf
  exact ⟨of_decide_eq_true h2, h.ok f h1⟩
theorem TieL.none : TieL PL.none [] := ⟨fun p => rfl, rfl, fun f hf => by cases hf⟩
theorem TieL.send {l : PL} {fs : RF} (h : TieL l fs) (f : PF) : (l.send f).1 = (RF.send fs f).1 ∧ TieL (l.send f).2 (RF.send fs f).2 := by
  unfold PL.send RF.send
  rw [← h.n]
  split
  · exact ⟨rfl, h⟩
  · split
    · exact ⟨rfl, h⟩
    · rename_i hr _
      refine ⟨rfl, fun q => ?_, ?_, fun g hg => ?_⟩
      · show (l.put _ _ _).m q = _
        rw [List.filter_append, ← h.at_]
        by_cases hq : q = (f.frm, f.dst)
        · subst hq
          rw [PL.put_at]
          simp [ofp]
        · rw [PL.put_ne _ _ _ hq]
          have : ofp q f = false := decide_eq_false fun e => hq e.symm
          simp [this]
      · show l.n + 1 = _
        rw [h.n]; simp
      · rcases List.mem_append.1 hg with hg | hg
        · exact h.ok g hg
        · obtain rfl := List.mem_singleton.1 hg; simpa using hr
/-- One of a pair's, in the list and by the pair. -/
theorem TieL.find {l : PL} {fs : RF} (h : TieL l fs) {p : PK} {k i : Nat} (hi : (RF.of fs p)[k]? = some i) : ∃ a f b, fs = a ++ f :: b ∧ a.length = i ∧ ofp p f = true ∧ (a.filter (ofp p)).length = k ∧ l.m p = a.filter (ofp p) ++ f :: b.filter (ofp p) := by
  obtain ⟨a, f, b, e1, e2, e3, e4⟩ := idx_split (ofp p) fs k i hi
  exact ⟨a, f, b, e1, e2, e3, e4, by rw [h.at_, e1, List.filter_append, List.filter_cons, if_pos e3]⟩
theorem TieL.len {l : PL} {fs : RF} (h : TieL l fs) (p : PK) : (RF.of fs p).length = (l.m p).length := by rw [h.at_]; exact idx_len _ _
theorem er_mid {α : Type} (a : List α) (x : α) (b : List α) : (a ++ x :: b).eraseIdx a.length = a ++ b := by rw [List.eraseIdx_append_of_length_le (Nat.le_refl _)]; simp
theorem set_mid {α : Type} (a : List α) (x y : α) (b : List α) : (a ++ x :: b).set a.length y = a ++ y :: b := by rw [List.set_append_right _ _ (Nat.le_refl _)]; simp
theorem TieL.erase {l : PL} {a b : List PF} {f : PF} {p : PK} (h : TieL l (a ++ f :: b)) (hf : ofp p f = true) : TieL (l.put p (a.filter (ofp p) ++ b.filter (ofp p)) (l.n - 1)) (a ++ b) := by
  refine ⟨fun q => ?_, ?_, fun g hg => h.ok g ?_⟩
  · rw [List.filter_append]
    by_cases hq : q = p
    · subst hq; rw [PL.put_at]
    · rw [PL.put_ne _ _ _ hq, h.at_, List.filter_append, List.filter_cons]
      have : ofp q f = false := by
        have e : (f.frm, f.dst) = p := of_decide_eq_true hf
        exact decide_eq_false fun e2 => hq (e2.symm.trans e)
      rw [if_neg (by rw [this]; decide)]
  · show l.n - 1 = _
    rw [h.n]; simp
  · rcases List.mem_append.1 hg with hg | hg <;> simp [hg]
theorem TieL.lose {l : PL} {fs : RF} (h : TieL l fs) (p : PK) (n : Int) : (l.lose p n).1 = (RF.lose fs p n).1 ∧ TieL (l.lose p n).2 (RF.lose fs p n).2 := by
  unfold PL.lose RF.lose
  by_cases h0 : n < 0
  · rw [if_pos (.inl h0), if_pos h0]; exact ⟨rfl, h⟩
  · rw [if_neg h0]
    have hl := h.len p
    cases hk : (RF.of fs p)[n.toNat]? with
    | none =>
      have := List.getElem?_eq_none_iff.1 hk
      rw [if_pos (.inr (by omega))]
      exact ⟨rfl, h⟩
    | some i =>
      have := (List.getElem?_eq_some_iff.1 hk).1
      rw [if_neg (by omega)]
      obtain ⟨a, f, b, rfl, rfl, e3, e4, e5⟩ := h.find hk
      refine ⟨rfl, ?_⟩
      dsimp only
      rw [e5, ← e4, er_mid, er_mid]
      exact h.erase e3
theorem TieL.dbl {l : PL} {fs : RF} (h : TieL l fs) (p : PK) (n : Int) : (l.dbl p n).1 = (RF.dbl fs p n).1 ∧ TieL (l.dbl p n).2 (RF.dbl fs p n).2 := by
  unfold PL.dbl RF.dbl
  by_cases h0 : n < 0
  · rw [if_pos h0, if_pos h0]; exact ⟨rfl, h⟩
  · rw [if_neg h0, if_neg h0]
    have hl := h.len p
    cases hk : (RF.of fs p)[n.toNat]? with
    | none =>
      have := List.getElem?_eq_none_iff.1 hk
      rw [List.getElem?_eq_none (by omega)]
      exact ⟨rfl, h⟩
    | some i =>
      obtain ⟨a, f, b, rfl, rfl, e3, e4, e5⟩ := h.find hk
      rw [e5, ← e4]
      simp only [List.getElem?_append_right (Nat.le_refl _), Nat.sub_self, List.getElem?_cons_zero]
      exact h.send f
theorem TieL.spoil {l : PL} {fs : RF} (h : TieL l fs) (p : PK) (n bit : Int) : (l.spoil p n bit).1 = (RF.spoil fs p n bit).1 ∧ TieL (l.spoil p n bit).2 (RF.spoil fs p n bit).2 := by
  unfold PL.spoil RF.spoil
  by_cases h0 : n < 0
  · rw [if_pos h0, if_pos h0]; exact ⟨rfl, h⟩
  · rw [if_neg h0, if_neg h0]
    have hl := h.len p
    cases hk : (RF.of fs p)[n.toNat]? with
    | none =>
      have := List.getElem?_eq_none_iff.1 hk
      rw [List.getElem?_eq_none (by omega)]
      exact ⟨rfl, h⟩
    | some i =>
      obtain ⟨a, f, b, rfl, rfl, e3, e4, e5⟩ := h.find hk
      rw [e5, ← e4]
      simp only [List.getElem?_append_right (Nat.le_refl _), Nat.sub_self, List.getElem?_cons_zero]
      by_cases hb : bit < 0 ∨ 8 * (f.bytes.length : Int) ≤ bit
      · rw [if_pos hb, if_pos hb]; exact ⟨rfl, h⟩
      · rw [if_neg hb, if_neg hb]
        refine ⟨rfl, fun q => ?_, ?_, fun g hg => ?_⟩
        · dsimp only
          rw [set_mid, set_mid, List.filter_append, List.filter_cons]
          have hsame : ofp q { f with bytes := turnB f.bytes bit.toNat } = ofp q f := rfl
          rw [hsame]
          by_cases hq : q = p
          · subst hq
            rw [PL.put_at, if_pos e3]
          · have : ofp q f = false := by
              have e : (f.frm, f.dst) = p := of_decide_eq_true e3
              exact decide_eq_false fun e2 => hq (e2.symm.trans e)
            rw [PL.put_ne _ _ _ hq, if_neg (by rw [this]; decide), h.at_, List.filter_append, List.filter_cons, if_neg (by rw [this]; decide)]
        · show l.n = _
          rw [h.n]; simp
        · rcases List.mem_or_eq_of_mem_set hg with hg | rfl
          · exact h.ok g hg
          · exact turn_right _ (h.ok f (by simp))
theorem TieL.give {l : PL} {fs : RF} (h : TieL l fs) (p : PK) (now n : Int) : (l.give p now n).1 = (RF.give fs p now n).1 ∧ (l.give p now n).2.1 = (RF.give fs p now n).2.1 ∧ TieL (l.give p now n).2.2 (RF.give fs p now n).2.2 := by
  unfold PL.give RF.give
  by_cases h0 : n < 0
  · rw [if_pos h0, if_pos h0]; exact ⟨rfl, rfl, h⟩
  · rw [if_neg h0, if_neg h0, arr_idx]
    have hl : (idx (fun f => ofp p f && decide (f.tick ≤ now)) fs).length = (cameF (l.m p) now).length := by
      rw [idx_len, came_idx, idx_len, h.at_, List.filter_filter]
      congr 1
      apply List.filter_congr
      intro x _
      exact Bool.and_comm _ _
    cases hk : (idx (fun f => ofp p f && decide (f.tick ≤ now)) fs)[n.toNat]? with
    | none =>
      have := List.getElem?_eq_none_iff.1 hk
      rw [List.getElem?_eq_none (by omega)]
      exact ⟨rfl, rfl, h⟩
    | some i =>
      obtain ⟨a, f, b, rfl, rfl, e3, e4⟩ := idx_split _ fs _ _ hk
      obtain ⟨e3a, e3b⟩ := (Bool.and_eq_true _ _ ▸ e3 : _ ∧ _)
      have hm : l.m p = a.filter (ofp p) ++ f :: b.filter (ofp p) := by rw [h.at_, List.filter_append, List.filter_cons, if_pos e3a]
      have hc : (cameF (l.m p) now)[n.toNat]? = some (a.filter (ofp p)).length := by
        rw [came_idx, hm, ← e4]
        have := idx_get (fun f : PF => decide (f.tick ≤ now)) (a.filter (ofp p)) f (b.filter (ofp p)) e3b
        rw [List.filter_filter] at this
        rw [← this]
        congr 2
        apply List.filter_congr
        intro x _
        exact Bool.and_comm _ _
      rw [hc, hm]
      simp only [List.getElem?_append_right (Nat.le_refl _), Nat.sub_self, List.getElem?_cons_zero]
      rw [er_mid, er_mid]
      exact ⟨trivial, trivial, h.erase e3a⟩
theorem kind_cases (k : Int) : kindOf k = 0 ∨ kindOf k = 1 ∨ kindOf k = 2 ∨ kindOf k = 3 ∨ kindOf k = 4 := by
  unfold kindOf kindAt
  split <;> simp
theorem RF.act0 {l : RF} {o : PO} (hk : kindOf o.kind = 0) : RF.act l o = RF.send l o.fl := by unfold RF.act; simp only [hk]
theorem RF.act1 {l : RF} {o : PO} (hk : kindOf o.kind = 1) : RF.act l o = ((RF.give l o.pr o.now o.n).1, (RF.give l o.pr o.now o.n).2.2) := by unfold RF.act; simp only [hk]
theorem RF.act2 {l : RF} {o : PO} (hk : kindOf o.kind = 2) : RF.act l o = RF.lose l o.pr o.n := by unfold RF.act; simp only [hk]
theorem RF.act3 {l : RF} {o : PO} (hk : kindOf o.kind = 3) : RF.act l o = RF.dbl l o.pr o.n := by unfold RF.act; simp only [hk]
theorem RF.act4 {l : RF} {o : PO} (hk : kindOf o.kind = 4) : RF.act l o = RF.spoil l o.pr o.n o.bit := by unfold RF.act; simp only [hk]
theorem TieL.act {l : PL} {fs : RF} (h : TieL l fs) (o : PO) : (l.act o).1 = (RF.act fs o).1 ∧ TieL (l.act o).2 (RF.act fs o).2 := by
  rcases kind_cases o.kind with hk | hk | hk | hk | hk
  · rw [PL.act0 hk, RF.act0 hk]; exact h.send _
  · rw [PL.act1 hk, RF.act1 hk]
    obtain ⟨h1, _, h3⟩ := h.give o.pr o.now o.n
    exact ⟨h1, h3⟩
  · rw [PL.act2 hk, RF.act2 hk]; exact h.lose _ _
  · rw [PL.act3 hk, RF.act3 hk]; exact h.dbl _ _
  · rw [PL.act4 hk, RF.act4 hk]; exact h.spoil _ _ _

end Go.Proofs.Ytibmcpbkialbnaa
namespace Go.Proofs.Ytibmcpbkialbnaa
open Go.RowKit K L E
open Go.Maps (Keyed)
set_option linter.unusedVariables false
set_option linter.unusedSimpArgs false

theorem PF.one (f : PF) (v : Value) (h : v.oneCell' = true) : ∀ u ∈ f.cells v, u.oneCell' = true := by
  intro u hu
  simp [PF.cells] at hu
  rcases hu with rfl | rfl | rfl | rfl <;> first | rfl | exact h
variable {w : World} {Os Zs : List Ass}
theorem WR.flApp {n : Nat} {D : List Deferred} {L : Slots} {Q : Exit → Act → World → Prop} {ops : Array Oper} {rest : List Oper} {d : Nat} {ty : TypeId} {pos : String} {after : Array Edge} {x y : Operand} {vx vy vb : Value} {fs : List PF} {f : PF} {F : Nat → Prop}
    (M : Mem w (aFl vx fs :: aBy vb f.bytes :: Os) Zs) (hx : evo L x = some vx) (hy : evo L y = some vy) (hd : Nat.blt d n = true) (hs : K.Sl w F 4 vy 1 (f.cells vb)) (h1 : vb.oneCell' = true) (hb : fs.length + 1 ≤ 1073741824)
    (h : ∀ A c w', Mem w' (aFl (.slice A (fs.length + 1) c) (fs ++ [f]) :: Os) Zs → WR Try.prog n D ops rest ((d, .slice A (fs.length + 1) c) :: L) w' Q) : WR Try.prog n D ops (⟨some d, .call { callee := .builtin .append, args := #[x, y], argTypes := #[43, 43] }, ty, pos, after, none⟩ :: rest) L w Q := by
  obtain ⟨v', w', hr, M2, hu⟩ := app_fl M hs h1 hb ty
  obtain ⟨F2, hF2⟩ := M2.get
  obtain ⟨A, c, rfl⟩ := aFl_sl hF2
  rw [List.length_append, List.length_singleton] at M2 hr
  exact .builtin2 (w' := w') hx hy hd (fun cs => by rw [BigFrame.builtin_append]; simp only [Sem.run_bind, hr, Result.andThen_ok, Sem.run_pure]) (h A c w' M2)
theorem build_links (A : Option Addr) (n c : Nat) (w : World) : (Instr.build 45 #[(0, .slice A n c)]).run Try.prog w = .ok (.agg #[.slice A n c]) w := by kernel_rfl
theorem elem_fl {v : Value} {fs : List PF} {vs : List Value} {F : Nat → Prop} (hl : vs.length = fs.length) (h : (aFx v fs vs).p w F) {j : Nat} {f : PF} (hf : fs[j]? = some f) : ∃ g c A q, v = .slice (some ⟨g, 0, none⟩) fs.length c ∧ w.rangeAt g (0 + j * 4) (f.cells (.slice A f.bytes.length q)) ∧ ∃ F, Bs w F (.slice A f.bytes.length q) f.bytes := by
  have hlt := (List.getElem?_eq_some_iff.1 hf).1
  obtain ⟨vb, hvb⟩ : ∃ vb, vs[j]? = some vb := ⟨_, List.getElem?_eq_getElem (by omega)⟩
  have hrow := fx_row h
  have hc := fun g => hrow.cells (g := g)
  obtain ⟨F1, hb⟩ := fx_bytes h hvb hf
  obtain ⟨A, q, rfl, -⟩ := hb.open_
  obtain ⟨_, ⟨_, h0⟩ | ⟨g, cap, cur, rfl, _⟩⟩ := hrow
  · omega
  exact ⟨g, cap, A, q, rfl, range_get (At.lit (hc g rfl)) cells_len4 (zip_at hvb hf), _, hb⟩
set_option maxHeartbeats 1000000 in
theorem copied_any (v : Value) (fs : List PF) (w : World) (F : Nat → Prop) (h : (aFl v fs).p w F) (hn : fs.length ≤ 1048576) (hb : ∀ f ∈ fs, f.bytes.length ≤ 1048576) :
    Calls Try.prog 41 #[.agg #[v]] w fun r w' => ∃ v', r = .returned (.agg #[v']) ∧ Fresh w w' (aFl v' fs) := by
  obtain ⟨vs, hl, hx⟩ := afl_fx h
  obtain ⟨A, cp, rfl⟩ := aFl_sl h
  refine enter Try.func41 rfl Try.ntmps41 rfl rfl ?_
  have M := Mem.src hx
  (repeat (first | (refine WR.id ?_; first | refine WR.nil ?_ | refine WR.s ?_ | refine WR.g ?_) | (refine W.id ?_; first | refine W.seq fun _ _ => ?_ | refine W.region ?_ | refine W.s ?_ | refine W.e ?_) | (refine Ends.id ?_; first | refine Ends.seq (by assumption) ?_ | refine Ends.s ?_)))
  refine WR.box rfl (cs := #[.slice A fs.length cp]) rfl rfl fun w1 hb1 hx1 hs1 => ?_
  replace M := (M.newBox (cs := [.slice A fs.length cp]) hb1 hx1).freeze
  refine WR.alloc (by rfl) fun w2 hb2 hx2 hs2 => ?_
  replace M := (M.newBox (cs := [.slice none 0 0]) hb2 hx2)
  generalize w1.heap.size = b2 at M ⊢
  have hB1 := M.zbox 0 rfl
  (repeat (first | (refine WR.id ?_; first | refine WR.nil ?_ | refine WR.s ?_ | refine WR.g ?_) | (refine W.id ?_; first | refine W.seq fun _ _ => ?_ | refine W.region ?_ | refine W.s ?_ | refine W.e ?_) | (refine Ends.id ?_; first | refine Ends.seq (by assumption) ?_ | refine Ends.s ?_)))
  clear hB1
  replace M := M.new (Below.refl _ _) (aFl_nil w2) (fun x h => h.elim)
  refine W.loop (X := Nat × Option Addr × Nat) (fun x => [(2, .pointer (some ⟨b2, 0, none⟩)), (3, .slice x.2.1 x.1 x.2.2), (7, .slice A fs.length cp), (8, .int .i64 (fs.length : Nat)), (9, .int .i64 (x.1 : Nat))])
    (fun x wr => x.1 ≤ fs.length ∧ Mem wr [aFl (.slice x.2.1 x.1 x.2.2) (fs.take x.1), aBox b2 [.slice none 0 0]] [aBox w.heap.size [.slice A fs.length cp], aFx (.slice A fs.length cp) fs vs, zPre w]) (fun x => fs.length - x.1)
    (0, none, 0) (by repeat (first | exact .nil | refine .cons rfl ?_)) ⟨Nat.zero_le _, M⟩ ?_
  clear M
  rintro ⟨j, Ar, cr⟩ wr ⟨hj, M⟩ K hK
  dsimp only at hj M
  dsimp only
  (repeat (first | (refine WR.id ?_; first | refine WR.nil ?_ | refine WR.s ?_ | refine WR.g ?_) | (refine W.id ?_; first | refine W.seq fun _ _ => ?_ | refine W.region ?_ | refine W.s ?_ | refine W.e ?_) | (refine Ends.id ?_; first | refine Ends.seq (by assumption) ?_ | refine Ends.s ?_)))
  refine W.condP (by rfl) (fun hlt => ?_) (fun hlt => ?_)
  · have hlt' : j < fs.length := by omega
    obtain ⟨f, hf⟩ : ∃ f, fs[j]? = some f := ⟨_, List.getElem?_eq_getElem hlt'⟩
    have hfb := hb f (List.mem_of_getElem? hf)
    obtain ⟨Fz, hz⟩ := M.z 1 rfl
    obtain ⟨g, c, Ab, q, hA, hr, Fb, hbs⟩ := elem_fl hl hz hf
    cases hA
    (repeat (first | (refine WR.id ?_; first | refine WR.nil ?_ | refine WR.s ?_ | refine WR.g ?_) | (refine W.id ?_; first | refine W.seq fun _ _ => ?_ | refine W.region ?_ | refine W.s ?_ | refine W.e ?_) | (refine Ends.id ?_; first | refine Ends.seq (by assumption) ?_ | refine Ends.s ?_)))
    refine WR.indexAddr (j := j) (by rfl) (by rfl) (by rfl) hlt' ?_
    refine WR.loadRow (by rfl) hr (by rfl) (by rfl) ?_
    refine WR.allocStore (c := (f.cells (.slice Ab f.bytes.length q)).toArray) (by rfl) (by rfl) rfl (by rfl) (by rfl) (all_oneCell_toArray (PF.one _ _ rfl)) (by rfl) fun w3 hb3 hx3 hs3 => ?_
    replace M := M.newBox (cs := f.cells (.slice Ab f.bytes.length q)) hb3 hx3
    generalize wr.heap.size = b5 at M ⊢
    (repeat (first | (refine WR.id ?_; first | refine WR.nil ?_ | refine WR.s ?_ | refine WR.g ?_) | (refine W.id ?_; first | refine W.seq fun _ _ => ?_ | refine W.region ?_ | refine W.s ?_ | refine W.e ?_) | (refine Ends.id ?_; first | refine Ends.seq (by assumption) ?_ | refine Ends.s ?_)))
    refine WR.row0 Try.elB (by rfl) fun w4 hb4 ho4 hs4 => ?_
    have M4 := M.below hb4
    have hB5 := M4.box
    have hbs4 := Sl.below (Sl.below hbs (by decide) hb3) (by decide) hb4
    (repeat (first | (refine WR.id ?_; first | refine WR.nil ?_ | refine WR.s ?_ | refine WR.g ?_) | (refine W.id ?_; first | refine W.seq fun _ _ => ?_ | refine W.region ?_ | refine W.s ?_ | refine W.e ?_) | (refine Ends.id ?_; first | refine Ends.seq (by assumption) ?_ | refine Ends.s ?_)))
    refine WR.app0 Try.elB (by rfl) (by rfl) (by rfl) ho4 hbs4 (one_bvs _) (by omega) (by decide) hb4.size fun v5 w5 ho5 hb5 => ?_
    obtain ⟨-, A5, c5, rfl, -⟩ := Sl.of_row ho5
    replace M := (M.add (by_of_row rfl (hb4.trans (hb5.mono hb4.size)) ho5)).swap
    clear M4 hB5 ho5 ho4
    (repeat (first | (refine WR.id ?_; first | refine WR.nil ?_ | refine WR.s ?_ | refine WR.g ?_) | (refine W.id ?_; first | refine W.seq fun _ _ => ?_ | refine W.region ?_ | refine W.s ?_ | refine W.e ?_) | (refine Ends.id ?_; first | refine Ends.seq (by assumption) ?_ | refine Ends.s ?_)))
    refine WR.storeBox M.box (by rfl) (by rfl) rfl rfl (by simp [PF.cells]) fun w6 hu6 hx6 hs6 => ?_
    have hx7 : Box w6 b5 (f.cells (.slice A5 f.bytes.length c5)) := hx6
    replace M := M.setBox hu6 hx7
    clear hx6
    (repeat (first | (refine WR.id ?_; first | refine WR.nil ?_ | refine WR.s ?_ | refine WR.g ?_) | (refine W.id ?_; first | refine W.seq fun _ _ => ?_ | refine W.region ?_ | refine W.s ?_ | refine W.e ?_) | (refine Ends.id ?_; first | refine Ends.seq (by assumption) ?_ | refine Ends.s ?_)))
    refine WR.row1 Try.elF (by decide) (by rfl) (by rfl) (by rfl) fun w7 hb7 hs7 => ?_
    replace M := (M.below hb7).drop.swap
    refine WR.flApp M (by rfl) (by rfl) (by rfl) hs7 rfl (by rw [List.length_take]; omega) fun A8 c8 w8 M => ?_
    rw [show (fs.take j).length = j by rw [List.length_take]; omega] at M ⊢
    (repeat (first | (refine WR.id ?_; first | refine WR.nil ?_ | refine WR.s ?_ | refine WR.g ?_) | (refine W.id ?_; first | refine W.seq fun _ _ => ?_ | refine W.region ?_ | refine W.s ?_ | refine W.e ?_) | (refine Ends.id ?_; first | refine Ends.seq (by assumption) ?_ | refine Ends.s ?_)))
    refine Ends.round hK (j + 1, A8, c8) (by repeat (first | exact .nil | refine .cons rfl ?_)) ⟨by dsimp only; omega, ?_⟩ (by dsimp only; omega)
    rw [show fs.take (j + 1) = fs.take j ++ [f] by rw [List.take_add_one, hf]; rfl]
    exact M
  · obtain rfl : j = fs.length := by omega
    rw [List.take_length] at M
    (repeat (first | (refine WR.id ?_; first | refine WR.nil ?_ | refine WR.s ?_ | refine WR.g ?_) | (refine W.id ?_; first | refine W.seq fun _ _ => ?_ | refine W.region ?_ | refine W.s ?_ | refine W.e ?_) | (refine Ends.id ?_; first | refine Ends.seq (by assumption) ?_ | refine Ends.s ?_)))
    refine WR.buildRun (vs := #[(0, .slice Ar fs.length cr)]) (fun a ha => by rw [List.map_toArray]; simp only [List.map_cons, List.map_nil, ha.ev (x := .tmp 23) rfl]) rfl (build_links _ _ _ _) ?_
    refine WR.storeAgg (cs' := [.slice Ar fs.length cr]) M.swap.box (by rfl) (by rfl) (by rfl) (by rfl) (by intro u hu; obtain rfl := List.mem_singleton.1 hu; rfl) fun w3 hu3 hx3 hs3 => ?_
    replace M := M.swap.setBox hu3 hx3
    (repeat (first | (refine WR.id ?_; first | refine WR.nil ?_ | refine WR.s ?_ | refine WR.g ?_) | (refine W.id ?_; first | refine W.seq fun _ _ => ?_ | refine W.region ?_ | refine W.s ?_ | refine W.e ?_) | (refine Ends.id ?_; first | refine Ends.seq (by assumption) ?_ | refine Ends.s ?_)))
    exact Ends.retC rfl (by rfl) (hx3.load (by rfl)) ⟨_, rfl, M.drop.fresh 2 rfl⟩

end Go.Proofs.Ytibmcpbkialbnaa
