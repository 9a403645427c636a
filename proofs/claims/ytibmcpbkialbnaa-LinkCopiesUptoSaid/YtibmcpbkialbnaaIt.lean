/- A range over a function, by what lies in memory: the iterator's contract, the loop, what is left of it on the way out. No condition. -/
import Derived.Test.YtibmcpbkialbnaaEi
namespace Go.Proofs.Ytibmcpbkialbnaa.E
open Go Go.RowKit K
set_option linter.unusedVariables false
set_option linter.unusedSimpArgs false

/-- One object. -/
def aObj (b : Nat) (o : Obj) : Ass := ⟨fun w F => (∀ x, F x ↔ x = b) ∧ w.heap[b]? = some o, fun {w F} h x hx => by rw [(h.1 x).1 hx]; exact (Array.getElem?_eq_some_iff.1 h.2).1, fun {w w' F} h hs => ⟨h.1, (hs.block b ((h.1 b).2 rfl)).trans h.2⟩⟩
theorem Mem.obj {w : World} {b : Nat} {o : Obj} {Os Zs : List Ass} (M : Mem w (aObj b o :: Os) Zs) : w.heap[b]? = some o := by obtain ⟨_, h⟩ := M.get; exact h.2
theorem upd_putObj (w : World) (b : Nat) (o : Obj) : Upd (fun x => x = b) w (w.putObj b o) := (Upd.of_grown (grownBy_putObj' w b o)).mono fun x _ hx => by cases hx; rfl
theorem Mem.setObj {w : World} {b : Nat} {o o' : Obj} {Os Zs : List Ass} (M : Mem w (aObj b o :: Os) Zs) : Mem (w.putObj b o') (aObj b o' :: Os) Zs := by
  have hb := (Array.getElem?_eq_some_iff.1 M.obj).1
  obtain ⟨F, hF, hM⟩ := M.take
  exact hM ((upd_putObj w b o').mono fun x _ hx => (hF.1 x).2 hx) (F' := F) ⟨hF.1, World.putObj_heap_same hb⟩ fun x hx => .inl hx

/-- What a range over a function may rely on: the iterator hands over what stands in src, one by one, and with each what is fresh with it. -/
def Iter {α : Type} (P : Program) (gf : FuncId) (lb : Array Value) (encs : α → Array Value) (aX : α → Ass) (src : Ass) (S G : List α → Prop) (N : Nat) : Prop :=
  ∀ (l : Nat) (J Jx : List α → World → Prop) (W : World), (∀ pre W, J pre W → ∃ F, src.p W F) →
    (∀ pre x W0 W1, J pre W0 → Fresh W0 W1 (aX x) → G (pre ++ [x]) → pre.length < N → YieldAt Fence.wide 7 P l (encs x) W1 fun e W' => (e = .returned (.bool true) ∧ J (pre ++ [x]) W') ∨ (e = .returned (.bool false) ∧ Jx (pre ++ [x]) W')) →
    J [] W → CallsIn Fence.wide 8 P gf (#[.func (.yield l) #[] #[]] ++ lb) W fun e W' => (∃ v, e = .returned v) ∧
      ((∃ xs W0, S xs ∧ J xs W0 ∧ Below W0.heap.size W0 W') ∨ (∃ pre W0, G pre ∧ Jx pre W0 ∧ Below W0.heap.size W0 W'))

def zips : List Tmp → List Value → Slots → Slots
  | p :: ps, v :: vs, L => zips ps vs ((p, v) :: L)
  | _, _, L => L
theorem fr_zips {n : Nat} {D : List Deferred} : ∀ (ps : List Tmp) (vs : List Value) {L : Slots} {t : Array Value}, ps.all (fun p => Nat.blt p n) = true → Fr n D L ⟨t, D⟩ → Fr n D (zips ps vs L) ⟨(ps.zip vs).foldl (fun t (p, v) => t.setIfInBounds p v) t, D⟩
  | [], _, L, t, _, h => by simpa [zips] using h
  | p :: ps, [], L, t, _, h => by simpa [zips] using h
  | p :: ps, v :: vs, L, t, hp, h => by
    rw [List.all_cons, Bool.and_eq_true] at hp
    have := h.put (d := p) hp.1 v
    simpa [zips] using fr_zips ps vs hp.2 (t := t.setIfInBounds p v) this

section
variable {α γ γ' : Type}
/-- How a round is left. -/
def rfPost (Os : List α → γ → List Ass) (Φ : List α → γ → Prop) (Ox : List α → γ' → List Ass) (Φx : Code → List α → γ' → Prop) (Zs : List Ass) (X : Ass) (xs : List α) : Exit → Act → World → Prop
  | .normal, _, W => ∃ c, Φ xs c ∧ Mem W (X :: Os xs c) Zs
  | .ret, _, W => ∃ c, Φx .ret xs c ∧ Mem W (X :: Ox xs c) Zs
  | .exit i, _, W => ∃ c, Φx (.exit i) xs c ∧ Mem W (X :: Ox xs c) Zs
  | .goto i, _, W => ∃ c, Φx (.goto i) xs c ∧ Mem W (X :: Ox xs c) Zs
  | .panic _, _, _ => False
  | .outgrown, _, _ => False
variable {Os : List α → γ → List Ass} {Φ : List α → γ → Prop} {Ox : List α → γ' → List Ass} {Φx : Code → List α → γ' → Prop} {Zs : List Ass} {X : Ass} {xs : List α} {n : Nat} {D : List Deferred} {L : Slots} {w : World}
theorem Ends.goesOn (c : γ) (h : Φ xs c) (M : Mem w (X :: Os xs c) Zs) : Ends n D .normal L w (rfPost Os Φ Ox Φx Zs X xs) := ⟨fun a ha => ⟨c, h, M⟩⟩
theorem Ends.stopsRet (c : γ') (h : Φx .ret xs c) (M : Mem w (X :: Ox xs c) Zs) : Ends n D .ret L w (rfPost Os Φ Ox Φx Zs X xs) := ⟨fun a ha => ⟨c, h, M⟩⟩
theorem Ends.stopsExit {i : Nat} (c : γ') (h : Φx (.exit i) xs c) (M : Mem w (X :: Ox xs c) Zs) : Ends n D (.exit i) L w (rfPost Os Φ Ox Φx Zs X xs) := ⟨fun a ha => ⟨c, h, M⟩⟩

def mark (d : Nat) : Deferred := { target := .collected d, args := #[] }
theorem W.rangeFunc {δ : Type} {P : Program} {Q : Exit → Act → World → Prop} {g : Operand} {ps : Array Tmp} {assign body : Code} {gf : FuncId} {lb : Array Value} [En : Ent P gf] {encs : α → Array Value} {aX : α → Ass} {src : Ass} {S G : List α → Prop} {N : Nat}
    (hg : evo L g = some (.func (.func gf) #[] lb)) (hit : Iter P gf lb encs aX src S G N) (hps : ∀ x, (encs x).size = ps.size) (hpn : ps.toList.all (fun p => Nat.blt p n) = true)
    (Os : List α → γ → List Ass) (Φ : List α → γ → Prop) (Ox : List α → γ' → List Ass) (Φx : Code → List α → γ' → Prop) (hsrc : ∀ {W pre c X}, Mem W (X :: Os pre c) Zs → ∃ F, src.p W F)
    (c0 : γ) (h0 : Φ [] c0) (M : Mem w (Os [] c0) Zs) (LB : List α → α → γ → δ → Slots) (Oa : List α → α → γ → δ → List Ass)
    (hassign : ∀ l pre x c W X (K : Act → World → Prop), Φ pre c → G (pre ++ [x]) → pre.length < N → Mem W (X :: aX x :: Os pre c) Zs → (∀ y L' W', Keeps L' (LB pre x c y) → Mem W' (X :: Oa pre x c y) Zs → ∀ a, Fr n [] L' a → K a W') → WI (some l) 7 P n [] assign (zips ps.toList (encs x).toList L) W (Exit.then K (fun _ _ _ => False)))
    (hbody : ∀ l pre x c y W X, Φ pre c → G (pre ++ [x]) → pre.length < N → Mem W (X :: Oa pre x c y) Zs → WI (some l) 7 P n [] body (LB pre x c y) W (rfPost Os Φ Ox Φx Zs X (pre ++ [x])))
    (hdone : ∀ xs c W d, S xs → Φ xs c → Mem W (aObj d (.deferred (some [])) :: Os xs c) Zs → Ends n (mark d :: D) .normal L W Q)
    (hstop : ∀ code pre c W d, G pre → Φx code pre c → Mem W (aObj d (.deferred (some [])) :: Ox pre c) Zs → _root_.Go.Proofs.Ytibmcpbkialbnaa.E.W P n (mark d :: D) code L W Q) : _root_.Go.Proofs.Ytibmcpbkialbnaa.E.W P n D (.rangeFunc g ps assign body) L w Q := by
  refine ⟨fun a ha => (wpIn_wide (n := 9)).1 (wpIn_rangeFunc ?_)⟩
  intro fn hfn
  obtain ⟨rec, hrec⟩ : ∃ rec : LoopState → Option Code → Loop, rec = fun st pe => { state := st, pending := pe, fn, tmps := a.tmps, params := ps, assign, body, defers := w.heap.size } := ⟨_, rfl⟩
  obtain ⟨W1, hW1⟩ : ∃ W1, (w.alloc (.deferred (some []))).alloc (.loop (rec .ready none)) = W1 := ⟨_, rfl⟩
  have X0 : Mem W1 (aObj (w.heap.size + 1) (.loop (rec .ready none)) :: aObj w.heap.size (.deferred (some [])) :: Os [] c0) Zs := by
    have M1 : Mem (w.alloc (.deferred (some []))) (aObj w.heap.size (.deferred (some [])) :: Os [] c0) Zs := M.new (below_al (Below.refl _ _) _) (F := fun x => x = w.heap.size) ⟨fun _ => Iff.rfl, World.alloc_heap_new w _⟩ (fun x hx => by omega)
    rw [← hW1]
    refine M1.new (below_al (Below.refl _ _) _) (F := fun x => x = w.heap.size + 1) ⟨fun _ => Iff.rfl, ?_⟩ (fun x hx => by rw [World.size_alloc]; omega)
    have := World.alloc_heap_new (w.alloc (.deferred (some []))) (.loop (rec .ready none)); rwa [World.size_alloc] at this
  let J : List α → World → Prop := fun pre W => ∃ c, Φ pre c ∧ Mem W (aSep (aObj (w.heap.size + 1) (.loop (rec .ready none))) (aObj w.heap.size (.deferred (some []))) :: Os pre c) Zs
  let Jx : List α → World → Prop := fun pre W => ∃ code c, Φx code pre c ∧ Mem W (aSep (aObj (w.heap.size + 1) (.loop (rec .done (some code)))) (aObj w.heap.size (.deferred (some []))) :: Ox pre c) Zs
  refine ⟨w.heap.size + 1, [mark w.heap.size], W1, { target := .fn (.func gf) lb, args := #[.func (.yield (w.heap.size + 1)) #[] #[]] }, W1, gf,
    #[.func (.yield (w.heap.size + 1)) #[] #[]] ++ lb, W1, ?_, ?_, ?_, ?_, (fun h => by cases h), ?_⟩
  · rw [← hW1, hrec]; exact run_enterLoop_outer _ _ _ _ _
  · simp only [resolve, ha.ev hg]
    simp [go_sem]
  · intro f' hf'; exact trivial
  · simp [invoke, go_sem, En.h]
  · refine (hit (w.heap.size + 1) J Jx W1 (fun pre W ⟨c, h, M⟩ => hsrc M) ?_ ⟨c0, h0, X0.join⟩).mono ?_
    · rintro pre x W0 W ⟨c, hΦ, MJ⟩ hfr hG hlen
      have MJ2 := (MJ.add hfr).swap
      have hl := MJ2.split.obj
      have hy := run_yield (P := P) (args := encs x) hl (by rw [hrec]; exact hps x)
      rw [hrec] at hy
      refine ⟨fn, _, assign, body, hy, roundIn_of_wpIn hfn ?_⟩
      have has := hassign (w.heap.size + 1) pre x c W _ (fun a₁ w₁ => ∃ w₂, (Instr.beginRound (w.heap.size + 1)).run P w₁ = .ok () w₂ ∧ body.wpIn (Fence.wide.inRound (w.heap.size + 1)) 7 P (roundPost P (w.heap.size + 1) fun e W' => (e = .returned (.bool true) ∧ J (pre ++ [x]) W') ∨ (e = .returned (.bool false) ∧ Jx (pre ++ [x]) W')) a₁ w₂) hΦ hG hlen MJ2 ?_
      · refine has.go _ ?_
        have := fr_zips ps.toList (encs x).toList (n := n) (D := []) hpn (L := L) (t := a.tmps) ⟨ha.size, rfl, ha.vals⟩
        have e : (Array.foldl (fun t (p, v) => t.setIfInBounds p v) a.tmps (ps.zip (encs x))) = ((ps.toList.zip (encs x).toList).foldl (fun t (p, v) => t.setIfInBounds p v) a.tmps) := by
          rw [← Array.toList_zip, Array.foldl_toList]
        rw [← e] at this
        exact this
      · clear hy
        intro y L' Wa hk Ma a' ha'
        have hl := Ma.split.obj
        refine ⟨_, run_beginRound hl (by rw [hrec]), ?_⟩
        have Mb := (Ma.split.setObj (o' := .loop { rec .ready none with state := .busy })).join
        refine wpIn_mono ((hbody (w.heap.size + 1) pre x c y _ _ hΦ hG hlen Mb).go a' (ha'.keep hk)) ?_
        have fin : ∀ (jump : Option Code) (Os' : List Ass) (W3 : World), Mem W3 (aSep (aObj (w.heap.size + 1) (.loop { rec .ready none with state := .busy })) (aObj w.heap.size (.deferred (some []))) :: Os') Zs →
            (Instr.endRound (w.heap.size + 1) jump).run P W3 = .ok (.bool jump.isNone) (W3.putObj (w.heap.size + 1) (.loop (rec (if jump.isNone then .ready else .done) jump))) ∧
            Mem (W3.putObj (w.heap.size + 1) (.loop (rec (if jump.isNone then .ready else .done) jump))) (aSep (aObj (w.heap.size + 1) (.loop (rec (if jump.isNone then .ready else .done) jump))) (aObj w.heap.size (.deferred (some []))) :: Os') Zs := fun jump Os' W3 M3 => by
          have hl3 := M3.split.obj
          have := run_endRound (P := P) jump hl3
          rw [hrec] at this
          exact ⟨by rw [hrec]; exact this, M3.split.setObj.join⟩
        rintro e a3 W3 hp
        cases e with
        | normal =>
          obtain ⟨c', hΦ', M3⟩ := hp
          obtain ⟨hr, M4⟩ := fin none _ W3 M3
          exact ⟨_, _, hr, .inl ⟨rfl, c', hΦ', M4⟩⟩
        | ret =>
          obtain ⟨c', hΦ', M3⟩ := hp
          obtain ⟨hr, M4⟩ := fin (some .ret) _ W3 M3
          exact ⟨_, _, hr, .inr ⟨rfl, .ret, c', hΦ', M4⟩⟩
        | exit id =>
          obtain ⟨c', hΦ', M3⟩ := hp
          obtain ⟨hr, M4⟩ := fin (some (.exit id)) _ W3 M3
          exact ⟨_, _, hr, .inr ⟨rfl, .exit id, c', hΦ', M4⟩⟩
        | goto t =>
          obtain ⟨c', hΦ', M3⟩ := hp
          obtain ⟨hr, M4⟩ := fin (some (.goto t)) _ W3 M3
          exact ⟨_, _, hr, .inr ⟨rfl, .goto t, c', hΦ', M4⟩⟩
        | panic ch => exact hp.elim
        | outgrown => exact hp.elim
    · rintro e W2 ⟨⟨v, rfl⟩, (⟨xs, W0, hS, ⟨c, hΦ, MJ⟩, hb⟩ | ⟨pre, W0, hG, ⟨code, c, hΦ, MJ⟩, hb⟩)⟩
      · have M2 := (MJ.below hb).split
        refine ⟨none, _, by have := run_endLoop (P := P) M2.obj (by rw [hrec]; simp); rw [hrec] at this; exact this, ?_⟩
        exact (hdone xs c _ w.heap.size hS hΦ M2.setObj.drop).go _ ⟨ha.size, by simp [ha.defers], ha.vals⟩
      · have M2 := (MJ.below hb).split
        refine ⟨some code, _, by have := run_endLoop (P := P) M2.obj (by rw [hrec]; simp); rw [hrec] at this; exact this, ?_⟩
        exact (wpIn_wide (n := 9)).2 ((hstop code pre c _ w.heap.size hG hΦ M2.setObj.drop).go _ ⟨ha.size, by simp [ha.defers], ha.vals⟩)
end

end Go.Proofs.Ytibmcpbkialbnaa.E
