/- A range over a function: into a function that holds one and out of it; an iterator's own body; yield. No condition. -/
import Derived.Test.YtibmcpbkialbnaaIt
namespace Go.Proofs.Ytibmcpbkialbnaa.E
open Go Go.RowKit K
set_option linter.unusedVariables false
set_option linter.unusedSimpArgs false

section
variable {P : Program} {n : Nat} {D : List Deferred} {L : Slots} {w : World} {Os Zs : List Ass}
theorem fr_enter {args : Array Value} {m : Nat} (hn : m = n) (ha : Nat.ble args.size n = true) (hL : numb 0 args.toList = L) : Fr n [] L ⟨args ++ Array.replicate (m - args.size) undef, []⟩ := by
  refine ⟨?_, rfl, ?_⟩
  · have := Nat.le_of_ble_eq_true ha
    simp [hn]; omega
  · intro t v ht
    rw [← hL] at ht
    obtain ⟨_, h2⟩ := look_numb _ _ _ _ ht
    rw [Nat.sub_zero] at h2
    have h3 : t < args.size := by have := (List.getElem?_eq_some_iff.1 h2).1; simpa using this
    show (args ++ Array.replicate _ undef)[t]? = some v
    rw [Array.getElem?_append_left h3]
    simpa using h2
theorem enterM {f : FuncId} {fn : Func} {c : Code} {args : Array Value} {R : Ending → World → Prop} (hf : P.funcs[f]? = some fn) (hb : fn.body = some c) (hn : fn.ntmps = n) (ha : Nat.ble args.size n = true) (hL : numb 0 args.toList = L)
    (h : W P n [] c L w (bodyPostM Fence.wide 9 P fn R)) : Calls P f args w R :=
  (callsIn_wide (n := 9)).1 (callsIn_of_wp_marks hf hb trivial (wpIn_wide.2 (h.go _ (fr_enter hn ha hL))))
theorem enterI {f : FuncId} {fn : Func} {c : Code} {args : Array Value} {R : Ending → World → Prop} (hf : P.funcs[f]? = some fn) (hb : fn.body = some c) (hn : fn.ntmps = n) (ha : Nat.ble args.size n = true) (hL : numb 0 args.toList = L)
    (h : WI none 8 P n [] c L w (bodyPost P fn R)) : CallsIn Fence.wide 8 P f args w R :=
  callsIn_of_wp hf hb trivial (h.go _ (fr_enter hn ha hL))
def aMarks (ms : List Nat) : List Ass := ms.map fun d => aObj d (.deferred (some []))
theorem leaves_marks {fn : Func} {tmps : Array Value} {R : Ending → World → Prop} : ∀ (ms : List Nat) {w : World}, Mem w (aMarks ms ++ Os) Zs → (∀ w', Mem w' Os Zs → ∃ v, (results fn tmps).run P w' = .ok v w' ∧ R (.returned v) w') →
    LeavesInM Fence.wide 9 P fn tmps R (ms.map mark) .returning w
  | [], w, M, h => h w M
  | d :: ms, w, M, h => ⟨by simp, .inl ⟨d, _, rfl, run_takeDeferred M.obj, leaves_marks ms M.setObj.drop h⟩⟩
theorem Ends.marks {e : Exit} (he : e = .ret ∨ e = .normal) {fn : Func} {R : Ending → World → Prop} (ms : List Nat) (M : Mem w (aMarks ms ++ Os) Zs) (h : ∀ w' a, Mem w' Os Zs → Fr n (ms.map mark) L a → ∃ v, (results fn a.tmps).run P w' = .ok v w' ∧ R (.returned v) w') : Ends n (ms.map mark) e L w (bodyPostM Fence.wide 9 P fn R) :=
  ⟨fun a ha => by
    have := leaves_marks (P := P) (fn := fn) (tmps := a.tmps) (R := R) ms M fun w' M' => h w' a M' ha
    rcases he with rfl | rfl
    · show LeavesInM _ _ _ _ _ _ a.defers _ _
      rw [ha.defers]; exact this
    · show LeavesInM _ _ _ _ _ _ a.defers _ _
      rw [ha.defers]; exact this⟩
theorem Ends.marks1 {fn : Func} {R : Ending → World → Prop} {t : Nat} {v : Value} (ms : List Nat) (M : Mem w (aMarks ms ++ Os) Zs) (hf : fn.results = #[.tmp t]) (hv : look L t = some v) (h : ∀ w', Mem w' Os Zs → R (.returned v) w') : Ends n (ms.map mark) .ret L w (bodyPostM Fence.wide 9 P fn R) :=
  Ends.marks (.inl rfl) ms M fun w' a M' ha => ⟨v, by rw [results_tmp hf, ha.getD hv], h w' M'⟩
theorem Ends.marks2 {fn : Func} {R : Ending → World → Prop} {t u : Nat} {v x : Value} (ms : List Nat) (M : Mem w (aMarks ms ++ Os) Zs) (hf : fn.results = #[.tmp t, .tmp u]) (hv : look L t = some v) (hx : look L u = some x) (h : ∀ w', Mem w' Os Zs → R (.returned (.tuple #[v, x])) w') : Ends n (ms.map mark) .ret L w (bodyPostM Fence.wide 9 P fn R) :=
  Ends.marks (.inl rfl) ms M fun w' a M' ha => ⟨_, by rw [results_tmp2 hf, ha.getD hv, ha.getD hx], h w' M'⟩
theorem WRI.yield {Q : Exit → Act → World → Prop} {ops : Array Oper} {rest : List Oper} {d : Nat} {ty : TypeId} {pos : String} {after : Array Edge} {x : Operand} {xs : Array Operand} {ats : Array TypeId} {l : Nat} {vs : Array Value} {R : Ending → World → Prop}
    (hx : evo L x = some (.func (.yield l) #[] #[])) (hxs : xs.toList.map (evo L) = vs.toList.map some) (hd : Nat.blt d n = true) (hY : YieldAt Fence.wide 7 P l vs w R)
    (h : ∀ e w', R e w' → ∃ v, e = .returned v ∧ WRI none 8 P n D ops rest ((d, v) :: L) w' Q) : WRI none 8 P n D ops (⟨some d, .call { callee := .value x, args := xs, argTypes := ats }, ty, pos, after, none⟩ :: rest) L w Q :=
  ⟨fun a ha => wpListIn_plain rfl fun K hK => ⟨fun _ _ => trivial, by
    obtain ⟨fn, tmps, assign, body, hy, hR⟩ := hY
    rw [Oper.semAt_eq _ _ _ (fun c h => by cases h)]
    have hr : (execOp a.eval ⟨some d, .call { callee := .value x, args := xs, argTypes := ats }, ty, pos, after, none⟩).run P w = .ok (.round l fn tmps assign body) w := by
      rw [← hy]
      have h1 := ha.ev hx
      have h2 := evs ha hxs
      generalize a.eval = ev at h1 h2 ⊢
      unfold execOp
      simp [resolve, h1, h2, invoke, go_sem]
    rw [hr]
    refine ⟨fw_depth, hR.mono fun e w' he => ?_⟩
    obtain ⟨v, rfl, hk⟩ := h e w' he
    exact hK _ _ (hk.go _ (ha.put hd v))⟩⟩
end

end Go.Proofs.Ytibmcpbkialbnaa.E
