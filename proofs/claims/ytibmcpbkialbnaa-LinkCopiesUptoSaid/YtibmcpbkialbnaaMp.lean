/- Maps in memory, by their entries, with the frame out of sight. No condition. -/
import Derived.Test.YtibmcpbkialbnaaEr
import Derived.Maps.Keyed
import Derived.Maps.RangeRun
namespace Go.Proofs.Ytibmcpbkialbnaa.E
open Go Go.RowKit K
open Go.Maps (Keyed)
open Go.MapKept (Stamped)
open Go.ChangeMaps (setBlock)
set_option linter.unusedVariables false
set_option linter.unusedSimpArgs false

structure IsMap (P : Program) (k : TypeId) (w : World) (g : Nat) (es : List MapEntry) (c : Nat) : Prop where
  at_ : w.heap[g]? = some (.map es.toArray c)
  st : Stamped es.toArray c
  keys : ∀ e ∈ es, ∃ x, keyOf P k e.key = some x
def aMap (P : Program) (k : TypeId) (g : Nat) (es : List MapEntry) (c : Nat) : Ass := ⟨fun w F => (∀ x, F x ↔ x = g) ∧ IsMap P k w g es c, fun {w F} h x hx => by rw [(h.1 x).1 hx]; exact (Array.getElem?_eq_some_iff.1 h.2.at_).1,
  fun {w w' F} h hs => ⟨h.1, (hs.block g ((h.1 g).2 rfl)).trans h.2.at_, h.2.st, h.2.keys⟩⟩
theorem Mem.map {P : Program} {k : TypeId} {w : World} {g : Nat} {es : List MapEntry} {c : Nat} {Os Zs : List Ass} (M : Mem w (aMap P k g es c :: Os) Zs) : IsMap P k w g es c := by obtain ⟨_, h⟩ := M.get; exact h.2
theorem Mem.setMap {P : Program} {k : TypeId} {w w' : World} {g : Nat} {es es' : List MapEntry} {c c' : Nat} {Os Zs : List Ass} (M : Mem w (aMap P k g es c :: Os) Zs) (hu : Upd (· = g) w w') (h : IsMap P k w' g es' c') : Mem w' (aMap P k g es' c' :: Os) Zs := by
  obtain ⟨F, hF, hM⟩ := M.take
  exact hM (hu.mono fun b _ hb => (hF.1 b).2 hb) (F' := F) ⟨hF.1, h⟩ fun b hb => .inl hb

theorem upd_setBlock (w : World) (g : Nat) (o : Obj) : Upd (· = g) w (setBlock w g o) := ⟨rfl, rfl, rfl, by simp [setBlock], fun b hb hn => by
  show (w.heap.setIfInBounds g o)[b]? = _
  rw [Array.getElem?_setIfInBounds_ne (fun e => hn e.symm)]⟩
theorem setBlock_at {w : World} {g : Nat} {o o' : Obj} (h : w.heap[g]? = some o) : (setBlock w g o').heap[g]? = some o' := by
  have := (Array.getElem?_eq_some_iff.1 h).1
  show (w.heap.setIfInBounds g o')[g]? = _
  simp [this]

section
variable {P : Program} {k : TypeId} {w : World} {g c : Nat} {es l1 l2 : List MapEntry} {e : MapEntry} {key val : Value} {kl : Lit} {t el : TypeId} {z : Value}

theorem IsMap.apart (h : IsMap P k w g (l1 ++ e :: l2) c) : (∀ x ∈ l1, x.key ≠ e.key) ∧ ∀ x ∈ l2, x.key ≠ e.key := by
  have := ((MapKept.stamped_iff _ _).1 h.st).2.2
  rw [List.pairwise_append, List.pairwise_cons] at this
  exact ⟨fun x hx => this.2.2 x hx e (List.mem_cons_self ..), fun x hx => (this.2.1.1 x hx).symm⟩
theorem IsMap.find0 (K : Keyed P k) (h : IsMap P k w g es c) (hk : keyOf P k key = some kl) (hn : ∀ x ∈ es, x.key ≠ key) : (Instr.findKey k key es).run P w = .ok none w := by
  rcases K.find w hk es h.keys with ⟨h1, h2⟩ | ⟨j, e, h1, h2, h3⟩
  · exact h1
  · exact absurd h3 (hn e (List.mem_of_getElem? h2))
theorem IsMap.find1 (K : Keyed P k) (h : IsMap P k w g (l1 ++ e :: l2) c) (hk : keyOf P k key = some kl) (he : e.key = key) : (Instr.findKey k key (l1 ++ e :: l2)).run P w = .ok (some (l1.length, e.val)) w := by
  subst he
  obtain ⟨a1, a2⟩ := h.apart
  rcases K.find w hk _ h.keys with ⟨h1, h2⟩ | ⟨j, x, h1, h2, h3⟩
  · exact absurd rfl (h2 e (by simp))
  · have hj : j = l1.length := by
      rcases Nat.lt_trichotomy j l1.length with hlt | heq | hgt
      · rw [List.getElem?_append_left hlt] at h2
        exact absurd h3 (a1 x (List.mem_of_getElem? h2))
      · exact heq
      · rw [List.getElem?_append_right (by omega)] at h2
        obtain ⟨m, hm⟩ : ∃ m, j - l1.length = m + 1 := ⟨j - l1.length - 1, by omega⟩
        rw [hm, List.getElem?_cons_succ] at h2
        exact absurd h3 (a2 x (List.mem_of_getElem? h2))
    subst hj
    have : x = e := by simpa using h2.symm
    subst this
    exact h1
/-- Either no entry bears the key, or one does. -/
theorem mcases (es : List MapEntry) (key : Value) : (∀ x ∈ es, x.key ≠ key) ∨ ∃ l1 e l2, es = l1 ++ e :: l2 ∧ e.key = key := by
  by_cases h : ∃ e ∈ es, e.key = key
  · obtain ⟨e, he, hk⟩ := h
    obtain ⟨l1, l2, rfl⟩ := List.append_of_mem he
    exact .inr ⟨l1, e, l2, rfl, hk⟩
  · exact .inl fun x hx hk => h ⟨x, hx, hk⟩

theorem run_lookup0 (K : Keyed P k) (ht : P.underlying t = some (.map k el)) (hz : (zeroValue el).run P w = .ok z w) (h : IsMap P k w g es c) (hk : keyOf P k key = some kl) (hn : ∀ x ∈ es, x.key ≠ key) : (Instr.lookup t (.map (some g)) key false).run P w = .ok z w := by
  simp [Instr.lookup, run_underlying ht, MapKept.run_getObj_map h.at_, K.check w _ hk, h.find0 K hk hn, hz, Result.andThen]
theorem run_lookup1 (K : Keyed P k) (ht : P.underlying t = some (.map k el)) (h : IsMap P k w g (l1 ++ e :: l2) c) (hk : keyOf P k key = some kl) (he : e.key = key) : (Instr.lookup t (.map (some g)) key false).run P w = .ok e.val w := by
  have := h.find1 K hk he
  simp [Instr.lookup, run_underlying ht, MapKept.run_getObj_map h.at_, K.check w _ hk, this, Result.andThen]

theorem isMap_push (h : IsMap P k w g es c) (hk : keyOf P k key = some kl) (hn : ∀ x ∈ es, x.key ≠ key) (val : Value) : IsMap P k (setBlock w g (.map (es.toArray.push ⟨key, val, c⟩) (c + 1))) g (es ++ [⟨key, val, c⟩]) (c + 1) := by
  refine ⟨?_, ?_, fun x hx => ?_⟩
  · rw [setBlock_at h.at_]; simp
  · have := MapKept.stamped_push h.st (key := key) (val := val) (by simpa using hn)
    simpa using this
  · rcases List.mem_append.1 hx with hx | hx
    · exact h.keys x hx
    · obtain rfl := List.mem_singleton.1 hx; exact ⟨kl, hk⟩
theorem modify_mid (f : MapEntry → MapEntry) : (l1 ++ e :: l2).toArray.modify l1.length f = (l1 ++ f e :: l2).toArray := by
  apply Array.ext'
  rw [Array.toList_modify]
  simp only [List.toList_toArray]
  induction l1 with
  | nil => rfl
  | cons x l ih => simpa using ih
theorem modify_midL (f : MapEntry → MapEntry) : (l1 ++ e :: l2).modify l1.length f = l1 ++ f e :: l2 := by
  have := congrArg Array.toList (modify_mid (l1 := l1) (l2 := l2) (e := e) f)
  simpa using this
theorem isMap_set (h : IsMap P k w g (l1 ++ e :: l2) c) (val : Value) : IsMap P k (setBlock w g (.map (l1 ++ { e with val := val } :: l2).toArray c)) g (l1 ++ { e with val := val } :: l2) c := by
  refine ⟨setBlock_at h.at_, ?_, fun x hx => ?_⟩
  · have := MapKept.stamped_modify h.st l1.length (fun e => { e with val := val }) (fun _ _ => rfl) (fun _ _ _ => rfl)
    rwa [modify_mid] at this
  · rcases List.mem_append.1 hx with hx | hx
    · exact h.keys x (List.mem_append_left _ hx)
    · rcases List.mem_cons.1 hx with rfl | hx
      · exact h.keys e (by simp)
      · exact h.keys x (by simp [hx])

theorem run_update0 (K : Keyed P k) (ht : P.underlying t = some (.map k el)) (h : IsMap P k w g es c) (hk : keyOf P k key = some kl) (hn : ∀ x ∈ es, x.key ≠ key) (val : Value) :
    ∃ w', (Instr.mapUpdate t (.map (some g)) key val).run P w = .ok () w' ∧ IsMap P k w' g (es ++ [⟨key, val, c⟩]) (c + 1) ∧ Upd (· = g) w w' := by
  refine ⟨_, ?_, isMap_push h hk hn val, upd_setBlock _ _ _⟩
  simp [Instr.mapUpdate, run_underlying ht, MapKept.run_getObj_map h.at_, K.check w _ hk, h.find0 K hk hn, MapKept.run_setObj_map _ h.at_, setBlock, Result.andThen]
theorem run_update1 (K : Keyed P k) (ht : P.underlying t = some (.map k el)) (h : IsMap P k w g (l1 ++ e :: l2) c) (hk : keyOf P k key = some kl) (he : e.key = key) (val : Value) :
    ∃ w', (Instr.mapUpdate t (.map (some g)) key val).run P w = .ok () w' ∧ IsMap P k w' g (l1 ++ { e with val := val } :: l2) c ∧ Upd (· = g) w w' := by
  refine ⟨_, ?_, isMap_set h val, upd_setBlock _ _ _⟩
  have hf := h.find1 K hk he
  have hm := modify_midL (l1 := l1) (l2 := l2) (e := e) (fun x => { x with key := key, val := val })
  simp only [Instr.mapUpdate, Sem.run_bind, run_underlying ht, MapKept.run_getObj_map h.at_, K.check w false hk, hf, Result.andThen]
  simp [he, K.stays w hk, MapKept.run_setObj_map _ h.at_, Result.andThen, setBlock]
  rw [hm, ← he]
theorem run_entry0 (K : Keyed P k) (ht : P.underlying t = some (.map k el)) (hz : (zeroValue el).run P w = .ok z w) (h : IsMap P k w g es c) (hk : keyOf P k key = some kl) (hn : ∀ x ∈ es, x.key ≠ key) :
    ∃ w', (Instr.mapEntry t (.map (some g)) key).run P w = .ok (.tuple #[z, .int .i64 (c : Nat)]) w' ∧ IsMap P k w' g (es ++ [⟨key, z, c⟩]) (c + 1) ∧ Upd (· = g) w w' := by
  refine ⟨_, ?_, isMap_push h hk hn z, upd_setBlock _ _ _⟩
  simp [Instr.mapEntry, run_underlying ht, MapKept.run_getObj_map h.at_, K.check w _ hk, h.find0 K hk hn, hz, MapKept.run_setObj_map _ h.at_, setBlock, Result.andThen, goInt]
theorem run_entry1 (K : Keyed P k) (ht : P.underlying t = some (.map k el)) (h : IsMap P k w g (l1 ++ e :: l2) c) (hk : keyOf P k key = some kl) (he : e.key = key) :
    ∃ w', (Instr.mapEntry t (.map (some g)) key).run P w = .ok (.tuple #[e.val, .int .i64 (e.born : Nat)]) w' ∧ IsMap P k w' g (l1 ++ e :: l2) c ∧ Upd (· = g) w w' := by
  refine ⟨_, ?_, isMap_set h e.val, upd_setBlock _ _ _⟩
  have hf := h.find1 K hk he
  have hm := modify_midL (l1 := l1) (l2 := l2) (e := e) (fun x => { x with key := key })
  simp only [Instr.mapEntry, Sem.run_bind, run_underlying ht, MapKept.run_getObj_map h.at_, K.check w false hk, hf, Result.andThen]
  simp [he, K.stays w hk, MapKept.run_setObj_map _ h.at_, Result.andThen, setBlock, goInt]
  rw [hm, ← he]
theorem find_born (h : IsMap P k w g (l1 ++ e :: l2) c) : (l1 ++ e :: l2).toArray.findIdx? (fun x => (x.born : Int) == (e.born : Nat)) = some l1.length := by
  have hb := ((MapKept.stamped_iff _ _).1 h.st).2.1
  simp only [List.toList_toArray, List.map_append, List.map_cons] at hb
  rw [List.nodup_append] at hb
  rw [List.findIdx?_toArray, List.findIdx?_eq_some_iff_getElem]
  refine ⟨by simp, by simp, fun j hj => ?_⟩
  rw [List.getElem_append_left hj]
  have := hb.2.2 l1[j].born (List.mem_map.2 ⟨_, List.getElem_mem hj, rfl⟩) e.born (List.mem_cons_self ..)
  intro hh
  rw [beq_iff_eq] at hh
  omega
theorem run_estore (h : IsMap P k w g (l1 ++ e :: l2) c) (val : Value) :
    ∃ w', (Instr.entryStore t (.map (some g)) (.int .i64 (e.born : Nat)) val).run P w = .ok () w' ∧ IsMap P k w' g (l1 ++ { e with val := val } :: l2) c ∧ Upd (· = g) w w' := by
  refine ⟨_, ?_, isMap_set h val, upd_setBlock _ _ _⟩
  have hm := modify_mid (l1 := l1) (l2 := l2) (e := e) (fun x => { x with val := val })
  have hf := find_born h
  simp only [Instr.entryStore, Sem.run_bind, MapKept.run_getObj_map h.at_, Result.andThen, asInt, asIntOf, Sem.run_pure, hf]
  rw [MapKept.run_setObj_map _ h.at_, hm]
  rfl
end

section
variable {P : Program} {n : Nat} {D : List Deferred} {L : Slots} {w : World} {Q : Exit → Act → World → Prop} {ops : Array Oper} {rest : List Oper} {d : Nat} {ty t u : TypeId} {pos : String} {after : Array Edge} {x y z : Operand} {v vx vy vz : Value} {w' : World} {k : TypeId} {g : Nat}

theorem WR.makeMap (hd : Nat.blt d n = true) (h : ∀ w', Below w.heap.size w w' → IsMap P k w' w.heap.size [] 0 → w'.heap.size = w.heap.size + 1 → WR P n D ops rest ((d, .map (some w.heap.size)) :: L) w' Q) :
    WR P n D ops (⟨some d, .makeMap t none, ty, pos, after, none⟩ :: rest) L w Q := by
  refine .val (w' := w.alloc (.map #[] 0)) hd (fun a ha => ?_) (h _ (below_al (Below.refl _ _) _) ⟨heap_alloc_new _ _, MapKept.stamped_empty 0, by simp⟩ (size_alloc _ _))
  unfold execOp
  simp only [Instr.makeMap, Sem.run_bind, Sem.run_pure, Result.andThen_ok, run_newObj_alloc]
  simp [Sem.run_bind, run_newObj_alloc, Result.andThen]
theorem WR.lookup (hx : evo L x = some vx) (hy : evo L y = some vy) (hr : (Instr.lookup t vx vy false).run P w = .ok v w) (hd : Nat.blt d n = true) (h : WR P n D ops rest ((d, v) :: L) w Q) : WR P n D ops (⟨some d, .lookup t x y false, ty, pos, after, none⟩ :: rest) L w Q :=
  .val hd (fun a ha => by simp only [execOp, ha.ev hx, ha.ev hy, hr, Sem.run_bind, Sem.run_pure, Result.andThen_ok]) h
theorem WR.mapEntry (hx : evo L x = some vx) (hy : evo L y = some vy) (hr : (Instr.mapEntry t vx vy).run P w = .ok v w') (hd : Nat.blt d n = true) (h : WR P n D ops rest ((d, v) :: L) w' Q) : WR P n D ops (⟨some d, .mapEntry t x y, ty, pos, after, none⟩ :: rest) L w Q :=
  .val hd (fun a ha => by simp only [execOp, ha.ev hx, ha.ev hy, hr, Sem.run_bind, Sem.run_pure, Result.andThen_ok]) h
theorem WR.mapUpdate (hx : evo L x = some vx) (hy : evo L y = some vy) (hz : evo L z = some vz) (hr : (Instr.mapUpdate t vx vy vz).run P w = .ok () w') (h : WR P n D ops rest L w' Q) : WR P n D ops (⟨none, .mapUpdate t x y z, ty, pos, after, none⟩ :: rest) L w Q :=
  .skip (fun a ha => by simp only [execOp, ha.ev hx, ha.ev hy, ha.ev hz, hr, Sem.run_bind, Sem.run_pure, Result.andThen_ok]) h
theorem WR.entryStore (hx : evo L x = some vx) (hy : evo L y = some vy) (hz : evo L z = some vz) (hr : (Instr.entryStore t vx vy vz).run P w = .ok () w') (h : WR P n D ops rest L w' Q) : WR P n D ops (⟨none, .entryStore t x y z, ty, pos, after, none⟩ :: rest) L w Q :=
  .skip (fun a ha => by simp only [execOp, ha.ev hx, ha.ev hy, ha.ev hz, hr, Sem.run_bind, Sem.run_pure, Result.andThen_ok]) h
end

end Go.Proofs.Ytibmcpbkialbnaa.E
