/- A range over a map, with the frame out of sight. No condition. -/
import Derived.Test.YtibmcpbkialbnaaMp
import Derived.Test.YtibmcpbkialbnaaIt
namespace Go.Proofs.Ytibmcpbkialbnaa.E
open Go Go.RowKit K
open Go.Maps (Keyed)
open Go.MapKept (Stamped)
open Go.ChangeMaps (setBlock)
set_option linter.unusedVariables false
set_option linter.unusedSimpArgs false

def itOf (g c : Nat) (dn : List MapEntry) : Obj := .mapIter (some g) c (dn.map (·.born)).toArray c
theorem IsMap.borns {P : Program} {k : TypeId} {w : World} {g c : Nat} {es : List MapEntry} (h : IsMap P k w g es c) : (∀ x ∈ es, x.born < c) ∧ (es.map (·.born)).Nodup := by
  have := (MapKept.stamped_iff _ _).1 h.st
  simp only [List.toList_toArray] at this
  exact ⟨this.1, this.2.1⟩
section
variable {P : Program} {n : Nat} {D : List Deferred} {L : Slots} {w : World} {Q : Exit → Act → World → Prop} {ops : Array Oper} {rest : List Oper} {d : Nat} {ty t u : TypeId} {pos : String} {after : Array Edge} {x y z : Operand} {v vx vy vz : Value} {w' : World} {k el : TypeId} {g c r : Nat} {es dn lf : List MapEntry} {Os Zs : List Ass}
theorem WR.range [U : Und P t (.map k el)] (hx : evo L x = some (.map (some g))) (hm : IsMap P k w g es c) (M : Mem w Os Zs) (hd : Nat.blt d n = true)
    (h : ∀ w', Mem w' (aObj w.heap.size (itOf g c []) :: Os) Zs → Below w.heap.size w w' → WR P n D ops rest ((d, .pointer (some ⟨w.heap.size, 0, none⟩)) :: L) w' Q) :
    WR P n D ops (⟨some d, .range t x, ty, pos, after, none⟩ :: rest) L w Q := by
  refine .val (w' := w.alloc (itOf g c [])) hd (fun a ha => ?_) (h _ (M.new (below_al (Below.refl _ _) _) (F := fun x => x = w.heap.size) ⟨fun _ => Iff.rfl, World.alloc_heap_new w _⟩ (fun x hx => by omega)) (below_al (Below.refl _ _) _))
  have h1 := ha.ev hx
  generalize a.eval = ev at h1 ⊢
  unfold execOp
  simp [h1, Instr.range, run_underlying U.h, MapKept.run_getObj_map hm.at_, run_newObj_alloc, Result.andThen, itOf]
theorem left_iff (hp : es.Perm (dn ++ lf)) (hn : (es.map (·.born)).Nodup) {e : MapEntry} (he : e ∈ es) : (dn.map (·.born)).toArray.contains e.born = false ↔ e ∈ lf := by
  have hn2 : ((dn ++ lf).map (·.born)).Nodup := (hp.map _).nodup hn
  rw [List.map_append, List.nodup_append] at hn2
  have hmem := hp.mem_iff.1 he
  constructor
  · intro h
    rcases List.mem_append.1 hmem with h1 | h1
    · exfalso
      have : (dn.map (·.born)).toArray.contains e.born = true := by simp; exact ⟨e, h1, rfl⟩
      rw [h] at this; cases this
    · exact h1
  · intro h
    rw [← Bool.not_eq_true]
    intro hc
    simp at hc
    obtain ⟨x, hx, hb⟩ := hc
    exact hn2.2.2 x.born (List.mem_map.2 ⟨x, hx, rfl⟩) e.born (List.mem_map.2 ⟨e, h, rfl⟩) hb
theorem perm_pick {l : List MapEntry} {e : MapEntry} (h : e ∈ l) : ∃ l', l.Perm (e :: l') := by
  obtain ⟨a, b, rfl⟩ := List.append_of_mem h
  exact ⟨a ++ b, List.perm_middle⟩
theorem WR.next (hx : evo L x = some (.pointer (some ⟨r, 0, none⟩))) (hm : IsMap P k w g es c) (M : Mem w (aObj r (itOf g c dn) :: Os) Zs) (hp : es.Perm (dn ++ lf)) (hd : Nat.blt d n = true)
    (h0 : lf = [] → WR P n D ops rest ((d, .tuple #[.bool false]) :: L) w Q)
    (h1 : ∀ e lf' w', lf.Perm (e :: lf') → e ∈ es → Mem w' (aObj r (itOf g c (dn ++ [e])) :: Os) Zs → WR P n D ops rest ((d, .tuple #[.bool true, e.key, e.val]) :: L) w' Q) :
    WR P n D ops (⟨some d, .next x false, ty, pos, after, none⟩ :: rest) L w Q := by
  obtain ⟨hb, hn⟩ := hm.borns
  rcases run_next_at (P := P) w ty r g c c (dn.map fun x : MapEntry => x.born).toArray es.toArray c M.obj hm.at_ (by simpa using hb) (Nat.le_refl _) with ⟨hs, hr⟩ | ⟨e, he, w1, hw1, hr⟩
  · refine .val hd (fun a ha => by simp only [execOp, ha.ev hx, hr, Sem.run_bind, Sem.run_pure, Result.andThen_ok]) (h0 ?_)
    cases hl : lf with
    | nil => rfl
    | cons e l =>
      exfalso
      have he : e ∈ es := hp.mem_iff.2 (by simp [hl])
      have := (left_iff hp hn he).2 (by simp [hl])
      have hmem : e ∈ leftOf es.toArray (dn.map (·.born)).toArray := by
        unfold leftOf
        simp only [Array.mem_filter, List.mem_toArray]
        exact ⟨he, by rw [this]; rfl⟩
      have := Array.size_pos_of_mem hmem
      omega
  · unfold leftOf at he
    simp only [Array.toList_filter, List.mem_filter] at he
    have hees : e ∈ es := by simpa using he.1
    have hel := (left_iff hp hn hees).1 (by simpa using he.2)
    obtain ⟨lf', hlf⟩ := perm_pick hel
    refine .val (w' := setBlock w1 r (.mapIter (some g) c ((dn.map fun x : MapEntry => x.born).toArray.push e.born) c)) hd (fun a ha => by simp only [execOp, ha.ev hx, hr, Sem.run_bind, Sem.run_pure, Result.andThen_ok]) (h1 e lf' _ hlf hees ?_)
    have M1 : Mem w1 (aObj r (itOf g c dn) :: Os) Zs := by
      rcases hw1 with rfl | rfl
      · exact M
      · exact M.below (Below.refl _ _).drew
    have e1 : Obj.mapIter (some g) c ((dn.map fun x : MapEntry => x.born).toArray.push e.born) c = itOf g c (dn ++ [e]) := by simp [itOf]
    rw [e1]
    obtain ⟨F, hF, hM⟩ := M1.take
    exact hM ((upd_setBlock w1 r _).mono fun x _ hx => (hF.1 x).2 hx) (F' := F) ⟨hF.1, setBlock_at hF.2⟩ fun x hx => .inl hx
theorem WR.entry {e : MapEntry} (hx : evo L x = some (.pointer (some ⟨r, 0, none⟩))) (hm : IsMap P k w g es c) (M : Mem w (aObj r (itOf g c (dn ++ [e])) :: Os) Zs) (he : e ∈ es) (hd : Nat.blt d n = true)
    (h : WR P n D ops rest ((d, .tuple #[e.key, e.val]) :: L) w Q) : WR P n D ops (⟨some d, .entry x, ty, pos, after, none⟩ :: rest) L w Q := by
  obtain ⟨hb, hn⟩ := hm.borns
  have hr : w.heap[r]? = some (.mapIter (some g) c ((dn.map fun x : MapEntry => x.born).toArray.push e.born) c) := by rw [M.obj]; simp [itOf]
  have := run_entry_at (P := P) w r g c (dn.map fun x : MapEntry => x.born).toArray es.toArray c e hr hm.at_ (by simpa using he) (by simpa using hn)
  exact .val hd (fun a ha => by simp only [execOp, ha.ev hx, this, Sem.run_bind, Sem.run_pure, Result.andThen_ok]) h
end

end Go.Proofs.Ytibmcpbkialbnaa.E
