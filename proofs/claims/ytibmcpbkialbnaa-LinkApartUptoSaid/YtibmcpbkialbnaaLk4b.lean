/- An entry of the links' map, there or made. No condition. -/
import Derived.Test.YtibmcpbkialbnaaLk4
namespace Go.Proofs.Ytibmcpbkialbnaa
open Go.RowKit K L E
open Go.Maps (Keyed)
set_option linter.unusedVariables false
set_option linter.unusedSimpArgs false

variable {g c : Nat} {l : PL} {es : List MapEntry}
def PL.put (l : PL) (p : PK) (fs : List PF) (n : Nat) : PL := ⟨fun q => if q = p then fs else l.m q, n⟩
theorem rows_put (l : PL) {es : List MapEntry} (p : PK) (fs : List PF) (n : Nat) (h : ∀ e ∈ es, e.key ≠ kv p) (hk : ∀ e ∈ es, ∃ p : PK, e.key = kv p ∧ i64 p.1 ∧ i64 p.2) : (es.map fun e => aFl e.val ((l.put p fs n).m (pk e.key))) = es.map fun e => aFl e.val (l.m (pk e.key)) := by
  refine List.map_congr_left fun e he => ?_
  obtain ⟨q, hq, _⟩ := hk e he
  have : q ≠ p := fun hh => h e he (by rw [hq, hh])
  simp [PL.put, hq, pk_kv, this]
theorem EsOk.cnt (hk : EsOk l es) (p : PK) : (l.m p).length ≤ l.n := by
  rcases hk.find p with ⟨hn, h0⟩ | ⟨l1, e, l2, rfl, he⟩
  · rw [h0]; exact Nat.zero_le _
  · rw [← hk.sum]
    simp only [List.map_append, List.map_cons, List.sum_append, List.sum_cons, he, pk_kv]
    omega
theorem entry_lk (hk : EsOk l es) (p : PK) (h1 : i64 p.1) (h2 : i64 p.2) (hap : ∀ w, IsMap Try.prog 66 w g es c → True) : ∃ l1 e l2 c', e.key = kv p ∧
    (∀ w, IsMap Try.prog 66 w g es c → ∃ w', (Instr.mapEntry 63 (.map (some g)) (kv p)).run Try.prog w = .ok (.tuple #[e.val, .int .i64 (e.born : Nat)]) w' ∧ IsMap Try.prog 66 w' g (l1 ++ e :: l2) c' ∧ Upd (· = g) w w') ∧
    (∀ w Os Zs, Mem w ((es.map fun e => aFl e.val (l.m (pk e.key))) ++ Os) Zs → Mem w (aFl e.val (l.m p) :: (((l1 ++ l2).map fun e => aFl e.val (l.m (pk e.key))) ++ Os)) Zs) ∧ (∀ x ∈ l1 ++ l2, ∃ q : PK, x.key = kv q ∧ i64 q.1 ∧ i64 q.2) ∧ (∀ q : PK, q ≠ p → (∀ x ∈ l1 ++ l2, x.key ≠ kv q) → l.m q = []) ∧ ((l1 ++ l2).map fun e => (l.m (pk e.key)).length).sum + (l.m p).length = l.n := by
  obtain ⟨kl, hkl⟩ := keyOf_kv p h1 h2
  rcases hk.find p with ⟨hn, h0⟩ | ⟨l1, e, l2, rfl, he⟩
  · refine ⟨es, ⟨kv p, .slice none 0 0, c⟩, [], c + 1, rfl, fun w hm => ?_, fun w Os Zs M => ?_, fun x hx => hk.keys x (by simpa using hx), fun q _ hq => hk.rest q (by simpa using hq), by rw [h0, List.append_nil]; exact hk.sum⟩
    · exact run_entry0 Try.keyed Try.underlying63 (zero_fls w) hm hkl hn
    · rw [h0, List.append_nil]
      obtain ⟨G, g1, g2, g3⟩ := M
      exact ⟨G, g1, g2, _, aFl_nil w, fun x h => h.elim, g3.imp fun x hx => hx.elim id False.elim⟩
  · refine ⟨l1, e, l2, c, he, fun w hm => ?_, fun w Os Zs M => ?_, fun x hx => hk.keys x ?_, fun q hq hx => hk.rest q fun x hx2 => ?_, by rw [← hk.sum]; simp only [List.map_append, List.map_cons, List.sum_append, List.sum_cons, he, pk_kv]; omega⟩
    · exact run_entry1 Try.keyed Try.underlying63 hm hkl he
    · have := M.pick (f := fun e => aFl e.val (l.m (pk e.key)))
      simp only [he, pk_kv] at this
      exact this
    · rcases List.mem_append.1 hx with hx | hx <;> simp [hx]
    · rcases List.mem_append.1 hx2 with h | h
      · exact hx x (List.mem_append_left _ h)
      · rcases List.mem_cons.1 h with rfl | h
        · rw [he]; exact fun hh => hq (kv_inj hh).symm
        · exact hx x (List.mem_append_right _ h)
/-- One entry turned: the links with other flights of one pair. -/
theorem E.Mem.putLk {w : World} {b n : Nat} {v : Value} {fs : List PF} {p : PK} {l1 l2 : List MapEntry} {e : MapEntry} {Os Zs : List Ass} (he : e.key = kv p) (h1 : i64 p.1) (h2 : i64 p.2) (hk1 : ∀ x ∈ l1 ++ l2, ∃ q : PK, x.key = kv q ∧ i64 q.1 ∧ i64 q.2) (hk2 : ∀ q : PK, q ≠ p → (∀ x ∈ l1 ++ l2, x.key ≠ kv q) → l.m q = [])
    (hs : ((l1 ++ l2).map fun e => (l.m (pk e.key)).length).sum + fs.length = n) (ht : n ≤ 512)
    (M : Mem w (aFl v fs :: aBox b [.map (some g), .int .i64 (n : Nat)] :: aMap Try.prog 66 g (l1 ++ { e with val := v } :: l2) c :: (((l1 ++ l2).map fun e => aFl e.val (l.m (pk e.key))) ++ Os)) Zs) : Mem w (aLk b (l.put p fs n) :: Os) Zs := by
  have hm := M.third.map
  have ha := hm.apart
  have hne : ∀ x ∈ l1 ++ l2, x.key ≠ kv p := fun x hx => by
    rw [← he]
    rcases List.mem_append.1 hx with h | h
    · exact ha.1 x h
    · exact ha.2 x h
  have hr := rows_put l p fs n hne hk1
  have hrs : ((l1 ++ l2).map fun e => ((l.put p fs n).m (pk e.key)).length) = (l1 ++ l2).map fun e => (l.m (pk e.key)).length := by
    refine List.map_congr_left fun e he => ?_
    obtain ⟨q, hq, _⟩ := hk1 e he
    have : q ≠ p := fun hh => hne e he (by rw [hq, hh])
    simp [PL.put, hq, pk_kv, this]
  have hpp : (l.put p fs n).m p = fs := by simp [PL.put]
  refine E.Mem.mkLk (g := g) (c := c) (es := l1 ++ { e with val := v } :: l2) ⟨fun x hx => ?_, fun q hq => ?_, ?_, ht⟩ ?_
  · rcases List.mem_append.1 hx with hx | hx
    · exact hk1 x (List.mem_append_left _ hx)
    · rcases List.mem_cons.1 hx with rfl | hx
      · exact ⟨p, he, h1, h2⟩
      · exact hk1 x (List.mem_append_right _ hx)
  · have hqp : q ≠ p := fun hh => hq { e with val := v } (by simp) (by rw [hh]; exact he)
    simp only [PL.put, if_neg hqp]
    refine hk2 q hqp fun x hx => hq x ?_
    rcases List.mem_append.1 hx with h | h <;> simp [h]
  · show _ = n
    rw [← hrs] at hs
    simp only [List.map_append, List.map_cons, List.sum_append, List.sum_cons, he, pk_kv, hpp] at hs ⊢
    omega
  · rw [← hr] at M
    have M2 := M.third.third
    refine M2.under1 fun M => M.under1 fun M => M.perm ?_
    simp only [List.map_append, List.map_cons, List.append_assoc, he, pk_kv, hpp, List.cons_append]
    exact List.perm_middle.symm

end Go.Proofs.Ytibmcpbkialbnaa
