/- Disks as parts of the memory; what the laws' helpers do to them. No condition beyond sizes. -/
import Derived.Test.YthjlmkmijehnjaaM
import Derived.Test.YthjlmkmijehnjaaTab
import Derived.Test.YthjlmkmijehnjaaDl8
import Derived.Test.YthjlmkmijehnjaaDl7
namespace Go.Proofs.Ythjlmkmijehnjaa
open Go.RowKit Go.Shelf K L E
set_option linter.unusedVariables false
set_option linter.unusedSimpArgs false

def aD (b : Nat) (d : PD) : Ass := ⟨fun w S => IsD w S b d, fun h => h.lt, fun h hs => h.keep hs.upd (fun x hx hn => hn hx)⟩
def zDs (v : Value) (es : List DE) : Ass := ⟨fun w F => Ds w F v es ∧ ∀ b, F b → b < w.heap.size, fun h => h.2,
  fun {w w' F} h hs => ⟨h.1.upd (S := fun b => ¬ F b) hs.upd (fun b hb hn => hn hb), fun b hb => Nat.lt_of_lt_of_le (h.2 b hb) hs.size⟩⟩

theorem Ds.imp_lt {w : World} {F : Nat → Prop} {v : Value} {es : List DE} (h : Ds w F v es) : Ds w (· < w.heap.size) v es := ⟨Sl.imp_lt h.row (by decide), fun e he => ⟨Sl.imp_lt (h.inn e he).1 (by decide), (h.inn e he).2⟩⟩
section
variable {n : Nat} {D : List Deferred} {L : Slots} {w : World} {Q : Exit → Act → World → Prop} {ops : Array Oper} {rest : List Oper} {d : Nat} {ty : TypeId} {pos : String} {after : Array Edge} {x y : Operand} {b c : Blk}
theorem blkNeq (hx : evo L x = some (.agg (bvs b).toArray)) (hy : evo L y = some (.agg (bvs c).toArray)) (hb : b.length = 64) (hc : c.length = 64) (hd : Nat.blt d n = true) (h : WR Try.prog n D ops rest ((d, .bool (b != c)) :: L) w Q) :
    WR Try.prog n D ops (⟨some d, .binOp .neq 27 x y 27, ty, pos, after, none⟩ :: rest) L w Q :=
  .val hd (fun a ha => ex_neq rfl b c (ha.ev hx) (ha.ev hy) hb hc) h
theorem blkEql (hx : evo L x = some (.agg (bvs b).toArray)) (hy : evo L y = some (.agg (bvs c).toArray)) (hb : b.length = 64) (hc : c.length = 64) (hd : Nat.blt d n = true) (h : WR Try.prog n D ops rest ((d, .bool (b == c)) :: L) w Q) :
    WR Try.prog n D ops (⟨some d, .binOp .eql 27 x y 27, ty, pos, after, none⟩ :: rest) L w Q :=
  .val hd (fun a ha => ex_eql rfl b c (ha.ev hx) (ha.ev hy) hb hc) h
theorem blkZero (hd : Nat.blt d n = true) (h : WR Try.prog n D ops rest ((d, .agg (bvs zblk).toArray) :: L) w Q) : WR Try.prog n D ops (⟨some d, .build 27 #[], ty, pos, after, none⟩ :: rest) L w Q :=
  .val hd (fun a ha => ex_build 27 #[] rfl (vs := #[]) (by simp) (build_zero w)) h
/-- A block's variable. -/
theorem blkVar {ty' : TypeId} {pos' : String} {after' : Array Edge} (hd : Nat.blt d n = true) (hy : evo ((d, .pointer (some ⟨w.heap.size, 0, none⟩)) :: L) y = some (.agg (bvs b).toArray)) (hy' : evo L y = some (.agg (bvs b).toArray)) (hb : b.length = 64)
    (h : ∀ w', Below w.heap.size w w' → Box w' w.heap.size (bvs b) → w'.heap.size = w.heap.size + 1 → WR Try.prog n D ops rest ((d, .pointer (some ⟨w.heap.size, 0, none⟩)) :: L) w' Q) :
    WR Try.prog n D ops (⟨some d, .alloc 27, ty, pos, after, none⟩ :: ⟨none, .store 27 (.tmp d) y, ty', pos', after', none⟩ :: rest) L w Q :=
  .allocStore (v := .agg (bvs b).toArray) (c := (bvs b).toArray) hd hy' rfl (by rw [List.size_toArray, bvs_len, hb]) (by rfl) (one_blk b) hy (fun w' h1 h2 h3 => h w' h1 (by simpa using h2) h3)
end

variable {w : World} {b : Nat} {d : PD} {Os Zs : List Ass}
theorem worn_M (es : List DE) {v : Value} {F : Nat → Prop} (M : Mem w Os Zs) (h : Ds w F v es) : Calls Try.prog 11 #[v] w fun e w' =>
    ∃ b, e = .returned (.pointer (some ⟨b, 0, none⟩)) ∧ Mem w' (aD b (worn ((es.take 120).map (·.1))) :: Os) Zs := by
  refine (worn_any v es w F h).mono fun e w' ⟨b, S, he, hI, hS, hb⟩ => ⟨b, he, M.new hb hI hS⟩
theorem does_M (M : Mem w (aD b d :: Os) Zs) (hn : d.ops < 1073741823) (e : DE) (F : Nat → Prop) (hko : e.1.okk) (hv : Sl w F 1 e.2 e.1.keep.length (e.1.keep.map Value.bool)) :
    Calls Try.prog 18 #[.pointer (some ⟨b, 0, none⟩), e.agg] w fun r w' => r = .returned (.tuple #[.agg (bvs (d.does e.1).2.1).toArray, .int .i64 (d.does e.1).1]) ∧ Mem w' (aD b (d.does e.1).2.2 :: Os) Zs := by
  obtain ⟨S, hI, hM⟩ := M.take
  exact (does_any hI hn e F hko hv).mono fun r w' ⟨hr, S', h1, h2, h3⟩ => ⟨hr, hM h3 h2 h1⟩
theorem fail_M (M : Mem w (aD b d :: Os) Zs) (n : Int) (n1 : -9223372036854775808 ≤ n) (n2 : n ≤ 9223372036854775807) :
    Calls Try.prog 27 #[.pointer (some ⟨b, 0, none⟩), .int .i64 n] w fun r w' => r = .returned (.int .i64 (d.fail n).1) ∧ Mem w' (aD b (d.fail n).2 :: Os) Zs := by
  obtain ⟨S, hI, hM⟩ := M.take
  exact (fail_isd hI n n1 n2).mono fun r w' ⟨hr, hd, hu⟩ => ⟨hr, hM hu hd fun _ h => .inl h⟩
theorem arm_M (M : Mem w (aD b d :: Os) Zs) (n : Int) (n1 : -9223372036854775808 ≤ n) (n2 : n ≤ 9223372036854775807) :
    Calls Try.prog 24 #[.pointer (some ⟨b, 0, none⟩), .int .i64 n] w fun r w' => r = .returned (.int .i64 (d.arm n).1) ∧ Mem w' (aD b (d.arm n).2 :: Os) Zs := by
  obtain ⟨S, hI, hM⟩ := M.take
  exact (arm_isd hI n n1 n2).mono fun r w' ⟨hr, hd, hu⟩ => ⟨hr, hM hu hd fun _ h => .inl h⟩
theorem ops_M (M : Mem w (aD b d :: Os) Zs) : Calls Try.prog 31 #[.pointer (some ⟨b, 0, none⟩)] w fun e w' => e = .returned (.int .i64 (d.ops : Nat)) ∧ w = w' := by
  obtain ⟨S, hI⟩ := M.get; exact ops_isd hI
theorem dead_M (M : Mem w (aD b d :: Os) Zs) : Calls Try.prog 25 #[.pointer (some ⟨b, 0, none⟩)] w fun e w' => e = .returned (.bool d.dead) ∧ w = w' := by
  obtain ⟨S, hI⟩ := M.get; exact dead_isd hI
theorem pend_M (M : Mem w (aD b d :: Os) Zs) (hn : d.ops < 1073741824) : Calls Try.prog 28 #[.pointer (some ⟨b, 0, none⟩)] w fun e w' =>
    ∃ A c, e = .returned (.slice A d.pend.length c) ∧ w'.ownsRow w.heap.size 3 1 (.slice A d.pend.length c) d.pend.length (d.pend.map fun p => .int .i64 (p.1 : Nat)) ∧ Below w.heap.size w w' := by
  obtain ⟨S, hI⟩ := M.get; exact pend_isd hI hn
theorem held_M (M : Mem w (aD b d :: Os) Zs) (hn : d.ops + d.safe.length < 1073741823) (hd : d.dead = false) (hf : d.fails = 0) :
    Calls Try.prog 15 #[.pointer (some ⟨b, 0, none⟩)] w fun e w' => ∃ v, e = .returned v ∧ Mem w' (zSl 64 v d.safe.length ((d.helds d.safe.length).flatMap bvs) :: aD b (d.done d.safe.length) :: Os) Zs := by
  obtain ⟨S, hI, hM⟩ := M.takeNew
  refine (held_any hI hn hd hf).mono fun e w' ⟨v, he, ho, hI', hu⟩ => ⟨v, he, hM hu hI' (fun _ h => .inl h) (zsl_of_row (by decide) ho) fun b hb => ?_⟩
  have := (World.ownsRow.lt ho b hb).1
  exact ⟨this, fun h => by have := hI.lt b h; omega⟩

end Go.Proofs.Ythjlmkmijehnjaa
