/- Layer 11: a message that came in, read. -/
import Derived.Test.YtmcldnfemlaeiaaR
import Derived.Test.YtmcldnfemlaeiaaPduM
namespace Go.Proofs.Ytmcldnfemlaeiaa.R
open Go.ChangeShapes Go.WideShapes Go.ChangeAt Go.RowKit Go.Deep K L
set_option linter.unusedVariables false

theorem bulk_le {H : Type} {d : DataW H} : ∀ {l : List (DataW H)}, d ∈ l → Rows.uptoBulk d ≤ Rows.uptoBulkAll l
  | e :: r, h => by
    simp only [Rows.uptoBulkAll]
    rcases List.mem_cons.1 h with rfl | h
    · omega
    · have := bulk_le h; omega

set_option maxHeartbeats 1000000 in
theorem arg_msg {H : Type} {enc : TypeId × Value → H} {W : World} {base : Nat} {v : Value} {d : DataW H} {ps : List MemPlace}
    (o : Value.okWide Try.prog W .any base 25 v) (h : DataW.Trod enc Try.prog W 0 (fun _ => true) true 25 v d ps) :
    ∃ (m : Msg) (vb : Value), v = .agg (m.cells vb).toArray ∧ Bs W (· < W.heap.size) vb m.bytes ∧ m.bytes.length ≤ Rows.uptoBulk d ∧ m.name.length ≤ Rows.uptoBulk d ∧ m.number < 4294967296 ∧ m.sum < 4294967296 ∧
      (-9223372036854775808 ≤ m.kind ∧ m.kind ≤ 9223372036854775807) ∧ (-9223372036854775808 ≤ m.size ∧ m.size ≤ 9223372036854775807) ∧ (-9223372036854775808 ≤ m.off ∧ m.off ≤ 9223372036854775807) ∧ (-9223372036854775808 ≤ m.code ∧ m.code ≤ 9223372036854775807) := by
  obtain ⟨cs, rfl, hsz⟩ := okWide_struct Try.underlying25 o
  obtain ⟨l⟩ := cs
  rw [show Try.prog.cellsOf 25 = 8 from by kernel_rfl] at hsz
  match l, hsz with
  | [c0, c1, c2, c3, c4, c5, c6, c7], _ =>
    obtain ⟨fuel, hf⟩ := h
    obtain ⟨xs, n, _, hx, _, hlen, hg⟩ := DataW.trod_struct Try.underlying25 hf
    match xs, hlen with
    | [y0, y1, y2, y3, y4, y5, y6, y7], _ =>
      have k3 : Try.prog.cellsOf 3 = 1 := by kernel_rfl
      have k4 : Try.prog.cellsOf 22 = 1 := by kernel_rfl
      have k5 : Try.prog.cellsOf 9 = 1 := by kernel_rfl
      have k6 : Try.prog.cellsOf 23 = 1 := by kernel_rfl
      have h0 := hg 0 _ rfl
      have h1 := hg 1 _ rfl
      have h2 := hg 2 _ rfl
      have h3 := hg 3 _ rfl
      have h4 := hg 4 _ rfl
      have h5 := hg 5 _ rfl
      have h6 := hg 6 _ rfl
      have h7 := hg 7 _ rfl
      simp [Value.cells, k3, k4, k5, k6] at h0 h1 h2 h3 h4 h5 h6 h7
      obtain ⟨n0, e0, r0⟩ := read_int Try.underlying3 h0
      obtain ⟨n1, e1, r1⟩ := read_int Try.underlying22 h1
      obtain ⟨s2, e2, d2, -⟩ := DataW.trod_string Try.underlying9 h2
      obtain ⟨n3, e3, r3⟩ := read_int Try.underlying3 h3
      obtain ⟨n4, e4, r4⟩ := read_int Try.underlying3 h4
      obtain ⟨n5, e5, r5⟩ := read_int Try.underlying22 h5
      obtain ⟨n6, e6, r6⟩ := read_int Try.underlying3 h6
      obtain ⟨v7, xs7, e7, b7, l7⟩ := read_bytes Try.underlying23 (by kernel_rfl) Try.underlying5 h7
      simp only [Prod.mk.injEq] at hx
      obtain ⟨hx1, -⟩ := hx
      cases e0; cases e1; cases e2; cases e3; cases e4; cases e5; cases e6; cases e7
      have hn1 : 0 ≤ n1 ∧ n1 ≤ 4294967295 := by simpa [IntKind.min, IntKind.max, IntKind.signed, IntKind.bits] using r1
      have hn5 : 0 ≤ n5 ∧ n5 ≤ 4294967295 := by simpa [IntKind.min, IntKind.max, IntKind.signed, IntKind.bits] using r5
      obtain ⟨m1, rfl⟩ : ∃ k : Nat, n1 = (k : Int) := ⟨n1.toNat, by omega⟩
      obtain ⟨m5, rfl⟩ : ∃ k : Nat, n5 = (k : Int) := ⟨n5.toNat, by omega⟩
      subst hx1
      refine ⟨⟨n0, m1, s2.data.toList, n3, n4, m5, n6, xs7⟩, _, rfl, b7, ?_, ?_, by dsimp only; omega, by dsimp only; omega, ?_, ?_, ?_, ?_⟩
      · have := bulk_le (d := y7.1) (l := [y0, y1, y2, y3, y4, y5, y6, y7].map (·.1)) (by simp)
        simp only [Rows.uptoBulk]
        omega
      · have := bulk_le (d := y2.1) (l := [y0, y1, y2, y3, y4, y5, y6, y7].map (·.1)) (by simp)
        have e : Rows.uptoBulk y2.1 = s2.data.toList.length + 1 := by rw [d2]; simp [Rows.uptoBulk]
        simp only [Rows.uptoBulk]
        show s2.data.toList.length ≤ _
        omega
      · simpa [IntKind.min, IntKind.max, IntKind.signed, IntKind.bits] using r0
      · simpa [IntKind.min, IntKind.max, IntKind.signed, IntKind.bits] using r3
      · simpa [IntKind.min, IntKind.max, IntKind.signed, IntKind.bits] using r4
      · simpa [IntKind.min, IntKind.max, IntKind.signed, IntKind.bits] using r6

end Go.Proofs.Ytmcldnfemlaeiaa.R
