/- Law 27's walk: IdealJudges. No condition beyond sizes. -/
import Derived.Test.YtfdijgdojejimaaIdJ
import Derived.Test.YtfdijgdojejimaaIdF
namespace Go.Proofs.Ytfdijgdojejimaa
open Go.RowKit Go.Shelf K L
set_option linter.unusedVariables false
set_option linter.unusedSimpArgs false

theorem ownfs_ls {w w0 : World} {n : Nat} {u : Value} {ls es : List FE} (h : OwnFs w n 0 u ls) (hm : ls.map (·.1) = es.map (·.1)) (hb : ∀ e ∈ es, Bs w0 (· < w0.heap.size) e.2 e.1.bytes ∧ e.1.bytes.length ≤ 1048576) (hg : ∀ e ∈ es, e.1.number < 4294967296) :
    Ls w u ls ∧ ls.length = es.length ∧ ∀ e ∈ ls, e.1.number < 4294967296 := by
  have hin : ∀ e ∈ ls, ∃ e' ∈ es, e'.1 = e.1 := by
    intro e he
    have : e.1 ∈ es.map (·.1) := by rw [← hm]; exact List.mem_map.2 ⟨e, he, rfl⟩
    exact List.mem_map.1 this
  refine ⟨⟨(Sl.of_own h.1).imp_lt (by decide), fun e he => ⟨bst_lt (h.2 e he), ?_⟩⟩, ?_, fun e he => ?_⟩
  · obtain ⟨e', he', hee⟩ := hin e he
    rw [← hee]; exact (hb e' he').2
  · have := congrArg List.length hm
    rwa [List.length_map, List.length_map] at this
  · obtain ⟨e', he', hee⟩ := hin e he
    rw [← hee]; exact hg e' he'

set_option maxRecDepth 100000 in
set_option maxHeartbeats 8000000 in
theorem idealJudges_walk (v : Value) (w : World) (es : List FE) (hle : es.length ≤ 1048576) (hL : Ls w v es) (hg : ∀ e ∈ es, e.1.number < 4294967296) :
    Calls Try.prog 4 #[v] w fun e w' => e = .returned (.bool true) ∧ Below w.heap.size w w' := by
  have hL' := hL
  obtain ⟨⟨-, A, c, rfl, l1, l2, -, -⟩, -⟩ := hL
  unfold maxLen at l2
  go_enter Try.func4, Try.ntmps4
  go_wp2_with fail
  refine (wakes_any w).mono ?_
  rintro e w1 ⟨rfl, hb1⟩
  have hL1 := hL'.below hb1
  go_wp2_with fail
  refine (large_any _ w1 es hle hL1).mono ?_
  rintro e w2 ⟨rfl, hb2⟩
  have hb := below_tr hb1 hb2
  clear hb1 hb2 hL1
  have hL2 := hL'.below hb
  cases hq : largeL (es.map (·.1))
  · go_wp2_with fail
    refine (copied_any _ w2 es hle hL2).mono ?_
    rintro e w3 ⟨u, ls, rfl, hO, hls, hb3⟩
    obtain ⟨hL3, hll, hg3⟩ := ownfs_ls hO hls hL2.2 hg
    have hb' := below_tr hb hb3
    clear hO hb3
    go_wp2_with fail
    refine (judge_any u w3 ls (by omega) hL3 hg3).mono ?_
    rintro e w4 ⟨rfl, hb4⟩
    rw [hls, hll]
    have hb'' := below_tr hb' hb4
    have hL4 := hL'.below hb''
    have hjl := judg_le (es.map (·.1))
    rw [List.length_map] at hjl
    clear hls hll hL3 hg3 hb' hb4 hb hL2
    obtain ⟨J, hJ⟩ : ∃ J, judg (es.map (·.1)) = J := ⟨_, rfl⟩
    rw [hJ] at hjl ⊢
    have HJ0 := Lib.hid hJ
    clear hJ
    by_cases hj : J = es.length
    · rw [if_pos hj]
      have hd : (((J : Nat) : Int) == ((es.length : Nat) : Int)) = true := by simp [hj]
      have HJ := Lib.hid hj
      clear hj
      go_wp2_with fail
      refine (rjudge_any _ w4 es hle hL4 hg).mono ?_
      rintro e w5 ⟨rfl, hb5⟩
      rw [HJ0.out]
      have hbf := below_tr hb'' hb5
      clear hb'' hb5 hL4
      have hdj : (((J : Nat) : Int) == ((J : Nat) : Int)) = true := by simp
      go_wp2
      go_ret
      exact ⟨rfl, hbf⟩
    · rw [if_neg hj]
      have hd : (((J : Nat) : Int) == ((es.length : Nat) : Int)) = false := by simp; omega
      have HJ := Lib.hid hj
      clear hj
      go_wp2_with fail
      refine (rjudge_any _ w4 es hle hL4 hg).mono ?_
      rintro e w5 ⟨rfl, hb5⟩
      rw [HJ0.out]
      have hbf := below_tr hb'' hb5
      clear hb'' hb5 hL4
      have hdj : (((J : Nat) : Int) == ((J : Nat) : Int)) = true := by simp
      go_wp2
      go_ret
      exact ⟨rfl, hbf⟩
  · go_wp2
    go_ret
    exact ⟨rfl, hb⟩

end Go.Proofs.Ytfdijgdojejimaa
