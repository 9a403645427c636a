/- Disks as parts of the memory: read, synced, crashed; two rows of blocks held against each other. No condition beyond sizes. -/
import Derived.Test.YthjlmkmijehnjaaDm
import Derived.Test.YthjlmkmijehnjaaEm
namespace Go.Proofs.Ythjlmkmijehnjaa
open Go.RowKit Go.Shelf K L E
set_option linter.unusedVariables false
set_option linter.unusedSimpArgs false

variable {w : World} {b : Nat} {d : PD} {Os Zs : List Ass}
theorem read_M (M : Mem w (aD b d :: Os) Zs) (hn : d.ops < 1073741823) (i : Int) (i1 : -9223372036854775808 ≤ i) (i2 : i ≤ 9223372036854775807) :
    Calls Try.prog 22 #[.pointer (some ⟨b, 0, none⟩), .int .i64 i] w fun r w' => r = .returned (.tuple #[.agg (bvs (d.read i).2.1).toArray, .int .i64 (d.read i).1]) ∧ Mem w' (aD b (d.read i).2.2 :: Os) Zs := by
  obtain ⟨S, hI, hM⟩ := M.take
  exact (read_any hI hn i i1 i2).mono fun r w' ⟨hr, h2, h3⟩ => ⟨hr, hM h3 h2 fun _ h => .inl h⟩
theorem sync_M (M : Mem w (aD b d :: Os) Zs) (hn : d.ops < 1073741823) :
    Calls Try.prog 26 #[.pointer (some ⟨b, 0, none⟩)] w fun r w' => r = .returned (.int .i64 d.sync.1) ∧ Mem w' (aD b d.sync.2 :: Os) Zs := by
  obtain ⟨S, hI, hM⟩ := M.take
  exact (sync_any hI hn).mono fun r w' ⟨hr, S', h1, h2, h3⟩ => ⟨hr, hM h3 h2 h1⟩
theorem crash_M {vk : Value} {ks : List Bool} (M : Mem w (aD b d :: Os) Zs) (k : Nat) (hz : Zs[k]? = some (zSl 1 vk ks.length (ks.map Value.bool))) (hn : d.ops < 1073741824) :
    Calls Try.prog 29 #[.pointer (some ⟨b, 0, none⟩), vk] w fun r w' => r = .returned (.int .i64 0) ∧ Mem w' (aD b (d.crash (kept ks)) :: Os) Zs := by
  obtain ⟨S, E, ⟨vs, vp, hI⟩, ⟨_, hE, _⟩, hd, hM⟩ := M.takez k hz
  exact (crash_any hI hn ks hE hd).mono fun r w' ⟨hr, h1, h2⟩ => ⟨hr, hM h2 (F' := S) ⟨vs, _, h1⟩ fun _ h => .inl h⟩
theorem len_M (M : Mem w (aD b d :: Os) Zs) : Calls Try.prog 21 #[.pointer (some ⟨b, 0, none⟩)] w fun e w' => e = .returned (.int .i64 (d.safe.length : Nat)) ∧ w = w' := by
  obtain ⟨S, vs, vp, hI⟩ := M.get
  exact len_any hI
theorem same_M {va vb : Value} {i : Nat} (M : Mem w Os Zs) (hw : ∃ F F', K.Sl w F 64 va i ((d.helds i).flatMap bvs) ∧ K.Sl w F' 64 vb i ((d.helds i).flatMap bvs)) (hd : d.ok) (hi : i ≤ 2048) :
    Calls Try.prog 30 #[va, vb] w fun e w' => e = .returned (.bool true) ∧ Mem w' Os Zs := by
  obtain ⟨F, F', h1, h2⟩ := hw
  have hl : (d.helds i).length = i := by simp [PD.helds]
  have h64 : ∀ x ∈ d.helds i, x.length = 64 := fun x hx => by
    obtain ⟨i, -, rfl⟩ := List.mem_map.1 hx; exact PD.blk_holds hd i
  have hS := same_any va vb (d.helds i) (d.helds i) w F F' (by rw [hl]; exact h1) (by rw [hl]; exact h2) h64 h64 (by omega)
  rw [beq_self_eq_true] at hS
  exact hS.mono fun e w' ⟨he, hb⟩ => ⟨he, M.below hb⟩

end Go.Proofs.Ythjlmkmijehnjaa
