/- Disks as parts of the memory: read, synced, crashed; two rows of blocks held against each other. No condition beyond sizes. -/
import Derived.Test.YthjlmkmijehnjaaDm
import Derived.Test.YthjlmkmijehnjaaEm
namespace Go.Proofs.Ythjlmkmijehnjaa
open Go.RowKit Go.Shelf K L E
set_option linter.unusedVariables false
set_option linter.unusedSimpArgs false

variable {w : World} {b : Nat} {d : PD} {Os Zs : List Ass}
theorem read_M (M : Mem w (aD b d :: Os) Zs) (hn : d.ops < 1073741823) (i : Int) (i1 : -9223372036854775808 ≤ i) (i2 : i ≤ 9223372036854775807) :
    Calls Try.prog 22 #[.pointer (some ⟨b, 0, none⟩), .int .i64 i] w fun r w' => r = .returned (.tuple #[.agg (bvs (d.read i).2.1).toArray, .int .i64 (d.read i).1]) ∧ Mem w' (aD b (d.read i).2.2 :: Os) Zs := by
  obtain ⟨S, hI, hM⟩ := M.take
  exact (read_any hI hn i i1 i2).mono fun r w' ⟨hr, h2, h3⟩ => ⟨hr, hM h3 h2 fun _ h => .inl h⟩
theorem sync_M (M : Mem w (aD b d :: Os) Zs) (hn : d.ops < 1073741823) :
    Calls Try.prog 26 #[.pointer (some ⟨b, 0, none⟩)] w fun r w' => r = .returned (.int .i64 d.sync.1) ∧ Mem w' (aD b d.sync.2 :: Os) Zs := by
  obtain ⟨S, hI, hM⟩ := M.take
  exact (sync_any hI hn).mono fun r w' ⟨hr, S', h1, h2, h3⟩ => ⟨hr, hM h3 h2 h1⟩
theorem crash_M {vk : Value} {ks : List Bool} (M : Mem w (aD b d :: Os) Zs) (k : Nat) (hz : Zs[k]? = some (zSl 1 vk ks.length (ks.map Value.bool))) (hn : d.ops < 1073741824) :
    Calls Try.prog 29 #[.pointer (some ⟨b, 0, none⟩), vk] w fun r w' => r = .returned (.int .i64 0) ∧ Mem w' (aD b (d.crash (kept ks)) :: Os) Zs := by
  obtain ⟨S, E, ⟨vs, vp, hI⟩, ⟨_, hE, _⟩, hd, hM⟩ := M.takez k hz
  exact (crash_any hI hn ks hE hd).mono fun r w' ⟨hr, h1, h2⟩ => ⟨hr, hM h2 (F' := S) ⟨vs, _, h1⟩ fun _ h => .inl h⟩
theorem len_M (M : Mem w (aD b d :: Os) Zs) : Calls Try.prog 21 #[.pointer (some ⟨b, 0, none⟩)] w fun e w' => e = .returned (.int .i64 (d.safe.length : Nat)) ∧ w = w' := by
  obtain ⟨S, vs, vp, hI⟩ := M.get
  exact len_any hI
theorem same_M {va vb : Value} {i : Nat} (M : Mem w Os Zs) (hw : ∃ F F', K.Sl w F 64 va i ((d.helds i).flatMap bvs) ∧ K.Sl w F' 64 vb i ((d.helds i).flatMap bvs)) (hd : d.ok) (hi : i ≤ 2048) :
    Calls Try.prog 30 #[va, vb] w fun e w' => e = .returned (.bool true) ∧ Mem w' Os Zs := by
  obtain ⟨F, F', h1, h2⟩ := hw
  have hl : (d.helds i).length = i := by simp [PD.helds]
  have h64 : ∀ x ∈ d.helds i, x.length = 64 := fun x hx => by
    obtain ⟨i, -, rfl⟩ := List.mem_map.1 hx; exact PD.blk_holds hd i
  have hS := same_any va vb (d.helds i) (d.helds i) w F F' (by rw [hl]; exact h1) (by rw [hl]; exact h2) h64 h64 (by omega)
  rw [beq_self_eq_true] at hS
  exact hS.mono fun e w' ⟨he, hb⟩ => ⟨he, M.below hb⟩

theorem copy_M (M : Mem w (aD b d :: Os) Zs) (hn : d.ops < 1073741824) : Calls Try.prog 32 #[.pointer (some ⟨b, 0, none⟩)] w fun r w' => ∃ c, r = .returned (.pointer (some ⟨c, 0, none⟩)) ∧ Mem w' (aD c d :: aD b d :: Os) Zs := by
  obtain ⟨S, hI⟩ := M.get
  exact (copy_any hI hn).mono fun r w' ⟨c, hr, h1, h2⟩ => ⟨c, hr, M.new h2 h1 fun _ h => h.1⟩
theorem crash_nil_M (M : Mem w (aD b d :: Os) Zs) (hn : d.ops < 1073741824) : Calls Try.prog 29 #[.pointer (some ⟨b, 0, none⟩), .slice none 0 0] w fun r w' => r = .returned (.int .i64 0) ∧ Mem w' (aD b (d.crash fun _ => false) :: Os) Zs := by
  obtain ⟨S, ⟨vs, vp, hI⟩, hM⟩ := M.take
  have := crash_any hI hn [] (Sl.nil w (fun _ => False) 1) (fun _ h => h.elim)
  rw [show kept [] = fun _ => false from funext fun i => by simp [kept]] at this
  exact this.mono fun r w' ⟨hr, h1, h2⟩ => ⟨hr, hM h2 (F' := S) ⟨vs, _, h1⟩ fun _ h => .inl h⟩
theorem heldS_M (M : Mem w (aD b d :: Os) Zs) (hn : d.ops + d.safe.length < 1073741823) (hd : d.dead = false) (hf : d.fails = 0) (h6 : d.safe.length = 6) :
    Calls Try.prog 15 #[.pointer (some ⟨b, 0, none⟩)] w fun e w' => ∃ A c, e = .returned (.slice A 6 c) ∧ Mem w' (aD b (d.done 6) :: Os) (zSl 64 (.slice A 6 c) 6 ((d.helds 6).flatMap bvs) :: Zs) := by
  refine (held_M M hn hd hf).mono fun e w' ⟨v, he, M'⟩ => ?_
  rw [h6] at M'
  obtain ⟨F, _, ⟨_, A, c, rfl, _⟩, _⟩ := M'.get
  exact ⟨A, c, he, M'.freeze⟩
theorem pendS_M (M : Mem w (aD b d :: Os) Zs) (hn : d.ops < 1073741824) : Calls Try.prog 28 #[.pointer (some ⟨b, 0, none⟩)] w fun e w' =>
    ∃ A c, e = .returned (.slice A d.pend.length c) ∧ Mem w' (aD b d :: Os) (zSl 1 (.slice A d.pend.length c) d.pend.length (d.pend.map fun p => .int .i64 (p.1 : Nat)) :: Zs) := by
  refine (pend_M M hn).mono fun e w' ⟨A, c, he, ho, hb⟩ => ⟨A, c, he, (M.newSl (by decide) hb ho (Nat.le_refl _)).freeze⟩

end Go.Proofs.Ythjlmkmijehnjaa
