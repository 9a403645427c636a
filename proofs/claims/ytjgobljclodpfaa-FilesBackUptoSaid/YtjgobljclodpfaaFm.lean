/- Files and operations in memory, for the engine; the reference's Do and Apply. No condition beyond sizes. -/
import Derived.Test.YtjgobljclodpfaaFiP
import Derived.Test.YtjgobljclodpfaaFr5
import Derived.Test.YtjgobljclodpfaaFr6
import Derived.Test.YtjgobljclodpfaaEd4
import Derived.Test.YtjgobljclodpfaaMf
import Derived.Test.YtjgobljclodpfaaTab
import Derived.Test.YtjgobljclodpfaaFiW
namespace Go.Proofs.Ytjgobljclodpfaa
open Go.RowKit Go.Shelf K L E
set_option linter.unusedVariables false
set_option linter.unusedSimpArgs false

theorem fs_all {w : World} {F : Nat → Prop} {v : Value} {es : List FE} (h : Fs w F v es) : FsF w (fun b => b < w.heap.size) v es := ⟨h.1.imp (fun b hb _ => hb) (by decide), h.2⟩
theorem FsF.apart {w : World} {F : Nat → Prop} {v : Value} {es : List FE} {q e n c : Nat} {A : Option Addr} (h : FsF w F v es) (hq : w.heap[q]? = some (.cells #[.slice A n c] e (0, 0))) : FsF w (fun b => F b ∧ b ≠ q) v es := by
  refine ⟨sl_apart h.1 (by decide) hq ?_, fun x hx => sl_apart (h.2 x hx) (by decide) hq ?_⟩
  · intro y hy
    cases es with
    | nil => simp at hy
    | cons x es => simp [FE.cells] at hy; rw [← hy]; simp
  · intro y hy
    simp only [bvs, List.getElem?_map, Option.map_eq_some_iff] at hy
    obtain ⟨z, -, rfl⟩ := hy
    simp [bv]
/-- Files that nobody writes. -/
def zFs (v : Value) (es : List FE) : Ass := ⟨fun w F => FsF w F v es ∧ ∀ b, F b → b < w.heap.size, fun h => h.2,
  fun h hs => ⟨⟨h.1.1.keep (by decide) fun b _ hF => hs.block b hF, fun e he => Sl.keep (h.1.2 e he) (by decide) fun b _ hF => hs.block b hF⟩, fun b hb => Nat.lt_of_lt_of_le (h.2 b hb) hs.size⟩⟩
/-- Operations that nobody writes. -/
def zOps (v : Value) (os : List OE) : Ass := ⟨fun w F => OpsF w F v os ∧ ∀ b, F b → b < w.heap.size, fun h => h.2,
  fun h hs => ⟨⟨h.1.1.keep (by decide) fun b _ hF => hs.block b hF, fun e he => Sl.keep (h.1.2 e he) (by decide) fun b _ hF => hs.block b hF⟩, fun b hb => Nat.lt_of_lt_of_le (h.2 b hb) hs.size⟩⟩
section
variable {w : World} {Os Zs : List Ass} {v : Value} {es : List FE} {os : List OE}
theorem E.Mem.fs (M : Mem w Os Zs) (k : Nat) (hz : Zs[k]? = some (zFs v es)) : ∃ F, Fs w F v es := by obtain ⟨F, h, _⟩ := M.z k hz; exact ⟨F, h.fs⟩
theorem E.Mem.ops (M : Mem w Os Zs) (k : Nat) (hz : Zs[k]? = some (zOps v os)) : ∃ F, OpsF w F v os := by obtain ⟨F, h, _⟩ := M.z k hz; exact ⟨F, h⟩
theorem zfs_of {F : Nat → Prop} (h : FsF w F v es) : (zFs v es).p w (fun b => F b ∧ b < w.heap.size) := ⟨⟨h.1.imp (fun b hb hF => ⟨hF, hb⟩) (by decide), fun e he => Sl.imp (h.2 e he) (fun b hb hF => ⟨hF, hb⟩) (by decide)⟩, fun b hb => hb.2⟩
theorem zops_of {F : Nat → Prop} (h : OpsF w F v os) : (zOps v os).p w (fun b => F b ∧ b < w.heap.size) := ⟨⟨h.1.imp (fun b hb hF => ⟨hF, hb⟩) (by decide), fun e he => Sl.imp (h.2 e he) (fun b hb hF => ⟨hF, hb⟩) (by decide)⟩, fun b hb => hb.2⟩
/-- What came in. -/
theorem E.Mem.inFs {F : Nat → Prop} (M : Mem w Os Zs) (k : Nat) (hz : Zs[k]? = some (zPre w)) (h : Fs w F v es) : Mem w Os (zFs v es :: Zs) :=
  M.part k hz fun G hG => ⟨_, zfs_of (fs_all h), fun b hb => (hG.1 b).2 hb.2⟩
theorem E.Mem.inOps {F : Nat → Prop} (M : Mem w Os Zs) (k : Nat) (hz : Zs[k]? = some (zPre w)) (h : OpsF w F v os) : Mem w Os (zOps v os :: Zs) :=
  M.part k hz fun G hG => ⟨_, zops_of h, fun b hb => (hG.1 b).2 hb.2⟩
theorem own_fs : ∀ (Os : List Ass) (G F : Nat → Prop), (∀ a ∈ Os, ∃ q A n c, a = aBox q [.slice A n c]) → FsF w F v es → Own w G Os → ∃ E, FsF w E v es ∧ (∀ b, E b → F b) ∧ Own w (fun b => G b ∨ E b) Os
  | [], G, F, _, h, _ => ⟨F, h, fun _ h => h, trivial⟩
  | a :: l, G, F, ha, h, ⟨H, h1, h2, h3⟩ => by
    obtain ⟨q, A, n, c, rfl⟩ := ha a (List.mem_cons_self ..)
    obtain ⟨t, hb⟩ := h1.2
    obtain ⟨E, e1, e2, e3⟩ := own_fs l _ _ (fun x hx => ha x (List.mem_cons_of_mem _ hx)) (h.apart hb) h3
    refine ⟨E, e1, fun b hb => (e2 b hb).1, H, h1, fun b hb hg => ?_, e3.imp fun b hb => ?_⟩
    · rcases hg with hg | hg
      · exact h2 b hb hg
      · exact (e2 b hg).2 ((h1.1 b).1 hb)
    · rcases hb with (hb | hb) | hb
      · exact .inl (.inl hb)
      · exact .inr hb
      · exact .inl (.inr hb)
/-- Files beside boxes of slices. -/
theorem E.Mem.addFs {F : Nat → Prop} (M : Mem w Os Zs) (ha : ∀ a ∈ Os, ∃ q A n c, a = aBox q [.slice A n c]) (h : Fs w F v es) : Mem w Os (zFs v es :: Zs) := by
  obtain ⟨G, h1, h2, h3⟩ := M
  obtain ⟨E, e1, e2, e3⟩ := own_fs Os G _ ha (fs_all h) h3
  refine ⟨_, fun b hb => hb.elim (h1 b) (e2 b), fun z hz => ?_, e3⟩
  rcases List.mem_cons.1 hz with rfl | hz
  · exact ⟨E, ⟨e1, e2⟩, fun b hb => .inr hb⟩
  · obtain ⟨F, hF, hs⟩ := h2 z hz; exact ⟨F, hF, fun b hb => .inl (hs b hb)⟩
end
theorem boxes1 {q n c : Nat} {A : Option Addr} : ∀ a ∈ [aBox q [.slice A n c]], ∃ q A n c, a = aBox q [.slice A n c] := fun a ha => ⟨q, A, n, c, List.mem_singleton.1 ha⟩
theorem boxes_cons {q n c : Nat} {A : Option Addr} {l : List Ass} (h : ∀ a ∈ l, ∃ q A n c, a = aBox q [.slice A n c]) : ∀ a ∈ aBox q [.slice A n c] :: l, ∃ q A n c, a = aBox q [.slice A n c] := fun a ha => (List.mem_cons.1 ha).elim (fun h => ⟨q, A, n, c, h⟩) (h a)
theorem rng_bel {w wq : World} {b o : Nat} {cs : List Value} (hb : Below w.heap.size w wq) (h : w.rangeAt b o cs) : wq.rangeAt b o cs := fun j u hu =>
  (World.cell?_of_block (hb.block b (World.block_lt_of_cell? w _ (h j u hu)))).trans (h j u hu)
theorem ops_row {w : World} {F : Nat → Prop} {A : Option Addr} {n c : Nat} {os : List OE} (h : Sl w F 5 (.slice A n c) os.length (os.flatMap OE.cells)) (i : Nat) (hi : i < os.length) : ∃ b o, A = some ⟨b, o, none⟩ ∧ w.rangeAt b (o + i * 5) os[i].cells := by
  obtain ⟨b, o, hA, -, -, hc⟩ := row_cells OE.len (by decide) h i hi
  exact ⟨b, o, hA, fun j u hu => hc j u hu⟩
theorem build_fs0 (w : World) : (Instr.build 24 #[]).run Try.prog w = .ok (.agg #[.slice none 0 0]) w := by kernel_rfl

theorem rdo_any (o : FO) (vb v : Value) (es : List FE) (w : World) (F F2 : Nat → Prop) (h : Fs w F v es) (hk : okFs (fls es) = true) (hvb : Bs w F2 vb o.bytes) (ho : o.ok) :
    Calls Try.prog 37 #[.agg #[v], .agg #[.int .i64 o.kind, .string ⟨o.name.toArray⟩, .string ⟨o.new.toArray⟩, .int .i64 o.at_, vb]] w (RDone w (fls es) o) := by
  obtain ⟨kind, name, new, at_, bytes⟩ := o
  obtain ⟨hs1, hs2, hs3, ha1, ha2⟩ := ho
  dsimp only at *
  by_cases h1 : kind < 1
  · exact rdo_bad1 kind name new at_ bytes vb v es w F F2 h hk hvb hs1 hs2 hs3 ha1 ha2 h1
  by_cases h2 : 4 < kind
  · exact rdo_bad2 kind name new at_ bytes vb v es w F F2 h hk hvb hs1 hs2 hs3 ha1 ha2 h2
  cases hn : nmOk name
  · exact rdo_bad3 kind name new at_ bytes vb v es w F F2 h hk hvb hs1 hs2 hs3 ha1 ha2 (by omega) (by omega) hn
  obtain rfl | rfl | rfl | rfl : kind = 1 ∨ kind = 2 ∨ kind = 3 ∨ kind = 4 := by omega
  · exact rdo_1 name new at_ bytes vb v es w F F2 h hk hvb hs1 hs2 hs3 ha1 ha2 hn _ rfl
  · cases ht : there (fls es) name
    · exact rdo_none2 name new at_ bytes vb v es w F F2 h hk hvb hs1 hs2 hs3 ha1 ha2 hn ht
    · exact rdo_2 name new at_ bytes vb v es w F F2 h hk hvb hs1 hs2 hs3 ha1 ha2 hn ht
  · cases hn2 : nmOk new
    · exact rdo_bad4 3 name new at_ bytes vb v es w F F2 h hk hvb hs1 hs2 hs3 ha1 ha2 rfl hn hn2
    · cases ht : there (fls es) name
      · exact rdo_none3 name new at_ bytes vb v es w F F2 h hk hvb hs1 hs2 hs3 ha1 ha2 hn hn2 ht
      · exact rdo_3 name new at_ bytes vb v es w F F2 h hk hvb hs1 hs2 hs3 ha1 ha2 hn hn2 ht
  · cases ht : there (fls es) name
    · exact rdo_none4 name new at_ bytes vb v es w F F2 h hk hvb hs1 hs2 hs3 ha1 ha2 hn ht
    · exact rdo_4 name new at_ bytes vb v es w F F2 h hk hvb hs1 hs2 hs3 ha1 ha2 hn ht

/-- What the reference's operations make of files. -/
def rap (l : List Fl) (os : List FO) : Int × List Fl := if 64 < os.length then (3, []) else doAll l os

set_option maxRecDepth 100000 in
set_option maxHeartbeats 4000000 in
theorem rapply_any (v vl : Value) (es : List FE) (os : List OE) (w : World) (F G : Nat → Prop) (h : Fs w F v es) (ho : OpsF w G vl os) (hk : okFs (fls es) = true) (hok : ∀ o ∈ os, o.1.ok) :
    Calls Try.prog 15 #[.agg #[v], vl] w fun e w' => ∃ v' es', e = .returned (.tuple #[.agg #[v'], .int .i64 (rap (fls es) (ops os)).1]) ∧ fls es' = (rap (fls es) (ops os)).2 ∧ Fs w' (fun _ => True) v' es' ∧ Below w.heap.size w w' := by
  obtain ⟨A, c, rfl, l1, l2⟩ := fs_form h
  obtain ⟨Ao, co, rfl, m1, m2⟩ := ops_form ho.ops
  have M := ((Mem.start w).inOps 0 rfl ho).inFs 1 rfl h
  refine enter Try.func15 rfl Try.ntmps15 rfl rfl ?_
  (repeat (first | (refine WR.id ?_; first | refine WR.nil ?_ | refine WR.s ?_ | refine WR.g ?_) | (refine W.id ?_; first | refine W.seq fun _ _ => ?_ | refine W.region ?_ | refine W.s ?_ | refine W.e ?_) | (refine Ends.id ?_; first | refine Ends.seq (by assumption) ?_ | refine Ends.s ?_)))
  refine WR.box rfl (cs := #[.slice A es.length c]) rfl rfl fun w1 hb1 hx1 hs1 => ?_
  replace M := M.newBox (cs := [.slice A es.length c]) hb1 hx1
  (repeat (first | (refine WR.id ?_; first | refine WR.nil ?_ | refine WR.s ?_ | refine WR.g ?_) | (refine W.id ?_; first | refine W.seq fun _ _ => ?_ | refine W.region ?_ | refine W.s ?_ | refine W.e ?_) | (refine Ends.id ?_; first | refine Ends.seq (by assumption) ?_ | refine Ends.s ?_)))
  refine WR.alloc (by rfl) fun w2 hb2 hx2 hs2 => ?_
  replace M := M.newBox (cs := [.slice none 0 0]) hb2 hx2
  generalize w1.heap.size = q4 at M ⊢
  by_cases h64 : 64 < os.length
  · have hR : rap (fls es) (ops os) = (3, []) := by unfold rap; rw [if_pos (by rw [ops_len]; exact h64)]
    (repeat (first | (refine WR.id ?_; first | refine WR.nil ?_ | refine WR.s ?_ | refine WR.g ?_) | (refine W.id ?_; first | refine W.seq fun _ _ => ?_ | refine W.region ?_ | refine W.s ?_ | refine W.e ?_) | (refine Ends.id ?_; first | refine Ends.seq (by assumption) ?_ | refine Ends.s ?_)))
    refine WR.buildRun (vs := #[]) (fun a ha => by simp) rfl (build_fs0 _) ?_
    refine WR.storeAgg (cs' := [.slice none 0 0]) M.box (by rfl) (by rfl) (by rfl) (by rfl) (by intro u hu; obtain rfl := List.mem_singleton.1 hu; rfl) fun w3 hu3 hx3 hs3 => ?_
    replace M := M.setBox hu3 hx3
    (repeat (first | (refine WR.id ?_; first | refine WR.nil ?_ | refine WR.s ?_ | refine WR.g ?_) | (refine W.id ?_; first | refine W.seq fun _ _ => ?_ | refine W.region ?_ | refine W.s ?_ | refine W.e ?_) | (refine Ends.id ?_; first | refine Ends.seq (by assumption) ?_ | refine Ends.s ?_)))
    have hL := M.box.load (t := 24) (P := Try.prog) rfl
    exact Ends.retCT rfl rfl rfl hL ⟨_, [], by rw [hR], by rw [hR]; rfl, Fs.nil _ _, M.pre 2 rfl⟩
  · have hR : rap (fls es) (ops os) = doAll (fls es) (ops os) := by unfold rap; rw [if_neg (by rw [ops_len]; exact h64)]
    (repeat (first | (refine WR.id ?_; first | refine WR.nil ?_ | refine WR.s ?_ | refine WR.g ?_) | (refine W.id ?_; first | refine W.seq fun _ _ => ?_ | refine W.region ?_ | refine W.s ?_ | refine W.e ?_) | (refine Ends.id ?_; first | refine Ends.seq (by assumption) ?_ | refine Ends.s ?_)))
    refine W.loop (X := Nat × Option Addr × Nat × List FE) (fun x => [(1, .slice Ao os.length co), (2, .pointer (some ⟨w.heap.size, 0, none⟩)), (4, .pointer (some ⟨q4, 0, none⟩)), (6, .int .i64 (x.1 : Nat))])
      (fun x wr => x.1 ≤ os.length ∧ okFs (fls x.2.2.2) = true ∧ doAll (fls x.2.2.2) ((ops os).drop x.1) = doAll (fls es) (ops os) ∧ Mem wr [aBox q4 [.slice none 0 0], aBox w.heap.size [.slice x.2.1 x.2.2.2.length x.2.2.1]] [zFs (.slice x.2.1 x.2.2.2.length x.2.2.1) x.2.2.2, zOps (.slice Ao os.length co) os, zPre w]) (fun x => os.length - x.1)
      (0, A, c, es) (by repeat (first | exact .nil | refine .cons rfl ?_)) ⟨Nat.zero_le _, hk, rfl, M⟩ ?_
    clear M hk
    rintro ⟨j, A, c, er⟩ wr ⟨hj, hk, hda, M⟩ K hK
    dsimp only at hj hk hda M
    dsimp only
    have hlen := ok_len hk
    rw [fls_len] at hlen
    (repeat (first | (refine WR.id ?_; first | refine WR.nil ?_ | refine WR.s ?_ | refine WR.g ?_) | (refine W.id ?_; first | refine W.seq fun _ _ => ?_ | refine W.region ?_ | refine W.s ?_ | refine W.e ?_) | (refine Ends.id ?_; first | refine Ends.seq (by assumption) ?_ | refine Ends.s ?_)))
    refine W.condP (by rfl) (fun hlt => ?_) (fun hlt => ?_)
    · have hjl : j < os.length := by omega
      obtain ⟨Fz, hz⟩ := M.ops 1 rfl
      obtain ⟨b, o, hA, hrng⟩ := ops_row hz.1 j hjl
      subst hA
      have hmem := List.getElem_mem hjl
      have hoky := hok _ hmem
      obtain ⟨Ay, cy, hvy, -⟩ := (hz.2 _ hmem).open_
      have hzb : ∀ {u : World} {F : Nat → Prop}, (zOps (.slice (some ⟨b, o, none⟩) os.length co) os).p u F → ∃ F, Bs u F os[j].2 os[j].1.bytes := fun h => ⟨_, h.1.2 _ hmem⟩
      rw [ops_drop os j hjl] at hda
      generalize os[j] = y at *
      obtain ⟨y, vb⟩ := y
      dsimp only at hoky hvy hda hzb
      subst hvy
      have hB := M.swap.box
      clear hz
      (repeat (first | (refine WR.id ?_; first | refine WR.nil ?_ | refine WR.s ?_ | refine WR.g ?_) | (refine W.id ?_; first | refine W.seq fun _ _ => ?_ | refine W.region ?_ | refine W.s ?_ | refine W.e ?_) | (refine Ends.id ?_; first | refine Ends.seq (by assumption) ?_ | refine Ends.s ?_)))
      apply W.drawsLate 10 12 _ [8, 11] [[], [], [], [1, 2], [3], [0, 4], [5], [6], [6], []] [[8]] [9, 7]
        [is _, is _, is _, is _, is _, (fun u v => ∃ v' es', v = .tuple #[.agg #[v'], .int .i64 (doF (fls er) y).1] ∧ ((doF (fls er) y).1 = 0 → fls es' = (doF (fls er) y).2) ∧ Fs u (fun _ => True) v' es'), (fun u v => ∃ v' es', v = .tuple #[.agg #[v'], .int .i64 (doF (fls er) y).1] ∧ ((doF (fls er) y).1 = 0 → fls es' = (doF (fls er) y).2) ∧ Fs u (fun _ => True) v' es'), (fun u v => ∃ v' es', v = .agg #[v'] ∧ ((doF (fls er) y).1 = 0 → fls es' = (doF (fls er) y).2) ∧ Fs u (fun _ => True) v' es'), is _, (fun u v => ∃ g, v = .pointer (some ⟨g, 0, none⟩) ∧ wr.heap.size ≤ g ∧ Box u g [.slice none 0 0]), fun _ _ => True, is _] (by kernel_rfl) (by rfl) (by kernel_rfl) (by rfl) (by kernel_rfl) (by kernel_rfl) (by kernel_rfl) (by kernel_rfl) (by kernel_rfl) ⟨stab_is _, stab_is _, stab_is _, stab_is _, stab_is _, (fun _ _ _ ⟨v', es', e, h1, h2⟩ hb => ⟨v', es', e, h1, h2.below hb⟩), (fun _ _ _ ⟨v', es', e, h1, h2⟩ hb => ⟨v', es', e, h1, h2.below hb⟩), (fun _ _ _ ⟨v', es', e, h1, h2⟩ hb => ⟨v', es', e, h1, h2.below hb⟩), stab_is _, (fun _ _ _ ⟨g, e, q1, q2⟩ hb => ⟨g, e, q1, q2.below hb⟩), fun _ _ _ _ _ => trivial, stab_is _, trivial⟩ ?step1 ?stepb1 ?hp1 ?fin1
      case step1 =>
        refine ⟨fun wq hbq Kq hKq => ?_, fun wq hbq Kq hKq => ?_, fun wq hbq Kq hKq => ?_, fun wq hbq Kq hKq => ?_, fun wq hbq Kq hKq => ?_, fun wq hbq Kq hKq => ?_, fun wq hbq Kq hKq => ?_, fun wq hbq Kq hKq => ?_, fun wq hbq Kq hKq => ?_, fun wq hbq Kq hKq => ?_, trivial⟩
        · have Mq := M.below hbq; have hB := Mq.swap.box; have hr := rng_bel hbq hrng
          refine WR.s ?_; refine WR.nil ?_; exact Ends.one hKq rfl rfl (Below.refl _ _)
        · have Mq := M.below hbq; have hB := Mq.swap.box; have hr := rng_bel hbq hrng
          refine WR.s ?_; refine WR.nil ?_; exact Ends.one hKq rfl rfl (Below.refl _ _)
        · have Mq := M.below hbq; have hB := Mq.swap.box; have hr := rng_bel hbq hrng
          refine WR.s ?_; refine WR.nil ?_; exact Ends.one hKq rfl rfl (Below.refl _ _)
        · rintro _ rfl _ rfl
          have Mq := M.below hbq; have hB := Mq.swap.box; have hr := rng_bel hbq hrng
          refine WR.indexAddr (j := j) (by rfl) (by rfl) (by rfl) (by omega) ?_; refine WR.nil ?_; exact Ends.one hKq rfl rfl (Below.refl _ _)
        · rintro _ rfl
          have Mq := M.below hbq; have hB := Mq.swap.box; have hr := rng_bel hbq hrng
          refine WR.loadRow (by rfl) hr (by rfl) (by rfl) ?_; refine WR.nil ?_; exact Ends.one hKq rfl rfl (Below.refl _ _)
        · rintro _ rfl _ rfl
          have Mq := M.below hbq; have hB := Mq.swap.box; have hr := rng_bel hbq hrng
          obtain ⟨_, hf⟩ := Mq.fs 0 rfl; obtain ⟨_, hy, _⟩ := Mq.z 1 rfl; obtain ⟨_, hb5⟩ := hzb ⟨hy, by assumption⟩; refine WR.call (by rfl) (by rfl) (rdo_any y _ _ er _ _ _ hf hk hb5 hoky) ?_; rintro _ wy ⟨v', es', rfl, h1, h2, hb⟩; refine ⟨_, rfl, ?_⟩; refine WR.nil ?_; exact Ends.one hKq rfl ⟨v', es', rfl, h1, h2⟩ hb 
        · rintro v5 h5
          have Mq := M.below hbq; have hB := Mq.swap.box; have hr := rng_bel hbq hrng
          obtain ⟨v', es', rfl, h1, h2⟩ := h5; refine WR.move rfl rfl ?_; refine WR.nil ?_; exact Ends.one hKq rfl ⟨v', es', rfl, h1, h2⟩ (Below.refl _ _) 
        · rintro v6 h6
          have Mq := M.below hbq; have hB := Mq.swap.box; have hr := rng_bel hbq hrng
          obtain ⟨v', es', rfl, h1, h2⟩ := h6; refine WR.extract rfl rfl rfl ?_; refine WR.nil ?_; exact Ends.one hKq rfl ⟨v', es', rfl, h1, h2⟩ (Below.refl _ _) 
        · rintro v6 h6
          have Mq := M.below hbq; have hB := Mq.swap.box; have hr := rng_bel hbq hrng
          obtain ⟨v', es', rfl, h1, h2⟩ := h6; refine WR.extract rfl rfl rfl ?_; refine WR.nil ?_; exact Ends.one hKq rfl rfl (Below.refl _ _)
        · have Mq := M.below hbq; have hB := Mq.swap.box; have hr := rng_bel hbq hrng
          refine WR.alloc (by rfl) fun wy hby hxy _ => ?_; refine WR.nil ?_; exact Ends.one hKq rfl ⟨_, rfl, hbq.size, hxy⟩ hby 
      case stepb1 =>
        refine ⟨fun wq hbq Kq hKq => ?_, trivial⟩
        · rintro _ rfl
          have Mq := M.below hbq; have hB := Mq.swap.box; have hr := rng_bel hbq hrng
          refine WR.s ?_; refine WR.nil ?_; exact Ends.one hKq rfl rfl (Below.refl _ _)
      case hp1 =>
        intro wq hbq
        rintro v9 h9 v7 h7
        have Mq := M.below hbq; have hB := Mq.swap.box; have hr := rng_bel hbq hrng
        obtain ⟨v', es', rfl, h1, h2⟩ := h7; obtain ⟨A5, c5, rfl, -, -⟩ := fs_form h2; obtain ⟨g, rfl, hg, hx⟩ := h9; exact Sk.agg (cs' := [.slice A5 es'.length c5]) hx (by rfl) (by rfl) (by rfl) (by rfl) (by intro u hu; obtain rfl := List.mem_singleton.1 hu; rfl)
      intro wq hbq
      rintro _ rfl _ rfl _ rfl _ rfl _ rfl v5 h5 v6 h6 v7 h7 _ rfl v9 h9 _ rfl
      have Mq := M.below hbq; have hB := Mq.swap.box; have hr := rng_bel hbq hrng
      obtain ⟨v', es', rfl, d1, d2⟩ := h7
      obtain ⟨A5, c5, rfl, -, -⟩ := fs_form d2
      obtain ⟨g, rfl, hg, hx⟩ := h9
      replace M := (M.new hbq (a := aBox g [.slice none 0 0]) (F := fun x => x = g) ⟨fun _ => Iff.rfl, hx⟩ (fun x hx => by omega)).addFs (boxes_cons (boxes_cons boxes1)) d2
      refine Sk.storeAgg (cs' := [.slice A5 es'.length c5]) M.box (by rfl) (by rfl) (by rfl) (by rfl) (by intro u hu; obtain rfl := List.mem_singleton.1 hu; rfl) fun w8 hu8 hx8 hs8 => ?_
      replace M := M.setBox hu8 hx8
      clear hx hx8 d2 hB
      have hB7 := M.box
      by_cases he : (doF (fls er) y).1 = 0
      · (repeat (first | (refine WR.id ?_; first | refine WR.nil ?_ | refine WR.s ?_ | refine WR.g ?_) | (refine W.id ?_; first | refine W.seq fun _ _ => ?_ | refine W.region ?_ | refine W.s ?_ | refine W.e ?_) | (refine Ends.id ?_; first | refine Ends.seq (by assumption) ?_ | refine Ends.s ?_)))
        refine WR.storeAgg (cs' := [.slice A5 es'.length c5]) M.third.box (by rfl) (by rfl) (by rfl) (by rfl) (by intro u hu; obtain rfl := List.mem_singleton.1 hu; rfl) fun w9 hu9 hx9 hs9 => ?_
        replace M := M.third.setBox hu9 hx9
        clear hB7
        (repeat (first | (refine WR.id ?_; first | refine WR.nil ?_ | refine WR.s ?_ | refine WR.g ?_) | (refine W.id ?_; first | refine W.seq fun _ _ => ?_ | refine W.region ?_ | refine W.s ?_ | refine W.e ?_) | (refine Ends.id ?_; first | refine Ends.seq (by assumption) ?_ | refine Ends.s ?_)))
        exact Ends.round hK (j + 1, A5, c5, es') (by repeat (first | exact .nil | refine .cons rfl ?_)) ⟨by dsimp only; omega, by dsimp only; rw [d1 he]; exact ok_doF hk he, by dsimp only; rw [d1 he, ← doAll_cons_ok he]; exact hda, (M.third.first 2).subz (by intro z hz; simp only [List.mem_cons, List.not_mem_nil, or_false] at hz ⊢; grind)⟩ (by dsimp only; omega)
      · (repeat (first | (refine WR.id ?_; first | refine WR.nil ?_ | refine WR.s ?_ | refine WR.g ?_) | (refine W.id ?_; first | refine W.seq fun _ _ => ?_ | refine W.region ?_ | refine W.s ?_ | refine W.e ?_) | (refine Ends.id ?_; first | refine Ends.seq (by assumption) ?_ | refine Ends.s ?_)))
        refine WR.buildRun (vs := #[]) (fun a ha => by simp) rfl (build_fs0 _) ?_
        (repeat (first | (refine WR.id ?_; first | refine WR.nil ?_ | refine WR.s ?_ | refine WR.g ?_) | (refine W.id ?_; first | refine W.seq fun _ _ => ?_ | refine W.region ?_ | refine W.s ?_ | refine W.e ?_) | (refine Ends.id ?_; first | refine Ends.seq (by assumption) ?_ | refine Ends.s ?_)))
        refine WR.storeAgg (cs' := [.slice none 0 0]) M.swap.box (by rfl) (by rfl) (by rfl) (by rfl) (by intro u hu; obtain rfl := List.mem_singleton.1 hu; rfl) fun w9 hu9 hx9 hs9 => ?_
        replace M := M.swap.setBox hu9 hx9
        clear hB7
        (repeat (first | (refine WR.id ?_; first | refine WR.nil ?_ | refine WR.s ?_ | refine WR.g ?_) | (refine W.id ?_; first | refine W.seq fun _ _ => ?_ | refine W.region ?_ | refine W.s ?_ | refine W.e ?_) | (refine Ends.id ?_; first | refine Ends.seq (by assumption) ?_ | refine Ends.s ?_)))
        have hL := M.box.load (t := 24) (P := Try.prog) rfl
        exact Ends.retCT rfl rfl rfl hL ⟨_, [], by rw [hR, ← hda, doAll_cons_no he], by rw [hR, ← hda, doAll_cons_no he]; rfl, Fs.nil _ _, M.pre 3 rfl⟩
    · obtain rfl : j = os.length := by omega
      rw [List.drop_of_length_le (by rw [ops_len]; omega)] at hda
      have hB := M.swap.box
      (repeat (first | (refine WR.id ?_; first | refine WR.nil ?_ | refine WR.s ?_ | refine WR.g ?_) | (refine W.id ?_; first | refine W.seq fun _ _ => ?_ | refine W.region ?_ | refine W.s ?_ | refine W.e ?_) | (refine Ends.id ?_; first | refine Ends.seq (by assumption) ?_ | refine Ends.s ?_)))
      refine WR.storeAgg (cs' := [.slice A er.length c]) M.box (by rfl) (by rfl) (by rfl) (by rfl) (by intro u hu; obtain rfl := List.mem_singleton.1 hu; rfl) fun w9 hu9 hx9 hs9 => ?_
      replace M := M.setBox hu9 hx9
      clear hB
      (repeat (first | (refine WR.id ?_; first | refine WR.nil ?_ | refine WR.s ?_ | refine WR.g ?_) | (refine W.id ?_; first | refine W.seq fun _ _ => ?_ | refine W.region ?_ | refine W.s ?_ | refine W.e ?_) | (refine Ends.id ?_; first | refine Ends.seq (by assumption) ?_ | refine Ends.s ?_)))
      have hL := M.box.load (t := 24) (P := Try.prog) rfl
      obtain ⟨_, hf⟩ := M.fs 0 rfl
      exact Ends.retCT rfl rfl rfl hL ⟨_, er, by rw [hR, ← hda]; rfl, by rw [hR, ← hda]; rfl, hf.imp_all, M.pre 2 rfl⟩
end Go.Proofs.Ytjgobljclodpfaa
namespace Go.Proofs.Ytjgobljclodpfaa
open Go.RowKit Go.Shelf K L E
set_option linter.unusedVariables false
set_option linter.unusedSimpArgs false

theorem Try.elOp : Elem Try.prog 25 37 5 72 (.agg #[.int .i64 0, .string ⟨#[]⟩, .string ⟨#[]⟩, .int .i64 0, .slice none 0 0]) := ⟨Try.underlying25, by kernel_rfl, rfl, by decide⟩
theorem applyF_rap {l : List Fl} {os : List FO} (h : okFs l = true) : applyF l os = rap l os := by unfold applyF rap; rw [if_neg (by rw [h]; decide)]
theorem ops_one {w : World} {F : Nat → Prop} {v : Value} {os : List OE} (h : OpsF w F v os) : ∀ u ∈ os.flatMap OE.cells, u.oneCell' = true := by
  intro u hu
  obtain ⟨e, he, hu⟩ := List.mem_flatMap.1 hu
  obtain ⟨A, c, hv, -⟩ := (h.2 e he).open_
  simp only [OE.cells, List.mem_cons, List.not_mem_nil, or_false] at hu
  rcases hu with rfl | rfl | rfl | rfl | rfl
  · rfl
  · rfl
  · rfl
  · rfl
  · rw [hv]; rfl
theorem one1 {A : Option Addr} {n c : Nat} : ∀ u ∈ [Value.slice A n c], u.oneCell' = true := by intro u hu; obtain rfl := List.mem_singleton.1 hu; rfl
theorem E.Mem.newFs {w w' : World} {Os Zs : List Ass} {v : Value} {es : List FE} (M : Mem w Os Zs) (hb : Below w.heap.size w w') (h : FsF w' (w.heap.size ≤ ·) v es) : Mem w' Os (zFs v es :: Zs) :=
  (M.new hb (zfs_of h) fun b hb => hb.1).freeze

set_option maxRecDepth 100000 in
set_option maxHeartbeats 4000000 in
theorem filesApplies_walk (u vl : Value) (es : List FE) (os : List OE) (w : World) (h : FsF w (· < w.heap.size) u es) (ho : OpsF w (· < w.heap.size) vl os) (hc : cost (fls es) + es.length ≤ 1048576) (hok : ∀ o ∈ os, o.1.ok) :
    Calls Try.prog 3 #[.agg #[u], vl] w fun e w' => e = .returned (.bool true) ∧ Below w.heap.size w w' := by
  obtain ⟨A, c, rfl, l1, l2⟩ := fs_form h.fs
  obtain ⟨Ao, co, rfl, m1, m2⟩ := ops_form ho.ops
  have hbl : ∀ e ∈ es, e.1.bytes.length ≤ cost (fls es) := by
    intro e he
    obtain ⟨i, hi, rfl⟩ := List.getElem_of_mem he
    have := cost_at es i hi
    omega
  have M := ((Mem.start w).inOps 0 rfl ho).inFs 1 rfl h.fs
  refine enter Try.func3 rfl Try.ntmps3 rfl rfl ?_
  (repeat (first | (refine WR.id ?_; first | refine WR.nil ?_ | refine WR.s ?_ | refine WR.g ?_) | (refine W.id ?_; first | refine W.seq fun _ _ => ?_ | refine W.region ?_ | refine W.s ?_ | refine W.e ?_) | (refine Ends.id ?_; first | refine Ends.seq (by assumption) ?_ | refine Ends.s ?_)))
  refine WR.box rfl (cs := #[.slice A es.length c]) rfl rfl fun w1 hb1 hx1 hs1 => ?_
  replace M := M.newBox (cs := [.slice A es.length c]) hb1 hx1
  clear hx1
  (repeat (first | (refine WR.id ?_; first | refine WR.nil ?_ | refine WR.s ?_ | refine WR.g ?_) | (refine W.id ?_; first | refine W.seq fun _ _ => ?_ | refine W.region ?_ | refine W.s ?_ | refine W.e ?_) | (refine Ends.id ?_; first | refine Ends.seq (by assumption) ?_ | refine Ends.s ?_)))
  refine WR.call rfl rfl (wakes_any _) ?_
  rintro _ w2 ⟨rfl, hb⟩
  refine ⟨_, rfl, ?_⟩
  replace M := M.below hb
  have hB := M.box
  obtain ⟨_, hf⟩ := M.fs 0 rfl
  (repeat (first | (refine WR.id ?_; first | refine WR.nil ?_ | refine WR.s ?_ | refine WR.g ?_) | (refine W.id ?_; first | refine W.seq fun _ _ => ?_ | refine W.region ?_ | refine W.s ?_ | refine W.e ?_) | (refine Ends.id ?_; first | refine Ends.seq (by assumption) ?_ | refine Ends.s ?_)))
  refine WR.call rfl rfl (large_any _ _ _ _ hf) ?_
  rintro _ w3 ⟨rfl, hb⟩
  refine ⟨_, rfl, ?_⟩
  replace M := M.below hb
  clear hB hf
  cases big (fls es) with
  | true =>
    (repeat (first | (refine WR.id ?_; first | refine WR.nil ?_ | refine WR.s ?_ | refine WR.g ?_) | (refine W.id ?_; first | refine W.seq fun _ _ => ?_ | refine W.region ?_ | refine W.s ?_ | refine W.e ?_) | (refine Ends.id ?_; first | refine Ends.seq (by assumption) ?_ | refine Ends.s ?_)))
    exact Ends.ret1 rfl rfl ⟨rfl, M.pre 2 rfl⟩
  | false =>
  by_cases h200 : 200 < os.length
  · (repeat (first | (refine WR.id ?_; first | refine WR.nil ?_ | refine WR.s ?_ | refine WR.g ?_) | (refine W.id ?_; first | refine W.seq fun _ _ => ?_ | refine W.region ?_ | refine W.s ?_ | refine W.e ?_) | (refine Ends.id ?_; first | refine Ends.seq (by assumption) ?_ | refine Ends.s ?_)))
    exact Ends.ret1 rfl rfl ⟨rfl, M.pre 2 rfl⟩
  have hB := M.box
  obtain ⟨_, hf⟩ := M.fs 0 rfl
  (repeat (first | (refine WR.id ?_; first | refine WR.nil ?_ | refine WR.s ?_ | refine WR.g ?_) | (refine W.id ?_; first | refine W.seq fun _ _ => ?_ | refine W.region ?_ | refine W.s ?_ | refine W.e ?_) | (refine Ends.id ?_; first | refine Ends.seq (by assumption) ?_ | refine Ends.s ?_)))
  refine WR.call rfl rfl (copied_any _ _ _ _ hf (by omega) (fun e he => Nat.le_trans (hbl e he) (by omega))) ?_
  rintro _ w4 ⟨v1, e1, rfl, hfl, hcp, hb⟩
  refine ⟨_, rfl, ?_⟩
  replace M := M.below hb
  obtain ⟨A1, c1, rfl, -, -⟩ := fs_form hcp.fs
  (repeat (first | (refine WR.id ?_; first | refine WR.nil ?_ | refine WR.s ?_ | refine WR.g ?_) | (refine W.id ?_; first | refine W.seq fun _ _ => ?_ | refine W.region ?_ | refine W.s ?_ | refine W.e ?_) | (refine Ends.id ?_; first | refine Ends.seq (by assumption) ?_ | refine Ends.s ?_)))
  refine WR.row0 Try.elOp (by rfl) fun w5 hb5 ho5 hs5 => ?_
  replace M := M.below hb5
  replace hcp := hcp.fs.below hb5
  obtain ⟨_, hop⟩ := M.ops 1 rfl
  (repeat (first | (refine WR.id ?_; first | refine WR.nil ?_ | refine WR.s ?_ | refine WR.g ?_) | (refine W.id ?_; first | refine W.seq fun _ _ => ?_ | refine W.region ?_ | refine W.s ?_ | refine W.e ?_) | (refine Ends.id ?_; first | refine Ends.seq (by assumption) ?_ | refine Ends.s ?_)))
  refine WR.app0 Try.elOp (by rfl) (by rfl) (by rfl) ho5 hop.1 (ops_one hop) (by omega) (by decide) hb5.size fun v6 w6 ho6 hb6 => ?_
  replace M := M.below hb6
  replace hcp := hcp.below hb6
  have hop6 : Ops w6 (w4.heap.size ≤ ·) v6 os := ⟨Sl.of_own ho6, (hop.ops.below hb6).2⟩
  clear hop ho5 hf hB
  (repeat (first | (refine WR.id ?_; first | refine WR.nil ?_ | refine WR.s ?_ | refine WR.g ?_) | (refine W.id ?_; first | refine W.seq fun _ _ => ?_ | refine W.region ?_ | refine W.s ?_ | refine W.e ?_) | (refine Ends.id ?_; first | refine Ends.seq (by assumption) ?_ | refine Ends.s ?_)))
  refine WR.call rfl rfl (apply_any _ _ _ _ _ _ _ hcp hop6 (by rw [hfl]; omega) hok) ?_
  rintro _ w7 ⟨vg, eg, rfl, hfg, hsg, hb7⟩
  refine ⟨_, rfl, ?_⟩
  replace M := M.newFs hb7 hsg
  obtain ⟨Ag, cg, rfl, g1, g2⟩ := fs_form hsg.fs
  rw [hfl] at hfg
  simp only [hfl]
  clear hcp hop6 ho6 hsg
  (repeat (first | (refine WR.id ?_; first | refine WR.nil ?_ | refine WR.s ?_ | refine WR.g ?_) | (refine W.id ?_; first | refine W.seq fun _ _ => ?_ | refine W.region ?_ | refine W.s ?_ | refine W.e ?_) | (refine Ends.id ?_; first | refine Ends.seq (by assumption) ?_ | refine Ends.s ?_)))
  refine WR.alloc (by rfl) fun w8 hb8 hx8 hs8 => ?_
  replace M := M.newBox (cs := [.slice none 0 0]) hb8 hx8
  generalize w7.heap.size = b5 at M ⊢
  clear hx8
  refine WR.storeAgg (cs' := [.slice Ag eg.length cg]) M.box (by rfl) (by rfl) (by rfl) (by rfl) one1 fun w9 hu9 hx9 hs9 => ?_
  replace M := M.setBox hu9 hx9
  clear hx9
  have hB := M.swap.box
  have hB5 := M.box
  obtain ⟨_, hf⟩ := M.fs 1 rfl
  (repeat (first | (refine WR.id ?_; first | refine WR.nil ?_ | refine WR.s ?_ | refine WR.g ?_) | (refine W.id ?_; first | refine W.seq fun _ _ => ?_ | refine W.region ?_ | refine W.s ?_ | refine W.e ?_) | (refine Ends.id ?_; first | refine Ends.seq (by assumption) ?_ | refine Ends.s ?_)))
  refine WR.call rfl rfl (right_any _ _ _ _ hf (by omega)) ?_
  rintro _ wa ⟨rfl, hb⟩
  refine ⟨_, rfl, ?_⟩
  replace M := M.below hb
  clear hB hf hB5
  have hB := M.swap.box
  have hB5 := M.box
  cases hk : okFs (fls es) with
  | false =>
    have hap : applyF (fls es) (ops os) = (150, []) := by unfold applyF; rw [if_pos hk]
    rw [hap] at hfg ⊢
    have h0 : eg.length = 0 := by rw [← fls_len, hfg]; rfl
    (repeat (first | (refine WR.id ?_; first | refine WR.nil ?_ | refine WR.s ?_ | refine WR.g ?_) | (refine W.id ?_; first | refine W.seq fun _ _ => ?_ | refine W.region ?_ | refine W.s ?_ | refine W.e ?_) | (refine Ends.id ?_; first | refine Ends.seq (by assumption) ?_ | refine Ends.s ?_)))
    exact Ends.ret1 rfl rfl ⟨rfl, M.pre 3 rfl⟩
  | true =>
    rw [applyF_rap hk] at hfg ⊢
    obtain ⟨_, hf⟩ := M.fs 1 rfl
    obtain ⟨_, hop⟩ := M.ops 2 rfl
    (repeat (first | (refine WR.id ?_; first | refine WR.nil ?_ | refine WR.s ?_ | refine WR.g ?_) | (refine W.id ?_; first | refine W.seq fun _ _ => ?_ | refine W.region ?_ | refine W.s ?_ | refine W.e ?_) | (refine Ends.id ?_; first | refine Ends.seq (by assumption) ?_ | refine Ends.s ?_)))
    refine WR.call rfl rfl (rapply_any _ _ _ _ _ _ _ hf hop hk hok) ?_
    rintro _ wb ⟨vw, ew, rfl, hfw, hsw, hb⟩
    refine ⟨_, rfl, ?_⟩
    replace M := M.below hb
    obtain ⟨Aw, cw, rfl, -, -⟩ := fs_form hsw
    replace M := M.addFs (boxes_cons boxes1) hsw
    clear hB hB5 hf hop hsw
    (repeat (first | (refine WR.id ?_; first | refine WR.nil ?_ | refine WR.s ?_ | refine WR.g ?_) | (refine W.id ?_; first | refine W.seq fun _ _ => ?_ | refine W.region ?_ | refine W.s ?_ | refine W.e ?_) | (refine Ends.id ?_; first | refine Ends.seq (by assumption) ?_ | refine Ends.s ?_)))
    refine WR.alloc (by rfl) fun wc hbc hxc hsc => ?_
    replace M := M.newBox (cs := [.slice none 0 0]) hbc hxc
    generalize wb.heap.size = b7 at M ⊢
    refine WR.storeAgg (cs' := [.slice Aw ew.length cw]) M.box (by rfl) (by rfl) (by rfl) (by rfl) one1 fun wd hud hxd hsd => ?_
    replace M := M.setBox hud hxd
    clear hxc hxd
    have hB7 := M.box
    have hB5 := M.swap.box
    obtain ⟨_, hw⟩ := M.fs 0 rfl
    obtain ⟨_, hg⟩ := M.fs 1 rfl
    (repeat (first | (refine WR.id ?_; first | refine WR.nil ?_ | refine WR.s ?_ | refine WR.g ?_) | (refine W.id ?_; first | refine W.seq fun _ _ => ?_ | refine W.region ?_ | refine W.s ?_ | refine W.e ?_) | (refine Ends.id ?_; first | refine Ends.seq (by assumption) ?_ | refine Ends.s ?_)))
    refine WR.call rfl rfl (rsame_any _ _ _ _ _ _ _ hg hw) ?_
    rintro _ we ⟨rfl, hb⟩
    refine ⟨_, rfl, ?_⟩
    replace M := M.below hb
    rw [decide_eq_true (hfg.trans hfw.symm)]
    clear hB7 hB5
    (repeat (first | (refine WR.id ?_; first | refine WR.nil ?_ | refine WR.s ?_ | refine WR.g ?_) | (refine W.id ?_; first | refine W.seq fun _ _ => ?_ | refine W.region ?_ | refine W.s ?_ | refine W.e ?_) | (refine Ends.id ?_; first | refine Ends.seq (by assumption) ?_ | refine Ends.s ?_)))
    exact Ends.ret1 rfl rfl ⟨rfl, M.pre 4 rfl⟩
end Go.Proofs.Ytjgobljclodpfaa
