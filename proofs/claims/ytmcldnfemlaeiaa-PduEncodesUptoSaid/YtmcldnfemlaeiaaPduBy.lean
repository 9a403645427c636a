/- Layer 11's reference: the bytes of a message. No condition beyond sizes. -/
import Derived.Test.YtmcldnfemlaeiaaPduB
namespace Go.Proofs.Ytmcldnfemlaeiaa
open Go.RowKit K L
set_option linter.unusedVariables false
set_option linter.unusedSimpArgs false

theorem be_small (x n : Nat) (h : n ≤ 8) : (be x n).length ≤ 8 := by rw [be_len]; exact h

set_option maxRecDepth 100000 in
set_option maxHeartbeats 8000000 in
theorem rbytes_any (m : Msg) (vb : Value) (w : World) (F : Nat → Prop) (h : Bs w F vb m.bytes) (hok : m.ok) (hn : m.number < 4294967296) (hu : m.sum < 4294967296) :
    Calls Try.prog 14 #[.agg (m.cells vb).toArray] w fun e w' => ∃ v, e = .returned v ∧ (∃ F, Bs w' F v m.enc) ∧ Below w.heap.size w w' := by
  have hk : 1 ≤ m.kind ∧ m.kind ≤ 8 := hok.1
  rw [enc_fields m hk]
  have hb := h
  obtain ⟨A, c, rfl, l1, l2, -, -⟩ := h.open_
  unfold maxLen at l2
  clear h
  obtain ⟨kind, number, name, size, off, sum, code, bytes⟩ := m
  have hnl : name.length ≤ 24 := by
    have h1 := hok.2.2.1
    have h2 := hok.2.2.2.1
    dsimp only at h1 h2
    cases hf : fldN kind
    · have := h2 hf; omega
    · have := h1 hf; omega
  have hsz : 0 ≤ size ∧ size ≤ 4096 := hok.2.2.2.2.1
  have hcd : 0 ≤ code ∧ code ≤ 255 := hok.2.2.2.2.2.2.2.2.1
  have hbl : bytes.length ≤ 256 := hok.2.2.2.2.2.2.2.2.2.2.1
  have hof : 0 ≤ off ∧ off ≤ 4096 := by
    have h1 := hok.2.2.2.2.2.2.1
    have h2 := hok.2.2.2.2.2.2.2.2.2.2.2.2
    dsimp only at h1 h2
    by_cases hk2 : kind = 2
    · have := h2 hk2; omega
    · have := h1 (by unfold fldO; simpa using hk2); omega
  clear hok
  obtain ⟨size, rfl⟩ : ∃ n : Nat, size = (n : Int) := ⟨size.toNat, by omega⟩
  obtain ⟨off, rfl⟩ : ∃ n : Nat, off = (n : Int) := ⟨off.toNat, by omega⟩
  dsimp only at hb hk hn hu l1 ⊢
  obtain ⟨fs, hfs⟩ : ∃ fs, fs = fstr kind := ⟨_, rfl⟩
  obtain ⟨FB, hFB⟩ : ∃ FB, FB = fieldBytes ⟨kind, number, name, size, off, sum, code, bytes⟩ := ⟨_, rfl⟩
  have hlet := fstr_letters kind
  have hlen := fstr_len kind
  have hF := rfields_any kind hk
  have g110 : FB 110 = [UInt8.ofNat name.length] ++ name := by rw [hFB]; rfl
  have g115 : FB 115 = be size 2 := by rw [hFB]; rfl
  have g111 : FB 111 = be off 2 := by rw [hFB]; rfl
  have g117 : FB 117 = be sum 4 := by rw [hFB]; rfl
  have g99 : FB 99 = [UInt8.ofNat code.toNat] := by rw [hFB]; rfl
  have g98 : FB 98 = be bytes.length 2 ++ bytes := by rw [hFB]; rfl
  have hFl : ∀ q ∈ fs, (FB q).length ≤ 1000 := by
    intro q hq
    rw [hfs] at hq
    rcases hlet q hq with rfl | rfl | rfl | rfl | rfl | rfl
    · rw [g110]; simp; omega
    · rw [g115, be_len]; omega
    · rw [g111, be_len]; omega
    · rw [g117, be_len]; omega
    · rw [g99]; simp
    · rw [g98]; simp [be_len]; omega
  rw [← hFB, ← hfs]
  rw [← hfs] at hlet hlen hF
  have HG0 := Lib.hid g110; have HG1 := Lib.hid g115; have HG2 := Lib.hid g111; have HG3 := Lib.hid g117; have HG4 := Lib.hid g99; have HG5 := Lib.hid g98
  have HFF := Lib.hid hF
  have HLET := Lib.hid hlet
  have HFL := Lib.hid hFl
  have HB := Lib.hid hb
  clear g110 g115 g111 g117 g99 g98 hF hFB hfs hlet hFl hb
  generalize hhd : ([UInt8.ofNat kind.toNat] ++ be number 4 : List UInt8) = hd at *
  have hhl : hd.length = 5 := by rw [← hhd]; simp [be_len]
  have HHD := Lib.hid hhd
  clear hhd
  unfold Msg.cells
  dsimp only
  go_enter Try.func14, Try.ntmps14
  go_wp2
  have hX0 : (w.alloc (.cells #[.int .i64 kind, .int .u32 (number : Nat), .string ⟨name.toArray⟩, .int .i64 (size : Nat), .int .i64 (off : Nat), .int .u32 (sum : Nat), .int .i64 code, .slice A bytes.length c] 25)).heap[w.heap.size]? = some (.cells #[.int .i64 kind, .int .u32 (number : Nat), .string ⟨name.toArray⟩, .int .i64 (size : Nat), .int .i64 (off : Nat), .int .u32 (sum : Nat), .int .i64 code, .slice A bytes.length c] 25) := heap_alloc_new _ _
  have hB0 : Below w.heap.size w (w.alloc (.cells #[.int .i64 kind, .int .u32 (number : Nat), .string ⟨name.toArray⟩, .int .i64 (size : Nat), .int .i64 (off : Nat), .int .u32 (sum : Nat), .int .i64 code, .slice A bytes.length c] 25)).drew := (below_al (Below.refl _ _) _).drew
  have hw8 : IntKind.u8.wrap kind = kind := by simp [IntKind.wrap, IntKind.bits, IntKind.signed]; omega
  have hw64 : IntKind.u64.wrap (number : Int) = (number : Int) := by simp [IntKind.wrap, IntKind.bits, IntKind.signed]; omega
  have HX := Lib.hid hX0
  have HB0 := Lib.hid hB0
  clear hX0 hB0
  refine G.region_inv (by kernel_rfl) (by kernel_rfl) (fun w w' => Below w.heap.size w w') (fun _ _ _ h k => below_tr h k) (fun w _ => Below.refl _ _) (Below.refl _ _)
    (G.of [(fun (_ : World) (v : Value) => v = .pointer (some ⟨w.heap.size, 0, none⟩)), (fun (_ : World) (v : Value) => v = .int .i64 kind), (fun (_ : World) (v : Value) => v = .int .u8 kind), (fun w v => ∃ F, Bs w F v [UInt8.ofNat kind.toNat]), (fun (_ : World) (v : Value) => v = .pointer (some ⟨w.heap.size, 1, none⟩)), (fun (_ : World) (v : Value) => v = .int .u32 (number : Nat)), (fun (_ : World) (v : Value) => v = .int .u64 (number : Nat)), (fun w v => ∃ F, Bs w F v (be number 4)), (fun w v => ∃ F, Bs w F v hd), (fun w v => ∃ F, Bs w F v hd)])
    (G.of_stays _ ?_) ?_ (G.each_ops ?_) ?_
  · exact ⟨(fun w w' v h k => h), (fun w w' v h k => h), (fun w w' v h k => h), (fun w w' v h k => by first | exact h | exact G.keep_bs h k | exact Ls.below h k | exact CopP.fresh h k | (obtain ⟨x1, x2, F', hb⟩ := h; exact ⟨x1, x2, F', hb.below k⟩)), (fun w w' v h k => h), (fun w w' v h k => h), (fun w w' v h k => h), (fun w w' v h k => by first | exact h | exact G.keep_bs h k | exact Ls.below h k | exact CopP.fresh h k | (obtain ⟨x1, x2, F', hb⟩ := h; exact ⟨x1, x2, F', hb.below k⟩)), (fun w w' v h k => by first | exact h | exact G.keep_bs h k | exact Ls.below h k | exact CopP.fresh h k | (obtain ⟨x1, x2, F', hb⟩ := h; exact ⟨x1, x2, F', hb.below k⟩)), (fun w w' v h k => by first | exact h | exact G.keep_bs h k | exact Ls.below h k | exact CopP.fresh h k | (obtain ⟨x1, x2, F', hb⟩ := h; exact ⟨x1, x2, F', hb.below k⟩)), trivial⟩
  · intro i o hi hd; exact absurd hd (G.no_none (by kernel_rfl) hi)
  · refine ⟨?_, ?_, ?_, ?_, ?_, ?_, ?_, ?_, ?_, ?_, trivial⟩
    all_goals intro a wq hT hS hp
    all_goals (have hxx := heap_bl hT HX.out; have c0 := cell_of hxx 0; have c1 := cell_of hxx 1; simp at c0 c1)
    · refine G.wanted_yes (G.wanted_plain rfl) ?_
      have e1 : a.tmps[1]?.getD undef = .pointer (some ⟨w.heap.size, 0, none⟩) := hS.at_ 1 rfl
      exact G.st_val (v := .pointer (some ⟨w.heap.size, 0, none⟩)) (w' := wq) (by simp [execOp, go_sem, e1, c0, c1, hw8, hw64] <;> omega) ⟨_, rfl, Below.refl _ _, rfl⟩
    · refine G.wanted_yes (G.wanted_plain rfl) ?_
      have e6 : a.tmps[6]?.getD undef = .pointer (some ⟨w.heap.size, 0, none⟩) := hp ⟨0, .data⟩ (by simp) rfl _ rfl
      exact G.st_val (v := .int .i64 kind) (w' := wq) (by simp [execOp, go_sem, e6, c0, c1, hw8, hw64] <;> omega) ⟨_, rfl, Below.refl _ _, rfl⟩
    · refine G.wanted_yes (G.wanted_plain rfl) ?_
      have e7 : a.tmps[7]?.getD undef = .int .i64 kind := hp ⟨1, .data⟩ (by simp) rfl _ rfl
      exact G.st_val (v := .int .u8 kind) (w' := wq) (by simp [execOp, go_sem, e7, c0, c1, hw8, hw64] <;> omega) ⟨_, rfl, Below.refl _ _, rfl⟩
    · refine G.wanted_yes (G.wanted_plain rfl) ?_
      have e8 : a.tmps[8]?.getD undef = .int .u8 kind := hp ⟨2, .data⟩ (by simp) rfl _ rfl
      exact G.st_val (v := .slice (some ⟨wq.heap.size, 0, none⟩) 1 1) (w' := wq.alloc (.cells #[.int .u8 kind] 5)) (by simp [execOp, go_sem, e8]) ⟨_, rfl, below_al (Below.refl _ _) _, _, lit_bs wq [UInt8.ofNat kind.toNat] #[.int .u8 kind] (by simp [bvs, bv]; omega) 1 rfl (by simp)⟩
    · refine G.wanted_yes (G.wanted_plain rfl) ?_
      have e1 : a.tmps[1]?.getD undef = .pointer (some ⟨w.heap.size, 0, none⟩) := hS.at_ 1 rfl
      exact G.st_val (v := .pointer (some ⟨w.heap.size, 1, none⟩)) (w' := wq) (by simp [execOp, go_sem, e1, c0, c1, hw8, hw64] <;> omega) ⟨_, rfl, Below.refl _ _, rfl⟩
    · refine G.wanted_yes (G.wanted_plain rfl) ?_
      have e10 : a.tmps[10]?.getD undef = .pointer (some ⟨w.heap.size, 1, none⟩) := hp ⟨4, .data⟩ (by simp) rfl _ rfl
      exact G.st_val (v := .int .u32 (number : Nat)) (w' := wq) (by simp [execOp, go_sem, e10, c0, c1, hw8, hw64] <;> omega) ⟨_, rfl, Below.refl _ _, rfl⟩
    · refine G.wanted_yes (G.wanted_plain rfl) ?_
      have e11 : a.tmps[11]?.getD undef = .int .u32 (number : Nat) := hp ⟨5, .data⟩ (by simp) rfl _ rfl
      exact G.st_val (v := .int .u64 (number : Nat)) (w' := wq) (by simp [execOp, go_sem, e11, c0, c1, hw8, hw64] <;> omega) ⟨_, rfl, Below.refl _ _, rfl⟩
    · refine G.wanted_yes (G.wanted_plain rfl) ?_
      have e12 : a.tmps[12]?.getD undef = .int .u64 (number : Nat) := hp ⟨6, .data⟩ (by simp) rfl _ rfl
      exact G.st_call (f := 28) (args := #[.int .u64 (number : Nat), .int .i64 4]) (by simp [execOp, go_sem, e12]) ((high_any number 4 wq (by omega) (by omega)).mono fun e w' ⟨v, he, ho, hB⟩ => ⟨v, he, v, rfl, hB, _, ho.bs⟩)
    · refine G.wanted_yes (G.wanted_plain rfl) ?_
      have q9 : (fun w v => ∃ F, Bs w F v [UInt8.ofNat kind.toNat]) wq (G.slot a (some 9)) := hp ⟨3, .data⟩ (by simp) rfl _ rfl
      have q13 : (fun w v => ∃ F, Bs w F v (be number 4)) wq (G.slot a (some 13)) := hp ⟨7, .data⟩ (by simp) rfl _ rfl
      obtain ⟨F1, h1⟩ := q9; obtain ⟨F2, h2⟩ := q13; exact G.st_call (f := 27) (args := #[G.slot a (some 9), G.slot a (some 13)]) (by simp [execOp, go_sem, G.slot]) ((both_any _ _ _ _ wq _ _ h1 h2 (by simp) (by rw [be_len]; omega)).mono fun e w' ⟨v, he, ho, hB⟩ => ⟨v, he, v, rfl, hB, _, by rw [← HHD.out]; exact ho.bs⟩)
    · refine G.wanted_yes (G.wanted_plain rfl) ?_
      have q14 : (fun w v => ∃ F, Bs w F v hd) wq (G.slot a (some 14)) := hp ⟨8, .data⟩ (by simp) rfl _ rfl
      exact G.st_move (.inr rfl) ⟨_, rfl, Below.refl _ _, q14⟩
  · intro a wq hT hS hp
    have e6 : G.slot a (some 6) = .pointer (some ⟨w.heap.size, 0, none⟩) := hp 0 _ rfl
    have e7 : G.slot a (some 7) = .int .i64 kind := hp 1 _ rfl
    have e8 : G.slot a (some 8) = .int .u8 kind := hp 2 _ rfl
    have q9 : (fun w v => ∃ F, Bs w F v [UInt8.ofNat kind.toNat]) wq (G.slot a (some 9)) := hp 3 _ rfl
    have e10 : G.slot a (some 10) = .pointer (some ⟨w.heap.size, 1, none⟩) := hp 4 _ rfl
    have e11 : G.slot a (some 11) = .int .u32 (number : Nat) := hp 5 _ rfl
    have e12 : G.slot a (some 12) = .int .u64 (number : Nat) := hp 6 _ rfl
    have q13 : (fun w v => ∃ F, Bs w F v (be number 4)) wq (G.slot a (some 13)) := hp 7 _ rfl
    have q14 : (fun w v => ∃ F, Bs w F v hd) wq (G.slot a (some 14)) := hp 8 _ rfl
    have q3 : (fun w v => ∃ F, Bs w F v hd) wq (G.slot a (some 3)) := hp 9 _ rfl
    have ha := G.act_of hS
    simp only [List.foldl_cons, List.foldl_nil, Act.put, List.setIfInBounds_toArray, List.set_cons_succ, List.set_cons_zero, e6, e7, e8, e10, e11, e12] at ha
    generalize G.slot a (some 9) = s9 at q9 ha
    generalize G.slot a (some 13) = s13 at q13 ha
    generalize G.slot a (some 14) = s14 at q14 ha
    generalize G.slot a (some 3) = s3 at q3 ha
    clear hp hS e6 e7 e8 e10 e11 e12
    subst ha
    obtain ⟨Fh, hh⟩ := q3
    clear q14 q13 q9
    have hx1 := heap_bl hT HX.out
    have hB1 := below_tr HB0.out hT
    have c0 := cell_of hx1 0
    simp at c0
    have HX1 := Lib.hid hx1
    have HB1 := Lib.hid hB1
    have HH := Lib.hid hh
    clear hT HX HB0 hx1 hB1 hh
    go_wp2_with fail
    refine (HFF.out _).mono ?_
    rintro e w2 ⟨rfl, hB2⟩
    have HX2 := Lib.hid (heap_bl hB2 HX1.out)
    have HB2 := Lib.hid (below_tr HB1.out hB2)
    have HH2 := Lib.hid (HH.out.below (Below.trans (Below.refl _ _) hB2))
    clear hB2 HX1 HB1 HH c0
    go_wp2
    go_loopw [3, 5] (fun s i wr => ∃ k : Nat, k ≤ fs.length ∧ i = .int .i64 k ∧ (∃ F, Bs wr F s (hd ++ (fs.take k).flatMap FB)) ∧ Below w.heap.size w wr ∧ wr.heap[w.heap.size]? = some (.cells #[.int .i64 kind, .int .u32 (number : Nat), .string ⟨name.toArray⟩, .int .i64 (size : Nat), .int .i64 (off : Nat), .int .u32 (sum : Nat), .int .i64 code, .slice A bytes.length c] 25)) (fun _ i _ => fs.length - (intOf i).toNat)
    case atStart => exact ⟨0, Nat.zero_le _, rfl, ⟨_, by simpa using HH2.out⟩, HB2.out, HX2.out⟩
    case round =>
      clear HH2 HB2 HX2
      obtain ⟨k, hk, rfl, ⟨Fs, hs⟩, hB, hX⟩ := hrel
      by_cases hlt : k < fs.length
      · have hnext : (fs.take (k + 1)).flatMap FB = (fs.take k).flatMap FB ++ FB fs[k] := by rw [take_snoc fs k hlt, List.flatMap_append, List.flatMap_singleton]
        have htl : ((fs.take k).flatMap FB).length ≤ 2000 := by
          have h1 : (fs.take k).length ≤ 2 := Nat.le_trans (List.length_take_le' ..) hlen
          have h2 : ∀ q ∈ fs.take k, (FB q).length ≤ 1000 := fun q hq => HFL.out q (List.mem_of_mem_take hq)
          have : ∀ l : List UInt8, (∀ q ∈ l, (FB q).length ≤ 1000) → (l.flatMap FB).length ≤ 1000 * l.length := by
            intro l
            induction l with
            | nil => intro _; simp
            | cons x l ih =>
              intro hl
              have e1 := ih fun q hq => hl q (List.mem_cons_of_mem _ hq)
              have e2 := hl x (List.mem_cons_self ..)
              simp only [List.flatMap_cons, List.length_append, List.length_cons]
              omega
          have := this _ h2
          omega
        have hcc := HLET.out fs[k] (List.getElem_mem hlt)
        obtain ⟨q, hq⟩ : ∃ q, fs[k] = q := ⟨_, rfl⟩
        rw [hq] at hnext hcc
        have hq1 : ((⟨fs.toArray⟩ : ByteArray)[k]'(by simpa [ByteArray.size] using hlt)) = q := hq
        generalize hsf : (hd ++ (fs.take k).flatMap FB : List UInt8) = sofar at *
        have hnx : hd ++ (fs.take (k + 1)).flatMap FB = sofar ++ FB q := by rw [hnext, ← hsf, List.append_assoc]
        have hsl : sofar.length ≤ 3000 := by rw [← hsf, List.length_append]; omega
        have c0 := cell_of hX 0; have c1 := cell_of hX 1; have c2 := cell_of hX 2; have c3 := cell_of hX 3; have c4 := cell_of hX 4; have c5 := cell_of hX 5; have c6 := cell_of hX 6; have c7 := cell_of hX 7
        simp at c0 c1 c2 c3 c4 c5 c6 c7
        have HX := Lib.hid hX
        have HBW := Lib.hid hB
        have HS := Lib.hid hs
        have HN := Lib.hid hnx
        clear hX hB hs hnx hnext htl hsf hq HLET
        have c2a := fun o => cell_al c2 o
        have c7a := fun o => cell_al c7 o
        rcases hcc with rfl | rfl | rfl | rfl | rfl | rfl
        · have hwn : IntKind.u8.wrap (name.length : Int) = (name.length : Int) := by simp [IntKind.wrap, IntKind.bits, IntKind.signed]; omega
          have hl1 : ((UInt8.ofNat name.length).toNat : Int) = name.length := by simp; omega
          have hlit := lit_bs wr [UInt8.ofNat name.length] #[.int .u8 (name.length : Nat)] (by simp [bvs, bv]; omega) 1 rfl (by simp)
          have HLIT := Lib.hid hlit
          clear hlit
          go_wp2_with (refine conv_bytes rfl (.tmp 35) rfl name (by omega) rfl Try.underlying9 Try.underlying23 Try.underlying5 ?_; intro v4 w4 hv4 hB4)
          obtain ⟨F4, hv4⟩ := hv4
          refine (both_any _ _ _ _ _ _ _ (HLIT.out.below hB4) hv4 (by simp) (by omega)).mono ?_
          rintro e w5 ⟨v5, rfl, ho5, hB5⟩
          have hB45 := below_tr (below_tr (below_al (Below.refl wr.heap.size wr) _) hB4) hB5
          have HB5 := Lib.hid hB45
          have HO5 := Lib.hid ho5.bs
          have HS5 := Lib.hid (HS.out.below hB45)
          clear ho5 hB5 hB4 hv4 hB45
          go_wp2_with fail
          refine (both_any _ _ _ _ _ _ _ HS5.out HO5.out (by omega) (by simp; omega)).mono ?_
          rintro e w6 ⟨v6, rfl, ho6, hB6⟩
          rw [← HG0.out, ← HN.out] at ho6
          have HO6 := Lib.hid ho6.bs
          have hBB := Below.trans (Below.refl w.heap.size _) (below_tr (below_tr HBW.out HB5.out) hB6)
          have HX6 := Lib.hid (heap_bl hB6 (heap_bl HB5.out HX.out))
          clear ho6 hB6 HO5 HS5 HB5 c0 c1 c2 c3 c4 c5 c6 c7 c2a c7a
          go_wp2
          exact ⟨⟨k + 1, by omega, by go_num, ⟨_, HO6.out⟩, hBB, HX6.out⟩, by simp only [intOf]; omega⟩
        · go_wp2_with fail
          refine (high_any size 2 _ (by omega) (by omega)).mono ?_
          rintro e w4 ⟨v4, rfl, ho4, hB4⟩
          have HB4 := Lib.hid hB4
          have HO4 := Lib.hid ho4.bs
          have HS4 := Lib.hid (HS.out.below hB4)
          clear ho4 hB4
          go_wp2_with fail
          refine (both_any _ _ _ _ _ _ _ HS4.out HO4.out (by omega) (by rw [be_len]; omega)).mono ?_
          rintro e w5 ⟨v5, rfl, ho5, hB5⟩
          rw [← HG1.out, ← HN.out] at ho5
          have HO5 := Lib.hid ho5.bs
          have hBB := Below.trans (Below.refl w.heap.size _) (below_tr (below_tr HBW.out HB4.out) hB5)
          have HX5 := Lib.hid (heap_bl hB5 (heap_bl HB4.out HX.out))
          clear ho5 hB5 HO4 HS4 HB4 c0 c1 c2 c3 c4 c5 c6 c7 c2a c7a
          go_wp2
          exact ⟨⟨k + 1, by omega, by go_num, ⟨_, HO5.out⟩, hBB, HX5.out⟩, by simp only [intOf]; omega⟩
        · go_wp2_with fail
          refine (high_any off 2 _ (by omega) (by omega)).mono ?_
          rintro e w4 ⟨v4, rfl, ho4, hB4⟩
          have HB4 := Lib.hid hB4
          have HO4 := Lib.hid ho4.bs
          have HS4 := Lib.hid (HS.out.below hB4)
          clear ho4 hB4
          go_wp2_with fail
          refine (both_any _ _ _ _ _ _ _ HS4.out HO4.out (by omega) (by rw [be_len]; omega)).mono ?_
          rintro e w5 ⟨v5, rfl, ho5, hB5⟩
          rw [← HG2.out, ← HN.out] at ho5
          have HO5 := Lib.hid ho5.bs
          have hBB := Below.trans (Below.refl w.heap.size _) (below_tr (below_tr HBW.out HB4.out) hB5)
          have HX5 := Lib.hid (heap_bl hB5 (heap_bl HB4.out HX.out))
          clear ho5 hB5 HO4 HS4 HB4 c0 c1 c2 c3 c4 c5 c6 c7 c2a c7a
          go_wp2
          exact ⟨⟨k + 1, by omega, by go_num, ⟨_, HO5.out⟩, hBB, HX5.out⟩, by simp only [intOf]; omega⟩
        · go_wp2_with fail
          refine (high_any sum 4 _ (by omega) (by omega)).mono ?_
          rintro e w4 ⟨v4, rfl, ho4, hB4⟩
          have HB4 := Lib.hid hB4
          have HO4 := Lib.hid ho4.bs
          have HS4 := Lib.hid (HS.out.below hB4)
          clear ho4 hB4
          go_wp2_with fail
          refine (both_any _ _ _ _ _ _ _ HS4.out HO4.out (by omega) (by rw [be_len]; omega)).mono ?_
          rintro e w5 ⟨v5, rfl, ho5, hB5⟩
          rw [← HG3.out, ← HN.out] at ho5
          have HO5 := Lib.hid ho5.bs
          have hBB := Below.trans (Below.refl w.heap.size _) (below_tr (below_tr HBW.out HB4.out) hB5)
          have HX5 := Lib.hid (heap_bl hB5 (heap_bl HB4.out HX.out))
          clear ho5 hB5 HO4 HS4 HB4 c0 c1 c2 c3 c4 c5 c6 c7 c2a c7a
          go_wp2
          exact ⟨⟨k + 1, by omega, by go_num, ⟨_, HO5.out⟩, hBB, HX5.out⟩, by simp only [intOf]; omega⟩
        · have hwc : IntKind.u8.wrap code = code := by simp [IntKind.wrap, IntKind.bits, IntKind.signed]; omega
          have hlit := lit_bs wr [UInt8.ofNat code.toNat] #[.int .u8 code] (by simp [bvs, bv]; omega) 1 rfl (by simp)
          have HLIT := Lib.hid hlit
          clear hlit
          go_wp2_with fail
          refine (both_any _ _ _ _ _ _ _ (HS.out.below (below_al (Below.refl _ _) _)) HLIT.out (by omega) (by simp)).mono ?_
          rintro e w6 ⟨v6, rfl, ho6, hB6⟩
          rw [← HG4.out, ← HN.out] at ho6
          have HO6 := Lib.hid ho6.bs
          have hBB := Below.trans (Below.refl w.heap.size _) (below_tr (below_tr HBW.out (below_al (Below.refl _ _) _)) hB6)
          have HX6 := Lib.hid (heap_bl hB6 (heap_bl (below_al (Below.refl _ _) _) HX.out))
          clear ho6 hB6 c0 c1 c2 c3 c4 c5 c6 c7 c2a c7a
          go_wp2
          exact ⟨⟨k + 1, by omega, by go_num, ⟨_, HO6.out⟩, hBB, HX6.out⟩, by simp only [intOf]; omega⟩
        · have hwb : IntKind.u64.wrap (bytes.length : Int) = (bytes.length : Int) := by simp [IntKind.wrap, IntKind.bits, IntKind.signed]; omega
          have HVB := Lib.hid (HB.out.below HBW.out)
          clear c0 c1 c2 c3 c4 c5 c6 c7 c2a c7a
          go_wp2
          have hBe : G.Bears [⟨fun (_ : World) (v : Value) => v = u3, none⟩, ⟨fun (_ : World) (v : Value) => v = .pointer (some ⟨w.heap.size, 7, none⟩), none⟩, ⟨fun (_ : World) (v : Value) => v = .slice A bytes.length c, none⟩, ⟨fun (_ : World) (v : Value) => v = .int .i64 (bytes.length : Nat), none⟩, ⟨fun (_ : World) (v : Value) => v = .int .u64 (bytes.length : Nat), none⟩, ⟨fun w v => ∃ F, Bs w F v (be bytes.length 2), none⟩, ⟨fun (_ : World) (v : Value) => v = .pointer (some ⟨w.heap.size, 7, none⟩), none⟩, ⟨fun (_ : World) (v : Value) => v = .slice A bytes.length c, none⟩, ⟨fun w v => ∃ F, Bs w F v (be bytes.length 2 ++ bytes), none⟩, ⟨fun w v => ∃ F, Bs w F v (sofar ++ FB 98), none⟩, ⟨fun w v => ∃ F, Bs w F v (sofar ++ FB 98), none⟩] := ⟨fun w w' v h hb => h, fun w w' v h hb => h, fun w w' v h hb => h, fun w w' v h hb => h, fun w w' v h hb => h, fun w w' v h hb => by first | exact G.ob_fresh h hb | exact G.keep_bs h hb | exact G.row_fresh h hb | exact CopP.fresh h hb | exact LitP.fresh h hb | exact AppP.fresh h hb, fun w w' v h hb => h, fun w w' v h hb => h, fun w w' v h hb => by first | exact G.ob_fresh h hb | exact G.keep_bs h hb | exact G.row_fresh h hb | exact CopP.fresh h hb | exact LitP.fresh h hb | exact AppP.fresh h hb, fun w w' v h hb => by first | exact G.ob_fresh h hb | exact G.keep_bs h hb | exact G.row_fresh h hb | exact CopP.fresh h hb | exact LitP.fresh h hb | exact AppP.fresh h hb, fun w w' v h hb => by first | exact G.ob_fresh h hb | exact G.keep_bs h hb | exact G.row_fresh h hb | exact CopP.fresh h hb | exact LitP.fresh h hb | exact AppP.fresh h hb, trivial⟩
          have hP0 : ∀ w w', (fun _ => True) w → Below w.heap.size w w' → (fun _ => True) w' := fun w w' h hb => by first | exact G.ob_fresh h hb | exact G.keep_bs h hb | exact G.row_fresh h hb | trivial
          refine G.region_two (by kernel_rfl) (by kernel_rfl) (G.Own wr (fun _ => True) 9) (G.of2 [⟨fun (_ : World) (v : Value) => v = u3, none⟩, ⟨fun (_ : World) (v : Value) => v = .pointer (some ⟨w.heap.size, 7, none⟩), none⟩, ⟨fun (_ : World) (v : Value) => v = .slice A bytes.length c, none⟩, ⟨fun (_ : World) (v : Value) => v = .int .i64 (bytes.length : Nat), none⟩, ⟨fun (_ : World) (v : Value) => v = .int .u64 (bytes.length : Nat), none⟩, ⟨fun w v => ∃ F, Bs w F v (be bytes.length 2), none⟩, ⟨fun (_ : World) (v : Value) => v = .pointer (some ⟨w.heap.size, 7, none⟩), none⟩, ⟨fun (_ : World) (v : Value) => v = .slice A bytes.length c, none⟩, ⟨fun w v => ∃ F, Bs w F v (be bytes.length 2 ++ bytes), none⟩, ⟨fun w v => ∃ F, Bs w F v (sofar ++ FB 98), none⟩, ⟨fun w v => ∃ F, Bs w F v (sofar ++ FB 98), none⟩]) (fun L hL => ⟨(Below.refl _ _).drew, .inr trivial⟩) ?_ (G.each_ops ?_) ?_
          · intro i o hi hd; exact absurd hd (G.no_none (by kernel_rfl) hi)
          · refine ⟨?_, ?_, ?_, ?_, ?_, ?_, ?_, ?_, ?_, ?_, ?_, trivial⟩
            all_goals intro L a wq hLi hd hcl hU hI hS hp
            all_goals (have hxx := heap_bl hI.1 HX.out; have c7 := cell_of hxx 7; simp at c7)
            · refine G.wanted_yes (G.wanted_plain rfl) ?_
              have e3 : a.tmps[3]?.getD undef = u3 := hU 3 (G.unlisted 3 10 hLi hcl rfl (by kernel_rfl) .phase (by simp) rfl)
              exact G.st_val (v := u3) (w' := wq) (by simp [execOp, go_sem, e3, c7, hwb] <;> omega) ⟨_, rfl, hI.fresh hP0 0 (Below.refl _ _), rfl, G.of2_fresh hBe 0 (Below.refl _ _)⟩
            · refine G.wanted_yes (G.wanted_plain rfl) ?_
              have e1 : a.tmps[1]?.getD undef = .pointer (some ⟨w.heap.size, 0, none⟩) := hS.at_ 1 rfl
              exact G.st_val (v := .pointer (some ⟨w.heap.size, 7, none⟩)) (w' := wq) (by simp [execOp, go_sem, e1, c7, hwb] <;> omega) ⟨_, rfl, hI.fresh hP0 1 (Below.refl _ _), rfl, G.of2_fresh hBe 1 (Below.refl _ _)⟩
            · refine G.wanted_yes (G.wanted_plain rfl) ?_
              have e84 : a.tmps[84]?.getD undef = .pointer (some ⟨w.heap.size, 7, none⟩) := hp 1 _ rfl (hd ⟨1, .data⟩ (by simp) rfl)
              exact G.st_val (v := .slice A bytes.length c) (w' := wq) (by simp [execOp, go_sem, e84, c7, hwb] <;> omega) ⟨_, rfl, hI.fresh hP0 2 (Below.refl _ _), rfl, G.of2_fresh hBe 2 (Below.refl _ _)⟩
            · refine G.wanted_yes (G.wanted_plain rfl) ?_
              have e85 : a.tmps[85]?.getD undef = .slice A bytes.length c := hp 2 _ rfl (hd ⟨2, .data⟩ (by simp) rfl)
              exact G.st_val (v := .int .i64 (bytes.length : Nat)) (w' := wq) (by simp [execOp, go_sem, e85, c7, hwb] <;> omega) ⟨_, rfl, hI.fresh hP0 3 (Below.refl _ _), rfl, G.of2_fresh hBe 3 (Below.refl _ _)⟩
            · refine G.wanted_yes (G.wanted_plain rfl) ?_
              have e86 : a.tmps[86]?.getD undef = .int .i64 (bytes.length : Nat) := hp 3 _ rfl (hd ⟨3, .data⟩ (by simp) rfl)
              exact G.st_val (v := .int .u64 (bytes.length : Nat)) (w' := wq) (by simp [execOp, go_sem, e86, c7, hwb] <;> omega) ⟨_, rfl, hI.fresh hP0 4 (Below.refl _ _), rfl, G.of2_fresh hBe 4 (Below.refl _ _)⟩
            · refine G.wanted_yes (G.wanted_plain rfl) ?_
              have e87 : a.tmps[87]?.getD undef = .int .u64 (bytes.length : Nat) := hp 4 _ rfl (hd ⟨4, .data⟩ (by simp) rfl)
              exact G.st_call (f := 28) (args := #[.int .u64 (bytes.length : Nat), .int .i64 2]) (by simp [execOp, go_sem, e87]) ((high_any bytes.length 2 wq (by omega) (by omega)).mono fun e w' ⟨v, he, ho, hb⟩ => ⟨v, he, v, rfl, (hI.fresh hP0 5 hb), ⟨_, ho.bs⟩, (G.of2_fresh hBe 5 hb)⟩)
            · refine G.wanted_yes (G.wanted_plain rfl) ?_
              have e1 : a.tmps[1]?.getD undef = .pointer (some ⟨w.heap.size, 0, none⟩) := hS.at_ 1 rfl
              exact G.st_val (v := .pointer (some ⟨w.heap.size, 7, none⟩)) (w' := wq) (by simp [execOp, go_sem, e1, c7, hwb] <;> omega) ⟨_, rfl, hI.fresh hP0 6 (Below.refl _ _), rfl, G.of2_fresh hBe 6 (Below.refl _ _)⟩
            · refine G.wanted_yes (G.wanted_plain rfl) ?_
              have e89 : a.tmps[89]?.getD undef = .pointer (some ⟨w.heap.size, 7, none⟩) := hp 6 _ rfl (hd ⟨6, .data⟩ (by simp) rfl)
              exact G.st_val (v := .slice A bytes.length c) (w' := wq) (by simp [execOp, go_sem, e89, c7, hwb] <;> omega) ⟨_, rfl, hI.fresh hP0 7 (Below.refl _ _), rfl, G.of2_fresh hBe 7 (Below.refl _ _)⟩
            · refine G.wanted_yes (G.wanted_plain rfl) ?_
              have q88 : (fun w v => ∃ F, Bs w F v (be bytes.length 2)) wq (G.slot a (some 88)) := hp 5 _ rfl (hd ⟨5, .data⟩ (by simp) rfl)
              have e90 : a.tmps[90]?.getD undef = .slice A bytes.length c := hp 7 _ rfl (hd ⟨7, .data⟩ (by simp) rfl)
              obtain ⟨F1, h1⟩ := q88; exact G.st_call (f := 27) (args := #[G.slot a (some 88), .slice A bytes.length c]) (by simp [execOp, go_sem, G.slot, e90]) ((both_any _ _ _ _ wq _ _ h1 (HVB.out.below hI.1) (by rw [be_len]; omega) (by omega)).mono fun e w' ⟨v, he, ho, hb⟩ => ⟨v, he, v, rfl, (hI.fresh hP0 8 hb), ⟨_, ho.bs⟩, (G.of2_fresh hBe 8 hb)⟩)
            · refine G.wanted_yes (G.wanted_plain rfl) ?_
              have e83 : a.tmps[83]?.getD undef = u3 := hp 0 _ rfl (hd ⟨0, .data⟩ (by simp) rfl)
              have q91 : (fun w v => ∃ F, Bs w F v (be bytes.length 2 ++ bytes)) wq (G.slot a (some 91)) := hp 8 _ rfl (hd ⟨8, .data⟩ (by simp) rfl)
              have own0 := hI.2.resolve_left (by rw [hLi]; decide)
              obtain ⟨F1, h1⟩ := q91; exact G.st_call (f := 27) (args := #[u3, G.slot a (some 91)]) (by simp [execOp, go_sem, G.slot, e83]) ((both_any _ _ _ _ wq _ _ (HS.out.below hI.1) h1 (by omega) (by simp [be_len]; omega)).mono fun e w' ⟨v, he, ho, hb⟩ => ⟨v, he, v, rfl, (hI.fresh hP0 9 hb), ⟨_, by rw [HG5.out]; exact ho.bs⟩, (G.of2_fresh hBe 9 hb)⟩)
            · refine G.wanted_yes (G.wanted_plain rfl) ?_
              have q92 : (fun w v => ∃ F, Bs w F v (sofar ++ FB 98)) wq (G.slot a (some 92)) := hp 9 _ rfl (hd ⟨9, .data⟩ (by simp) rfl)
              exact G.st_move (.inr rfl) ⟨_, rfl, hI.fresh hP0 10 (Below.refl _ _), q92, G.of2_fresh hBe 10 (Below.refl _ _)⟩
          · intro L a wq hL hI hS hp
            have hT := hI.1
            have e83 : G.slot a (some 83) = u3 := hp 0 _ rfl
            have e84 : G.slot a (some 84) = .pointer (some ⟨w.heap.size, 7, none⟩) := hp 1 _ rfl
            have e85 : G.slot a (some 85) = .slice A bytes.length c := hp 2 _ rfl
            have e86 : G.slot a (some 86) = .int .i64 (bytes.length : Nat) := hp 3 _ rfl
            have e87 : G.slot a (some 87) = .int .u64 (bytes.length : Nat) := hp 4 _ rfl
            have q88 : (fun w v => ∃ F, Bs w F v (be bytes.length 2)) wq (G.slot a (some 88)) := hp 5 _ rfl
            have e89 : G.slot a (some 89) = .pointer (some ⟨w.heap.size, 7, none⟩) := hp 6 _ rfl
            have e90 : G.slot a (some 90) = .slice A bytes.length c := hp 7 _ rfl
            have q91 : (fun w v => ∃ F, Bs w F v (be bytes.length 2 ++ bytes)) wq (G.slot a (some 91)) := hp 8 _ rfl
            have q92 : (fun w v => ∃ F, Bs w F v (sofar ++ FB 98)) wq (G.slot a (some 92)) := hp 9 _ rfl
            have q3 : (fun w v => ∃ F, Bs w F v (sofar ++ FB 98)) wq (G.slot a (some 3)) := hp 10 _ rfl
            have ha := G.act_of hS
            simp only [List.foldl_cons, List.foldl_nil, Act.put, List.setIfInBounds_toArray, List.set_cons_succ, List.set_cons_zero, e83, e84, e85, e86, e87, e89, e90] at ha
            generalize G.slot a (some 88) = s88 at q88 ha
            generalize G.slot a (some 91) = s91 at q91 ha
            generalize G.slot a (some 92) = s92 at q92 ha
            generalize G.slot a (some 3) = s3 at q3 ha
            clear hp hS hI hBe hP0 e83 e84 e85 e86 e87 e89 e90
            subst ha
            obtain ⟨F6, h6⟩ := q3
            rw [← HN.out] at h6
            have HO6 := Lib.hid h6
            have hBB := Below.trans (Below.refl w.heap.size _) (below_tr HBW.out hT)
            have HX6 := Lib.hid (heap_bl hT HX.out)
            clear h6 q92 q91 q88 hT
            go_wp2
            exact ⟨⟨k + 1, by omega, by go_num, ⟨_, HO6.out⟩, hBB, HX6.out⟩, by simp only [intOf]; omega⟩
      · rw [List.take_of_length_le (by omega)] at hs
        have HS := Lib.hid hs
        clear hs
        go_wp2
        go_ret
        exact ⟨u3, rfl, ⟨_, HS.out⟩, hB⟩

end Go.Proofs.Ytmcldnfemlaeiaa
