/- Layer 5's walk: an operation that writes into a file. Printed by gendo.py. No condition beyond sizes. -/
import Derived.Test.YtjgobljclodpfaaFi8
namespace Go.Proofs.Ytjgobljclodpfaa
open Go.RowKit Go.Shelf K L
set_option linter.unusedVariables false
set_option linter.unusedSimpArgs false

set_option maxRecDepth 100000 in
set_option maxHeartbeats 8000000 in
theorem do_2 (name new : List UInt8) (at_ : Int) (bytes : List UInt8) (vb : Value) (sb base : Nat) (v : Value) (es : List FE) (w : World) (F : Nat → Prop) (h : StP w sb base v es) (hr : rise (fls es) = true) (hl : es.length ≤ 64) (hc : cost (fls es) ≤ 32768) (hbw : base ≤ w.heap.size)
    (hvb : Bs w F vb bytes) (hs1 : bytes.length ≤ 1048576) (hs2 : name.length ≤ 1048576) (hs3 : new.length ≤ 1048576) (ha1 : -9223372036854775808 ≤ at_) (ha2 : at_ ≤ 9223372036854775807) (hn : nmOk name = true) (ht : there (fls es) name = true) :
    Calls Try.prog 35 #[.pointer (some ⟨sb, 0, none⟩), .agg #[.int .i64 2, .string ⟨name.toArray⟩, .string ⟨new.toArray⟩, .int .i64 at_, vb]] w (Done w sb base (fls es) ⟨2, name, new, at_, bytes⟩) := by
  have HVL := Lib.hid hvb
  obtain ⟨A0, c0, rfl, q1, q2, -, -⟩ := hvb.open_
  replace q2 : c0 ≤ 9223372036854775807 := by simpa [maxLen] using q2
  have HS := Lib.hid h
  have HR := Lib.hid hr
  obtain ⟨A, c, rfl, l1, l2⟩ := fs_form h.fs
  have hlow := h.low
  have hltS := h.lt
  clear h hr hvb
  obtain ⟨W, hW⟩ : ∃ W, w.alloc (.cells #[.int .i64 2, .string ⟨name.toArray⟩, .string ⟨new.toArray⟩, .int .i64 at_, .slice A0 bytes.length c0] 37) = W := ⟨_, rfl⟩
  have hB0 : Below w.heap.size w W := by rw [← hW]; exact below_al (Below.refl _ _) _
  have hx : W.heap[w.heap.size]? = some (.cells #[.int .i64 2, .string ⟨name.toArray⟩, .string ⟨new.toArray⟩, .int .i64 at_, .slice A0 bytes.length c0] 37 (0, 0)) := by rw [← hW]; exact heap_alloc_new _ _
  have HSW := Lib.hid (HS.out.next hB0)
  have HVW := Lib.hid (HVL.out.below hB0)
  have HX := Lib.hid hx
  have HB0 := Lib.hid hB0
  have hszW := hB0.size
  have b0 := cell_of hx 0
  have b1 := cell_of hx 1
  have b2 := cell_of hx 2
  have b3 := cell_of hx 3
  have b4 := cell_of hx 4
  simp at b0 b1 b2 b3 b4
  clear hB0 hx
  have HN := Lib.hid (name_any name W (by omega))
  rw [hn] at HN
  have hdo : doF (fls es) ⟨2, name, new, at_, bytes⟩ = (if at_ < 0 ∨ ((getFB (fls es) name).length : Int) < at_ then (2, fls es) else if 4096 - at_ < bytes.length then (3, fls es) else fin (putF (fls es) name (over (getFB (fls es) name) at_.toNat bytes))) := by unfold doF; rw [if_neg (by simp [opBad, hn]), if_neg (by simp [ht]), if_neg (by simp), if_pos rfl]
  have HFI := Lib.hid (fun (wq : World) (hT' : Below W.heap.size W wq) => ffind_any name (.slice A es.length c) es wq _ (HSW.out.next hT').fs HR.out (by omega))
  rw [ht] at HFI
  have hpl0 := there_lt ht
  rw [fls_len] at hpl0
  obtain ⟨p, hp, hpl, hfb⟩ : ∃ p, place (fls es) name = p ∧ ∃ hl : p < es.length, getFB (fls es) name = es[p].1.bytes := ⟨_, rfl, hpl0, getFB_at hpl0⟩
  rw [hp] at HFI
  clear hp hpl0
  rw [hfb] at hdo
  clear hfb
  have HDO := Lib.hid hdo
  clear hdo
  go_enter Try.func35, Try.ntmps35
  go_wp2_with fail
  refine (HN.out).mono ?_
  rintro e w' ⟨rfl, rfl⟩
  try rw [hW]
  clear hW
  go_wp2
  clear b0 b1 b2 b3 b4
  refine G.region_inv (by kernel_rfl) (by kernel_rfl) (fun w w' => Below w.heap.size w w') (fun _ _ _ h k => below_tr h k) (fun w _ => Below.refl _ _) (Below.refl _ _)
    (G.of [(fun (_ : World) (v : Value) => v = .pointer (some ⟨sb, 0, none⟩)), (fun (_ : World) (v : Value) => v = .pointer (some ⟨sb, 0, none⟩)), (fun (_ : World) (v : Value) => v = .pointer (some ⟨sb, 0, none⟩)), (fun (_ : World) (v : Value) => v = .pointer (some ⟨sb, 0, none⟩)), (fun (_ : World) (v : Value) => v = .slice A es.length c), (fun (_ : World) (v : Value) => v = .pointer (some ⟨w.heap.size, 1, none⟩)), (fun (_ : World) (v : Value) => v = .string ⟨name.toArray⟩), (fun (_ : World) (v : Value) => v = .tuple #[.int .i64 (p : Nat), .bool true]), (fun (_ : World) (v : Value) => v = .tuple #[.int .i64 (p : Nat), .bool true]), (fun (_ : World) (v : Value) => v = .int .i64 (p : Nat)), (fun (_ : World) (v : Value) => v = .bool true), (fun (_ : World) (v : Value) => v = .int .i64 (p : Nat)), (fun (_ : World) (v : Value) => v = .bool true)])
    (G.of_stays _ ?_) ?_ (G.each_ops ?_) ?_
  · exact ⟨(fun w w' v h k => h), (fun w w' v h k => h), (fun w w' v h k => h), (fun w w' v h k => h), (fun w w' v h k => h), (fun w w' v h k => h), (fun w w' v h k => h), (fun w w' v h k => h), (fun w w' v h k => h), (fun w w' v h k => h), (fun w w' v h k => h), (fun w w' v h k => h), (fun w w' v h k => h), trivial⟩
  · intro i o hi hd; exact absurd hd (G.no_none (by kernel_rfl) hi)
  · refine ⟨?_, ?_, ?_, ?_, ?_, ?_, ?_, ?_, ?_, ?_, ?_, ?_, ?_, trivial⟩
    all_goals intro a wq hT hS hp
    all_goals (have hT' : Below W.heap.size W wq := below_tr (Below.refl _ _).drew hT; have k0 := cell_of (HSW.out.next hT').cell 0; have k1 := cell_of (heap_bl hT' HX.out) 1; simp at k0 k1)
    · refine G.wanted_yes (G.wanted_plain rfl) ?_
      have e0 : a.tmps[0]?.getD undef = .pointer (some ⟨sb, 0, none⟩) := hS.at_ 0 rfl
      exact G.st_val (v := .pointer (some ⟨sb, 0, none⟩)) (w' := wq) (by simp [execOp, go_sem, e0, k0, k1] <;> omega) ⟨_, rfl, Below.refl _ _, rfl⟩
    · refine G.wanted_yes (G.wanted_plain rfl) ?_
      have e36 : a.tmps[36]?.getD undef = .pointer (some ⟨sb, 0, none⟩) := hp ⟨0, .data⟩ (by simp) rfl _ rfl
      exact G.st_val (v := .pointer (some ⟨sb, 0, none⟩)) (w' := wq) (by simp [execOp, go_sem, e36, k0, k1] <;> omega) ⟨_, rfl, Below.refl _ _, rfl⟩
    · refine G.wanted_yes (G.wanted_plain rfl) ?_
      have e37 : a.tmps[37]?.getD undef = .pointer (some ⟨sb, 0, none⟩) := hp ⟨1, .data⟩ (by simp) rfl _ rfl
      exact G.st_val (v := .pointer (some ⟨sb, 0, none⟩)) (w' := wq) (by simp [execOp, go_sem, e37, k0, k1] <;> omega) ⟨_, rfl, Below.refl _ _, rfl⟩
    · refine G.wanted_yes (G.wanted_plain rfl) ?_
      have e38 : a.tmps[38]?.getD undef = .pointer (some ⟨sb, 0, none⟩) := hp ⟨2, .data⟩ (by simp) rfl _ rfl
      exact G.st_val (v := .pointer (some ⟨sb, 0, none⟩)) (w' := wq) (by simp [execOp, go_sem, e38, k0, k1] <;> omega) ⟨_, rfl, Below.refl _ _, rfl⟩
    · refine G.wanted_yes (G.wanted_plain rfl) ?_
      have e39 : a.tmps[39]?.getD undef = .pointer (some ⟨sb, 0, none⟩) := hp ⟨3, .data⟩ (by simp) rfl _ rfl
      exact G.st_val (v := .slice A es.length c) (w' := wq) (by simp [execOp, go_sem, e39, k0, k1] <;> omega) ⟨_, rfl, Below.refl _ _, rfl⟩
    · refine G.wanted_yes (G.wanted_plain rfl) ?_
      have e3 : a.tmps[3]?.getD undef = .pointer (some ⟨w.heap.size, 0, none⟩) := hS.at_ 3 rfl
      exact G.st_val (v := .pointer (some ⟨w.heap.size, 1, none⟩)) (w' := wq) (by simp [execOp, go_sem, e3, k0, k1] <;> omega) ⟨_, rfl, Below.refl _ _, rfl⟩
    · refine G.wanted_yes (G.wanted_plain rfl) ?_
      have e41 : a.tmps[41]?.getD undef = .pointer (some ⟨w.heap.size, 1, none⟩) := hp ⟨5, .data⟩ (by simp) rfl _ rfl
      exact G.st_val (v := .string ⟨name.toArray⟩) (w' := wq) (by simp [execOp, go_sem, e41, k0, k1] <;> omega) ⟨_, rfl, Below.refl _ _, rfl⟩
    · refine G.wanted_yes (G.wanted_plain rfl) ?_
      have e40 : a.tmps[40]?.getD undef = .slice A es.length c := hp ⟨4, .data⟩ (by simp) rfl _ rfl
      have e42 : a.tmps[42]?.getD undef = .string ⟨name.toArray⟩ := hp ⟨6, .data⟩ (by simp) rfl _ rfl
      exact G.st_call (f := 39) (args := #[.slice A es.length c, .string ⟨name.toArray⟩]) (by simp [execOp, go_sem, e40, e42]) ((HFI.out wq hT').mono (fun e w' h => ⟨_, h.1, _, rfl, h.2, rfl⟩))
    · refine G.wanted_yes (G.wanted_plain rfl) ?_
      have e43 : a.tmps[43]?.getD undef = .tuple #[.int .i64 (p : Nat), .bool true] := hp ⟨7, .data⟩ (by simp) rfl _ rfl
      exact G.st_val (v := .tuple #[.int .i64 (p : Nat), .bool true]) (w' := wq) (by simp [execOp, go_sem, e43, k0, k1] <;> omega) ⟨_, rfl, Below.refl _ _, rfl⟩
    · refine G.wanted_yes (G.wanted_plain rfl) ?_
      have e35 : a.tmps[35]?.getD undef = .tuple #[.int .i64 (p : Nat), .bool true] := hp ⟨8, .data⟩ (by simp) rfl _ rfl
      exact G.st_val (v := .int .i64 (p : Nat)) (w' := wq) (by simp [execOp, go_sem, e35, k0, k1] <;> omega) ⟨_, rfl, Below.refl _ _, rfl⟩
    · refine G.wanted_yes (G.wanted_plain rfl) ?_
      have e35 : a.tmps[35]?.getD undef = .tuple #[.int .i64 (p : Nat), .bool true] := hp ⟨8, .data⟩ (by simp) rfl _ rfl
      exact G.st_val (v := .bool true) (w' := wq) (by simp [execOp, go_sem, e35, k0, k1] <;> omega) ⟨_, rfl, Below.refl _ _, rfl⟩
    · refine G.wanted_yes (G.wanted_plain rfl) ?_
      have e44 : a.tmps[44]?.getD undef = .int .i64 (p : Nat) := hp ⟨9, .data⟩ (by simp) rfl _ rfl
      exact G.st_val (v := .int .i64 (p : Nat)) (w' := wq) (by simp [execOp, go_sem, e44, k0, k1] <;> omega) ⟨_, rfl, Below.refl _ _, rfl⟩
    · refine G.wanted_yes (G.wanted_plain rfl) ?_
      have e45 : a.tmps[45]?.getD undef = .bool true := hp ⟨10, .data⟩ (by simp) rfl _ rfl
      exact G.st_val (v := .bool true) (w' := wq) (by simp [execOp, go_sem, e45, k0, k1] <;> omega) ⟨_, rfl, Below.refl _ _, rfl⟩
  · intro a wq hT hS hp
    have e36 : G.slot a (some 36) = .pointer (some ⟨sb, 0, none⟩) := hp 0 _ rfl
    have e37 : G.slot a (some 37) = .pointer (some ⟨sb, 0, none⟩) := hp 1 _ rfl
    have e38 : G.slot a (some 38) = .pointer (some ⟨sb, 0, none⟩) := hp 2 _ rfl
    have e39 : G.slot a (some 39) = .pointer (some ⟨sb, 0, none⟩) := hp 3 _ rfl
    have e40 : G.slot a (some 40) = .slice A es.length c := hp 4 _ rfl
    have e41 : G.slot a (some 41) = .pointer (some ⟨w.heap.size, 1, none⟩) := hp 5 _ rfl
    have e42 : G.slot a (some 42) = .string ⟨name.toArray⟩ := hp 6 _ rfl
    have e43 : G.slot a (some 43) = .tuple #[.int .i64 (p : Nat), .bool true] := hp 7 _ rfl
    have e35 : G.slot a (some 35) = .tuple #[.int .i64 (p : Nat), .bool true] := hp 8 _ rfl
    have e44 : G.slot a (some 44) = .int .i64 (p : Nat) := hp 9 _ rfl
    have e45 : G.slot a (some 45) = .bool true := hp 10 _ rfl
    have e5 : G.slot a (some 5) = .int .i64 (p : Nat) := hp 11 _ rfl
    have e6 : G.slot a (some 6) = .bool true := hp 12 _ rfl
    have ha := G.act_of hS
    simp only [List.foldl_cons, List.foldl_nil, Act.put, List.setIfInBounds_toArray, List.set_cons_succ, List.set_cons_zero, e36, e37, e38, e39, e40, e41, e42, e43, e35, e44, e45, e5, e6] at ha
    clear hp hS e36 e37 e38 e39 e40 e41 e42 e43 e35 e44 e45 e5 e6
    subst ha
    have hT2 : Below W.heap.size W wq := below_tr (Below.refl _ _).drew hT
    have HSq := Lib.hid (HSW.out.next hT2)
    have HVq := Lib.hid (HVW.out.below hT2)
    have HBq := Lib.hid (below_tr HB0.out hT2)
    have hxq := heap_bl hT2 HX.out
    have HXq := Lib.hid hxq
    have hszq := hT2.size
    have b0 := cell_of hxq 0
    have b1 := cell_of hxq 1
    have b2 := cell_of hxq 2
    have b3 := cell_of hxq 3
    have b4 := cell_of hxq 4
    simp at b0 b1 b2 b3 b4
    have k0 := cell_of HSq.out.cell 0
    simp at k0
    clear hT hT2 hxq
    obtain ⟨bA, o, hA, hbA, r0, r1⟩ := fs_at HSq.out.fs p hpl
    subst hA
    have hyb := HSq.out.inn es[p] (List.getElem_mem hpl)
    have hyc := cost_at es p hpl
    generalize es[p] = y at *
    obtain ⟨y, vy⟩ := y
    dsimp only at r0 r1 hyb hyc
    obtain ⟨Ay, cy, rfl, y1, y2, -, -⟩ := hyb.open_
    replace y2 : cy ≤ 9223372036854775807 := by simpa [maxLen] using y2
    have HYB := Lib.hid hyb
    clear hyb
    by_cases hat : at_ < 0 ∨ (y.bytes.length : Int) < at_
    · have HD := Lib.hid (HDO.out.trans (by rw [if_pos hat]))
      rcases hat with hat | hat
      · go_wp2
        go_ret
        exact ⟨by rw [HD.out]; rfl, _, es, HSq.out, by rw [HD.out], HBq.out.mono hbw⟩
      · have hat2 : ¬ (at_ < 0) := by omega
        go_wp2
        go_ret
        exact ⟨by rw [HD.out]; rfl, _, es, HSq.out, by rw [HD.out], HBq.out.mono hbw⟩
    obtain ⟨n, rfl⟩ : ∃ n : Nat, at_ = n := ⟨at_.toNat, by omega⟩
    have hn1 : n ≤ y.bytes.length := by omega
    by_cases hbig : 4096 - (n : Int) < bytes.length
    · have HD := Lib.hid (HDO.out.trans (by rw [if_neg hat, if_pos hbig]))
      clear hat
      go_wp2
      go_ret
      exact ⟨by rw [HD.out]; rfl, _, es, HSq.out, by rw [HD.out], HBq.out.mono hbw⟩
    · obtain ⟨LZ, hLZ⟩ : ∃ l, putF (fls es) name (over y.bytes n bytes) = l := ⟨_, rfl⟩
      have HD := Lib.hid (show doF (fls es) ⟨2, name, new, (n : Int), bytes⟩ = fin LZ by rw [HDO.out, if_neg hat, if_neg hbig, Int.toNat_natCast, hLZ])
      have hol : (over y.bytes n bytes).length ≤ 2000000 := by simp only [over, List.length_append, List.length_take, List.length_drop]; omega
      have HCB := Lib.hid (show cost LZ ≤ 100000000 by rw [← hLZ]; have := cost_put (fls es) name (over y.bytes n bytes); omega)
      have HLZ := Lib.hid hLZ
      clear hat hLZ
      obtain ⟨Y, rfl⟩ : ∃ Y, Y = wq := ⟨_, rfl⟩
      have hlt : (y.bytes.take n).length = n := by rw [List.length_take]; omega
      have HPRE := Lib.hid (bs_pre HYB.out n hn1)
      go_wp2
      refine G.region_split 7 (by kernel_rfl) (by kernel_rfl) (G.any_inv (by kernel_rfl) (fun w w' => Below w.heap.size w w') (fun _ _ _ h k => below_tr h k) (fun w _ => Below.refl _ _) (Below.refl _ _)
        (G.of [(fun (_ : World) (v : Value) => v = .slice Ay y.bytes.length cy), (fun (_ : World) (v : Value) => v = .pointer (some ⟨w.heap.size, 3, none⟩)), (fun (_ : World) (v : Value) => v = .int .i64 (n : Nat)), (fun (_ : World) (v : Value) => v = .slice Ay n cy), (ObP Y.heap.size (y.bytes.take n)), (fun (_ : World) (v : Value) => v = .pointer (some ⟨w.heap.size, 4, none⟩)), (fun (_ : World) (v : Value) => v = .slice A0 bytes.length c0)])
        (G.of_stays _ ?_) ?_ (G.each_ops ?_) ?_)
      · exact ⟨(fun w w' v h k => h), (fun w w' v h k => h), (fun w w' v h k => h), (fun w w' v h k => h), (fun w w' v h k => by first | exact h | exact G.keep_bs h k | exact Ls.below h k | exact CopP.fresh h k | exact AggP.fresh h k | exact SrcP.fresh h k | exact Bs.below h k | exact ClP.fresh h k | exact Emp.fresh h k | exact LitF.fresh h k | exact ObP.fresh h k | exact CpF.fresh h k | (obtain ⟨x1, x2, F', hb⟩ := h; exact ⟨x1, x2, F', hb.below k⟩)), (fun w w' v h k => h), (fun w w' v h k => h), trivial⟩
      · intro i o hi hd; exact absurd hd (G.no_none (by kernel_rfl) hi)
      · refine ⟨?_, ?_, ?_, ?_, ?_, ?_, ?_, trivial⟩
        all_goals intro a wq hT hS hp
        all_goals (have hT' : Below Y.heap.size Y wq := below_tr (Below.refl _ _).drew hT; have kx := heap_bl hT' HXq.out; have k0 := cell_of kx 3; have k1 := cell_of kx 4; clear kx; simp at k0 k1)
        · refine G.wanted_yes (G.wanted_plain rfl) ?_
          have e7 : a.tmps[7]?.getD undef = .slice Ay y.bytes.length cy := hS.at_ 7 rfl
          exact G.st_val (v := .slice Ay y.bytes.length cy) (w' := wq) (by simp [execOp, go_sem, e7, k0, k1] <;> omega) ⟨_, rfl, Below.refl _ _, rfl⟩
        · refine G.wanted_yes (G.wanted_plain rfl) ?_
          have e3 : a.tmps[3]?.getD undef = .pointer (some ⟨w.heap.size, 0, none⟩) := hS.at_ 3 rfl
          exact G.st_val (v := .pointer (some ⟨w.heap.size, 3, none⟩)) (w' := wq) (by simp [execOp, go_sem, e3, k0, k1] <;> omega) ⟨_, rfl, Below.refl _ _, rfl⟩
        · refine G.wanted_yes (G.wanted_plain rfl) ?_
          have e98 : a.tmps[98]?.getD undef = .pointer (some ⟨w.heap.size, 3, none⟩) := hp ⟨1, .data⟩ (by simp) rfl _ rfl
          exact G.st_val (v := .int .i64 (n : Nat)) (w' := wq) (by simp [execOp, go_sem, e98, k0, k1] <;> omega) ⟨_, rfl, Below.refl _ _, rfl⟩
        · refine G.wanted_yes (G.wanted_plain rfl) ?_
          have e97 : a.tmps[97]?.getD undef = .slice Ay y.bytes.length cy := hp ⟨0, .data⟩ (by simp) rfl _ rfl
          have e99 : a.tmps[99]?.getD undef = .int .i64 (n : Nat) := hp ⟨2, .data⟩ (by simp) rfl _ rfl
          exact G.st_val (v := .slice Ay n cy) (w' := wq) (by simp [execOp, go_sem, e97, e99, k0, k1] <;> omega) ⟨_, rfl, Below.refl _ _, rfl⟩
        · refine G.wanted_yes (G.wanted_plain rfl) ?_
          have e100 : a.tmps[100]?.getD undef = .slice Ay n cy := hp ⟨3, .data⟩ (by simp) rfl _ rfl
          refine G.st_call (f := 40) (args := #[.slice Ay n cy]) (by simp [execOp, go_sem, e100]) ((clone_any _ (y.bytes.take n) wq _ (HPRE.out.below hT') (by omega)).mono ?_); rintro e w2 ⟨v2, rfl, ho2, hb2⟩; exact ⟨v2, rfl, v2, rfl, hb2, own_low ho2 hT'.size⟩
        · refine G.wanted_yes (G.wanted_plain rfl) ?_
          have e3 : a.tmps[3]?.getD undef = .pointer (some ⟨w.heap.size, 0, none⟩) := hS.at_ 3 rfl
          exact G.st_val (v := .pointer (some ⟨w.heap.size, 4, none⟩)) (w' := wq) (by simp [execOp, go_sem, e3, k0, k1] <;> omega) ⟨_, rfl, Below.refl _ _, rfl⟩
        · refine G.wanted_yes (G.wanted_plain rfl) ?_
          have e102 : a.tmps[102]?.getD undef = .pointer (some ⟨w.heap.size, 4, none⟩) := hp ⟨5, .data⟩ (by simp) rfl _ rfl
          exact G.st_val (v := .slice A0 bytes.length c0) (w' := wq) (by simp [execOp, go_sem, e102, k0, k1] <;> omega) ⟨_, rfl, Below.refl _ _, rfl⟩
      · intro a wq hT hS hp
        have e97 : G.slot a (some 97) = .slice Ay y.bytes.length cy := hp 0 _ rfl
        have e98 : G.slot a (some 98) = .pointer (some ⟨w.heap.size, 3, none⟩) := hp 1 _ rfl
        have e99 : G.slot a (some 99) = .int .i64 (n : Nat) := hp 2 _ rfl
        have e100 : G.slot a (some 100) = .slice Ay n cy := hp 3 _ rfl
        have q101 : (ObP Y.heap.size (y.bytes.take n)) wq (G.slot a (some 101)) := hp 4 _ rfl
        have e102 : G.slot a (some 102) = .pointer (some ⟨w.heap.size, 4, none⟩) := hp 5 _ rfl
        have e103 : G.slot a (some 103) = .slice A0 bytes.length c0 := hp 6 _ rfl
        have ha := G.act_of hS
        simp only [List.take_succ_cons, List.take_zero, List.foldl_cons, List.foldl_nil, Act.put, List.setIfInBounds_toArray, List.set_cons_succ, List.set_cons_zero, e97, e98, e99, e100, e102, e103] at ha
        generalize G.slot a (some 101) = s101 at q101 ha
        clear hp hS e97 e98 e99 e100 e102 e103
        subst ha
        show wpList _ _ _ _ _ _
        simp only [List.drop_succ_cons, List.drop_zero]
        have hT2 : Below Y.heap.size Y wq := below_tr (Below.refl _ _).drew hT
        have HSr := Lib.hid (HSq.out.next hT2)
        have HSRC := Lib.hid (HVq.out.below hT2)
        have HXr := Lib.hid (heap_bl hT2 HXq.out)
        have HYr := Lib.hid (HYB.out.below hT2)
        have HTr := Lib.hid hT2
        have hszr := hT2.size
        have kx := HXr.out
        have k0 := cell_of kx 1
        simp at k0
        have HO := Lib.hid (of_ob q101 hlt)
        clear hT hT2 q101 kx b0 b1 b2 b3 b4 r0 r1
        by_cases hlong : n + bytes.length < y.bytes.length
        · obtain ⟨yb, yo, rfl⟩ := bs_some HYB.out (by omega)
          go_wp2_with (at_builtin; go_loud (first | (refine app Try.el8 rfl _ _ rfl Y.heap.size HO.out HSRC.out rfl rfl (one_bvs _) (by omega) (by decide) hszr ?_; intro v3 w3 ho hg; rw [bvs_app] at ho; have HB3 := Lib.hid (own_below HTr.out HO.out hg (Nat.le_refl _)); have HO3 := Lib.hid ho; obtain ⟨A3, c3, rfl, -⟩ := own_slice ho; clear ho hg; have hs3 := HB3.out.size; have HR3 := Lib.hid (bs_rest (HYB.out.below HB3.out) (n + bytes.length) (by omega) (by omega))) | (refine app Try.el8 rfl _ _ rfl Y.heap.size HO3.out HR3.out rfl rfl (one_bvs _) (by simp only [List.length_drop]; omega) (by decide) hs3 ?_; intro v4 w4 ho hg; rw [bvs_app] at ho; have HOV := Lib.hid (ob_of ho (by simp only [List.length_append, List.length_take, List.length_drop]; omega)).bs; have HB4 := Lib.hid (own_below HB3.out HO3.out hg (Nat.le_refl _)); clear ho hg; have kx := heap_bl HB4.out HXq.out; have k1 := cell_of kx 1; simp at k1; clear kx)))
          have HS2 := Lib.hid (HSq.out.next HB4.out)
          have hs4 := HB4.out.size
          have HT := Lib.hid (fput_any name (over y.bytes n bytes) sb base _ _ es w4 _ HS2.out HR.out (by omega) (by omega) HOV.out (by omega))
          rw [HLZ.out] at HT
          clear HLZ HOV HO3 HR3 HO HSRC HYr
          refine (HT.out).mono ?_
          rintro e wz ⟨rfl, vz, ez, hz, hfz, hbz, huz⟩
          have HZ := Lib.hid hz
          have HFZ := Lib.hid hfz
          have HBZ := Lib.hid ((((HBq.out.mono hbw).trans (HB4.out.mono (Nat.le_trans hbw HBq.out.size)))).trans hbz)
          have HBZ2 := Lib.hid hbz.size
          have HBW := Lib.hid ((by omega : w.heap.size ≤ w4.heap.size))
          clear hz hfz hbz huz
          have z0 := cell_of HZ.out.cell 0
          simp at z0
          obtain ⟨Az, cz, rfl, n1, n2⟩ := fs_form HZ.out.fs
          have hez : ez.length = LZ.length := by rw [← HFZ.out, fls_len]
          have HEZ := Lib.hid hez
          by_cases h64 : 64 < ez.length
          · have HE := Lib.hid (HD.out.trans (fin_no (.inl (by omega))))
            clear hez
            go_wp2
            go_ret
            exact ⟨by rw [HE.out]; rfl, _, ez, HZ.out, by rw [HE.out]; exact HFZ.out, HBZ.out⟩
          · have hle : LZ.length ≤ 64 := by omega
            have HLE := Lib.hid hle
            clear hez hle
            go_wp2_with fail
            refine (cost_any _ ez _ _ HZ.out.fs (by rw [HFZ.out]; have := HCB.out; omega)).mono ?_
            rintro e wf ⟨rfl, hbf⟩
            have HZf := Lib.hid (HZ.out.next hbf)
            have HBf := Lib.hid (HBZ.out.trans (hbf.mono (Nat.le_trans hbw (Nat.le_trans HBW.out HBZ2.out))))
            rw [HFZ.out]
            clear hbf
            by_cases hcz : 32768 < cost LZ
            · have HE := Lib.hid (HD.out.trans (fin_no (.inr hcz)))
              go_wp2
              go_ret
              exact ⟨by rw [HE.out]; rfl, _, ez, HZf.out, by rw [HE.out]; exact HFZ.out, HBf.out⟩
            · have HE := Lib.hid (HD.out.trans (fin_yes HLE.out (by omega)))
              go_wp2
              go_ret
              exact ⟨by rw [HE.out]; rfl, _, ez, HZf.out, by rw [HE.out]; exact HFZ.out, HBf.out⟩
        · have hov : over y.bytes n bytes = y.bytes.take n ++ bytes := by unfold over; rw [List.drop_of_length_le (by omega), List.append_nil]
          rw [hov] at HLZ hol
          go_wp2_with (at_builtin; refine app Try.el8 rfl _ _ rfl Y.heap.size HO.out HSRC.out rfl rfl (one_bvs _) (by omega) (by decide) hszr ?_; intro v3 w3 ho hg; rw [bvs_app] at ho; have HOV := Lib.hid (ob_of ho (by simp only [List.length_append, List.length_take]; omega)).bs; have HB4 := Lib.hid (own_below HTr.out HO.out hg (Nat.le_refl _)); obtain ⟨A3, c3, rfl, -⟩ := own_slice ho; clear ho hg; have kx := heap_bl HB4.out HXq.out; have k1 := cell_of kx 1; simp at k1; clear kx)
          have HS2 := Lib.hid (HSq.out.next HB4.out)
          have hs4 := HB4.out.size
          have hlx : (y.bytes.take n ++ bytes).length = n + bytes.length := by simp only [List.length_append, List.length_take]; omega
          have HT := Lib.hid (fput_any name (y.bytes.take n ++ bytes) sb base _ _ es w3 _ HS2.out HR.out (by omega) (by omega) HOV.out (by omega))
          rw [HLZ.out] at HT
          clear HLZ HOV HO HSRC HYr
          refine (HT.out).mono ?_
          rintro e wz ⟨rfl, vz, ez, hz, hfz, hbz, huz⟩
          have HZ := Lib.hid hz
          have HFZ := Lib.hid hfz
          have HBZ := Lib.hid ((((HBq.out.mono hbw).trans (HB4.out.mono (Nat.le_trans hbw HBq.out.size)))).trans hbz)
          have HBZ2 := Lib.hid hbz.size
          have HBW := Lib.hid ((by omega : w.heap.size ≤ w3.heap.size))
          clear hz hfz hbz huz
          have z0 := cell_of HZ.out.cell 0
          simp at z0
          obtain ⟨Az, cz, rfl, n1, n2⟩ := fs_form HZ.out.fs
          have hez : ez.length = LZ.length := by rw [← HFZ.out, fls_len]
          have HEZ := Lib.hid hez
          by_cases h64 : 64 < ez.length
          · have HE := Lib.hid (HD.out.trans (fin_no (.inl (by omega))))
            clear hez
            go_wp2
            go_ret
            exact ⟨by rw [HE.out]; rfl, _, ez, HZ.out, by rw [HE.out]; exact HFZ.out, HBZ.out⟩
          · have hle : LZ.length ≤ 64 := by omega
            have HLE := Lib.hid hle
            clear hez hle
            go_wp2_with fail
            refine (cost_any _ ez _ _ HZ.out.fs (by rw [HFZ.out]; have := HCB.out; omega)).mono ?_
            rintro e wf ⟨rfl, hbf⟩
            have HZf := Lib.hid (HZ.out.next hbf)
            have HBf := Lib.hid (HBZ.out.trans (hbf.mono (Nat.le_trans hbw (Nat.le_trans HBW.out HBZ2.out))))
            rw [HFZ.out]
            clear hbf
            by_cases hcz : 32768 < cost LZ
            · have HE := Lib.hid (HD.out.trans (fin_no (.inr hcz)))
              go_wp2
              go_ret
              exact ⟨by rw [HE.out]; rfl, _, ez, HZf.out, by rw [HE.out]; exact HFZ.out, HBf.out⟩
            · have HE := Lib.hid (HD.out.trans (fin_yes HLE.out (by omega)))
              go_wp2
              go_ret
              exact ⟨by rw [HE.out]; rfl, _, ez, HZf.out, by rw [HE.out]; exact HFZ.out, HBf.out⟩

end Go.Proofs.Ytjgobljclodpfaa
