/- Layer 27: crashed, rises, there: the functions within May. No condition beyond sizes. -/
import Derived.Test.YtfdijgdojejimaaId5
import Derived.Test.YtfdijgdojejimaaG
namespace Go.Proofs.Ytfdijgdojejimaa
open Go.RowKit Go.Shelf K L
set_option linter.unusedVariables false
set_option linter.unusedSimpArgs false

set_option maxHeartbeats 1000000 in
theorem cl25 (b : Nat) (n : Int) (w0 : World) (hn : w0.heap[b]? = some (.cells #[.int .i64 n] 3)) : Holds 25 #[.pointer (some ⟨b, 0, none⟩)] (fun x => x.node == n) w0 := by
  refine ⟨enters_of Try.func25 (by kernel_rfl) rfl, ?_⟩
  rintro W ⟨x, vb⟩ hW hx
  have hn1 := heap_bb hW hn (heap_lt hn)
  have hlt := heap_lt hn1
  have hc := cell_of hn1 0
  simp at hc
  show Calls Try.prog 25 #[.agg (x.cells vb).toArray, .pointer (some ⟨b, 0, none⟩)] W _
  unfold Fact.cells
  clear hn hn1 hx
  go_enter Try.func25, Try.ntmps25
  go_wp2
  go_ret
  exact ⟨rfl, (Below.refl _ _).alloc (Nat.le_refl _) _⟩

/-- The box of 'have'. -/
def HB (w : World) (b bp : Nat) : Prop := w.heap[b]? = some (.cells #[.func (.func 20) #[] #[.pointer (some ⟨bp, 0, none⟩)]] 54)

set_option maxHeartbeats 1000000 in
theorem crashed_any (w0 : World) (bp bh : Nat) (es : List (FA w0)) (hle : es.length ≤ 1048576) (n : Int) (w : World) (hw : Below w0.heap.size w0 w) (hP : PB w bp w0 es) (hH : HB w bh bp) :
    Calls Try.prog 24 #[.int .i64 n, .pointer (some ⟨bh, 0, none⟩)] w fun e w' => e = .returned (.bool (crashed (facts es) n)) ∧ Below w.heap.size w w' := by
  have hc := cell_of hH 0
  simp at hc
  have hlt := heap_lt hH
  go_enter Try.func24, Try.ntmps24
  have hb1 : Below w.heap.size w (w.alloc (.cells #[.int .i64 n] 3)) := (Below.refl _ _).alloc (Nat.le_refl _) _
  have hP1 := hP.below hb1
  have hn := heap_new w (.cells #[.int .i64 n] 3)
  have HC := Lib.hid (have_any w0 bp es hle 5 25 #[.pointer (some ⟨w.heap.size, 0, none⟩)] (fun x => x.node == n) _ (cl25 _ n _ hn) (hw.trans (hb1.mono hw.size)) _ (Below.refl _ _) hP1)
  clear hP1 hn
  go_wp2_with fail
  refine HC.out.mono ?_
  rintro e w' ⟨rfl, hb⟩
  go_wp2
  go_ret
  exact ⟨rfl, below_tr hb1 hb⟩

set_option maxHeartbeats 1000000 in
theorem there_any (w0 : World) (bp bh bc bk bf : Nat) (es : List (FA w0)) (hle : es.length ≤ 1048576) (f : Fact) (vf : Value) (w : World) (hw : Below w0.heap.size w0 w) (hP : PB w bp w0 es) (hH : HB w bh bp) (hf : FB w bf f vf) (hvf : Bs w (· < w.heap.size) vf f.bytes)
    (hC : w.heap[bc]? = some (.cells #[.func (.func 24) #[] #[.pointer (some ⟨bh, 0, none⟩)]] 55)) (hK : w.heap[bk]? = some (.cells #[.func (.func 18) #[] #[.pointer (some ⟨bf, 0, none⟩)]] 48)) :
    Calls Try.prog 34 #[.pointer (some ⟨bc, 0, none⟩), .pointer (some ⟨bf, 0, none⟩), .pointer (some ⟨bh, 0, none⟩), .pointer (some ⟨bk, 0, none⟩)] w fun e w' => e = .returned (.bool (crashed (facts es) f.frm || hv (facts es) 6 (fun x => f.back x && f.num x))) ∧ Below w.heap.size w w' := by
  have hc := cell_of hC 0
  have hh := cell_of hH 0
  simp at hc hh
  obtain ⟨z0, z1, z2, z3, z4, z5, z6⟩ := hf.cells
  have HC := Lib.hid (crashed_any w0 bp bh es hle f.frm w hw hP hH)
  have HK := Lib.hid hK
  clear hK hC
  go_enter Try.func34, Try.ntmps34
  go_wp2_with fail
  refine HC.out.mono ?_
  rintro e w1 ⟨rfl, hb⟩
  have hh1 := cell_of (heap_bl hb hH) 0
  simp at hh1
  have hP1 := hP.below hb
  have HX := Lib.hid (have_any w0 bp es hle 6 35 #[.pointer (some ⟨bk, 0, none⟩), .pointer (some ⟨bf, 0, none⟩)] (fun x => f.back x && f.num x) w1 (cl10_1 bk bf f vf w1 (heap_bl hb hf) (bs_lift hvf hb) (heap_bl hb HK.out)) (hw.trans (hb.mono hw.size)) w1 (Below.refl _ _) hP1)
  cases h1 : crashed (facts es) f.frm
  · go_wp2_with fail
    refine HX.out.mono ?_
    rintro e w2 ⟨rfl, hb2⟩
    go_wp2
    go_ret
    exact ⟨ret_bool (by rw [h1]; simp), below_tr hb hb2⟩
  · go_wp2
    go_ret
    exact ⟨ret_bool (by rw [h1]; simp), hb⟩

set_option maxRecDepth 100000 in
set_option maxHeartbeats 4000000 in
theorem rises_any (w0 : World) (bp bf : Nat) (es : List (FA w0)) (hle : es.length ≤ 1048576) (f : Fact) (vf : Value) (g : Nat) (lb : Array Value) (p : Fact → Bool) (w : World) (hw : Below w0.heap.size w0 w) (hp : Holds g lb p w) (hP : PB w bp w0 es) (hf : FB w bf f vf) :
    Calls Try.prog 26 #[.func (.func g) #[] lb, .pointer (some ⟨bf, 0, none⟩), .pointer (some ⟨bp, 0, none⟩)] w fun e w' => e = .returned (.bool (decide (f.number = 0) || decide (great (facts es) f.kind p < f.number))) ∧ Below w.heap.size w w' := by
  obtain ⟨v, hbx, hS⟩ := hP
  have hS' := hS
  obtain ⟨-, A, c, rfl, -, -, -, -⟩ := hS
  have HBX := Lib.hid hbx
  have HF := Lib.hid hf
  have HP := Lib.hid hp
  obtain ⟨z0, z1, z2, z3, z4, z5, z6⟩ := FB.cells hf
  clear hbx hf hp
  go_enter Try.func26, Try.ntmps26
  by_cases h0 : f.number = 0
  · have hd : ((f.number : Int) == 0) = true := by simp [h0]
    have HZ := Lib.hid h0
    clear h0
    go_wp2
    go_quiet (fail)
    go_wp2
    go_ret
    exact ⟨ret_bool (by rw [HZ.out]; simp), below_dn (Below.refl _ _) _⟩
  · have hd0 : ((f.number : Int) == 0) = false := by simp; omega
    have hgt : great (facts es) f.kind p = great (facts es) f.kind p := rfl
    go_wp2
    refine G.region_inv (by kernel_rfl) (by kernel_rfl) (fun w w' => Below w.heap.size w w') (fun _ _ _ h k => below_tr h k) (fun w _ => Below.refl _ _) (Below.refl _ _)
      (G.of [(fun (_ : World) (v : Value) => v = .pointer (some ⟨bf, 3, none⟩)), (fun (_ : World) (v : Value) => v = .int .u32 (f.number : Nat)), (fun (_ : World) (v : Value) => v = .bool false), (fun (_ : World) (v : Value) => v = .bool false), (fun (_ : World) (v : Value) => v = .pointer (some ⟨bf, 3, none⟩)), (fun (_ : World) (v : Value) => v = .int .u32 (f.number : Nat)), (fun (_ : World) (v : Value) => v = .slice A es.length c), (fun (_ : World) (v : Value) => v = .pointer (some ⟨bf, 0, none⟩)), (fun (_ : World) (v : Value) => v = .int .i64 f.kind), (fun (_ : World) (v : Value) => v = .func (.func g) #[] lb), (fun (_ : World) (v : Value) => v = .int .u32 (great (facts es) f.kind p : Nat)), (fun (_ : World) (v : Value) => v = .bool (decide (great (facts es) f.kind p < f.number))), (fun (_ : World) (v : Value) => v = .bool (decide (great (facts es) f.kind p < f.number))), (fun (_ : World) (v : Value) => v = .bool (decide (great (facts es) f.kind p < f.number)))])
      (G.of_stays _ ?_) ?_ (G.each_ops ?_) ?_
    · exact ⟨(fun w w' v h k => h), (fun w w' v h k => h), (fun w w' v h k => h), (fun w w' v h k => h), (fun w w' v h k => h), (fun w w' v h k => h), (fun w w' v h k => h), (fun w w' v h k => h), (fun w w' v h k => h), (fun w w' v h k => h), (fun w w' v h k => h), (fun w w' v h k => h), (fun w w' v h k => h), (fun w w' v h k => h), trivial⟩
    · intro i o hi hd; exact absurd hd (G.no_none (by kernel_rfl) hi)
    · refine ⟨?_, ?_, ?_, ?_, ?_, ?_, ?_, ?_, ?_, ?_, ?_, ?_, ?_, ?_, trivial⟩
      all_goals intro a wq hT hS hp
      all_goals (have hT' : Below w.heap.size w wq := below_tr (Below.refl _ _).drew hT; have hff : FB wq bf f vf := heap_bl hT HF.out; have hpp := cell_of (heap_bl hT HBX.out) 0; simp at hpp; obtain ⟨z0, z1, z2, z3, z4, z5, z6⟩ := FB.cells hff)
      · refine G.wanted_yes (G.wanted_plain rfl) ?_
        have e1 : a.tmps[1]?.getD undef = .pointer (some ⟨bf, 0, none⟩) := hS.at_ 1 rfl
        exact G.st_val (v := .pointer (some ⟨bf, 3, none⟩)) (w' := wq) (by simp [execOp, go_sem, e1, z0, z3, hpp, hd0] <;> omega) ⟨_, rfl, Below.refl _ _, rfl⟩
      · refine G.wanted_yes (G.wanted_plain rfl) ?_
        have e5 : a.tmps[5]?.getD undef = .pointer (some ⟨bf, 3, none⟩) := hp ⟨0, .data⟩ (by simp) rfl _ rfl
        exact G.st_val (v := .int .u32 (f.number : Nat)) (w' := wq) (by simp [execOp, go_sem, e5, z0, z3, hpp, hd0] <;> omega) ⟨_, rfl, Below.refl _ _, rfl⟩
      · refine G.wanted_yes (G.wanted_plain rfl) ?_
        have e6 : a.tmps[6]?.getD undef = .int .u32 (f.number : Nat) := hp ⟨1, .data⟩ (by simp) rfl _ rfl
        exact G.st_val (v := .bool false) (w' := wq) (by simp [execOp, go_sem, e6, z0, z3, hpp, hd0] <;> omega) ⟨_, rfl, Below.refl _ _, rfl⟩
      · refine G.wanted_yes (G.wanted_plain rfl) ?_
        have e7 : a.tmps[7]?.getD undef = .bool false := hp ⟨2, .data⟩ (by simp) rfl _ rfl
        exact G.st_val (v := .bool false) (w' := wq) (by simp [execOp, go_sem, e7, z0, z3, hpp, hd0] <;> omega) ⟨_, rfl, Below.refl _ _, rfl⟩
      · refine G.wanted_yes (G.wanted_guard rfl (G.yielded_of rfl rfl (hp ⟨3, .guard⟩ (by simp) rfl _ rfl))) ?_
        have e1 : a.tmps[1]?.getD undef = .pointer (some ⟨bf, 0, none⟩) := hS.at_ 1 rfl
        exact G.st_val (v := .pointer (some ⟨bf, 3, none⟩)) (w' := wq) (by simp [execOp, go_sem, e1, z0, z3, hpp, hd0] <;> omega) ⟨_, rfl, Below.refl _ _, rfl⟩
      · refine G.wanted_yes (G.wanted_guard rfl (G.yielded_of rfl rfl (hp ⟨3, .guard⟩ (by simp) rfl _ rfl))) ?_
        have e9 : a.tmps[9]?.getD undef = .pointer (some ⟨bf, 3, none⟩) := hp ⟨4, .data⟩ (by simp) rfl _ rfl
        exact G.st_val (v := .int .u32 (f.number : Nat)) (w' := wq) (by simp [execOp, go_sem, e9, z0, z3, hpp, hd0] <;> omega) ⟨_, rfl, Below.refl _ _, rfl⟩
      · refine G.wanted_yes (G.wanted_guard rfl (G.yielded_of rfl rfl (hp ⟨3, .guard⟩ (by simp) rfl _ rfl))) ?_
        have e2 : a.tmps[2]?.getD undef = .pointer (some ⟨bp, 0, none⟩) := hS.at_ 2 rfl
        exact G.st_val (v := .slice A es.length c) (w' := wq) (by simp [execOp, go_sem, e2, z0, z3, hpp, hd0] <;> omega) ⟨_, rfl, Below.refl _ _, rfl⟩
      · refine G.wanted_yes (G.wanted_guard rfl (G.yielded_of rfl rfl (hp ⟨3, .guard⟩ (by simp) rfl _ rfl))) ?_
        have e1 : a.tmps[1]?.getD undef = .pointer (some ⟨bf, 0, none⟩) := hS.at_ 1 rfl
        exact G.st_val (v := .pointer (some ⟨bf, 0, none⟩)) (w' := wq) (by simp [execOp, go_sem, e1, z0, z3, hpp, hd0] <;> omega) ⟨_, rfl, Below.refl _ _, rfl⟩
      · refine G.wanted_yes (G.wanted_guard rfl (G.yielded_of rfl rfl (hp ⟨3, .guard⟩ (by simp) rfl _ rfl))) ?_
        have e12 : a.tmps[12]?.getD undef = .pointer (some ⟨bf, 0, none⟩) := hp ⟨7, .data⟩ (by simp) rfl _ rfl
        exact G.st_val (v := .int .i64 f.kind) (w' := wq) (by simp [execOp, go_sem, e12, z0, z3, hpp, hd0] <;> omega) ⟨_, rfl, Below.refl _ _, rfl⟩
      · refine G.wanted_yes (G.wanted_guard rfl (G.yielded_of rfl rfl (hp ⟨3, .guard⟩ (by simp) rfl _ rfl))) ?_
        have e0 : a.tmps[0]?.getD undef = .func (.func g) #[] lb := hS.at_ 0 rfl
        exact G.st_val (v := .func (.func g) #[] lb) (w' := wq) (by simp [execOp, go_sem, e0, z0, z3, hpp, hd0] <;> omega) ⟨_, rfl, Below.refl _ _, rfl⟩
      · refine G.wanted_yes (G.wanted_guard rfl (G.yielded_of rfl rfl (hp ⟨3, .chain⟩ (by simp) rfl _ rfl))) ?_
        have e11 : a.tmps[11]?.getD undef = .slice A es.length c := hp ⟨6, .data⟩ (by simp) rfl _ rfl
        have e13 : a.tmps[13]?.getD undef = .int .i64 f.kind := hp ⟨8, .data⟩ (by simp) rfl _ rfl
        have e14 : a.tmps[14]?.getD undef = .func (.func g) #[] lb := hp ⟨9, .data⟩ (by simp) rfl _ rfl
        exact G.st_call (f := 27) (args := #[.slice A es.length c, .int .i64 f.kind, .func (.func g) #[] lb]) (by simp [execOp, go_sem, e11, e13, e14]) ((greatest_any w0 _ f.kind es hle g lb p w HP.out hw wq hT' ((Sl.below hS' (by decide) hT').imp_lt (by decide))).mono fun e w' ⟨he, hB⟩ => ⟨_, he, _, rfl, hB, rfl⟩)
      · refine G.wanted_yes (G.wanted_guard rfl (G.yielded_of rfl rfl (hp ⟨3, .guard⟩ (by simp) rfl _ rfl))) ?_
        have e10 : a.tmps[10]?.getD undef = .int .u32 (f.number : Nat) := hp ⟨5, .data⟩ (by simp) rfl _ rfl
        have e15 : a.tmps[15]?.getD undef = .int .u32 (great (facts es) f.kind p : Nat) := hp ⟨10, .data⟩ (by simp) rfl _ rfl
        exact G.st_val (v := .bool (decide (great (facts es) f.kind p < f.number))) (w' := wq) (by simp [execOp, go_sem, e10, e15, z0, z3, hpp, hd0] <;> omega) ⟨_, rfl, Below.refl _ _, rfl⟩
      · refine G.wanted_yes (G.wanted_plain rfl) ?_
        have e8 : a.tmps[8]?.getD undef = .bool false := hp ⟨3, .data⟩ (by simp) rfl _ rfl
        have e16 : a.tmps[16]?.getD undef = .bool (decide (great (facts es) f.kind p < f.number)) := hp ⟨11, .data⟩ (by simp) rfl _ rfl
        exact G.st_val (v := .bool (decide (great (facts es) f.kind p < f.number))) (w' := wq) (by simp [execOp, go_sem, e8, e16, z0, z3, hpp, hd0] <;> omega) ⟨_, rfl, Below.refl _ _, rfl⟩
      · refine G.wanted_yes (G.wanted_plain rfl) ?_
        have e17 : a.tmps[17]?.getD undef = .bool (decide (great (facts es) f.kind p < f.number)) := hp ⟨12, .data⟩ (by simp) rfl _ rfl
        exact G.st_val (v := .bool (decide (great (facts es) f.kind p < f.number))) (w' := wq) (by simp [execOp, go_sem, e17, z0, z3, hpp, hd0] <;> omega) ⟨_, rfl, Below.refl _ _, rfl⟩
    · intro a wq hT hS hp
      have e5 : G.slot a (some 5) = .pointer (some ⟨bf, 3, none⟩) := hp 0 _ rfl
      have e6 : G.slot a (some 6) = .int .u32 (f.number : Nat) := hp 1 _ rfl
      have e7 : G.slot a (some 7) = .bool false := hp 2 _ rfl
      have e8 : G.slot a (some 8) = .bool false := hp 3 _ rfl
      have e9 : G.slot a (some 9) = .pointer (some ⟨bf, 3, none⟩) := hp 4 _ rfl
      have e10 : G.slot a (some 10) = .int .u32 (f.number : Nat) := hp 5 _ rfl
      have e11 : G.slot a (some 11) = .slice A es.length c := hp 6 _ rfl
      have e12 : G.slot a (some 12) = .pointer (some ⟨bf, 0, none⟩) := hp 7 _ rfl
      have e13 : G.slot a (some 13) = .int .i64 f.kind := hp 8 _ rfl
      have e14 : G.slot a (some 14) = .func (.func g) #[] lb := hp 9 _ rfl
      have e15 : G.slot a (some 15) = .int .u32 (great (facts es) f.kind p : Nat) := hp 10 _ rfl
      have e16 : G.slot a (some 16) = .bool (decide (great (facts es) f.kind p < f.number)) := hp 11 _ rfl
      have e17 : G.slot a (some 17) = .bool (decide (great (facts es) f.kind p < f.number)) := hp 12 _ rfl
      have e4 : G.slot a (some 4) = .bool (decide (great (facts es) f.kind p < f.number)) := hp 13 _ rfl
      have ha := G.act_of hS
      simp only [List.foldl_cons, List.foldl_nil, Act.put, List.setIfInBounds_toArray, List.set_cons_succ, List.set_cons_zero, e5, e6, e7, e8, e9, e10, e11, e12, e13, e14, e15, e16, e17, e4] at ha
      clear hp hS e5 e6 e7 e8 e9 e10 e11 e12 e13 e14 e15 e16 e17 e4
      subst ha
      go_wp2
      go_ret
      exact ⟨ret_bool (by simp [h0]), below_tr (Below.refl _ _).drew hT⟩

end Go.Proofs.Ytfdijgdojejimaa
