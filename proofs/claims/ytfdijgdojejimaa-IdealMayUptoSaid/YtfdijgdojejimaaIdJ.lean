/- Layer 27: heliographref27.May and Judge, whole. No condition beyond sizes. -/
import Derived.Test.YtfdijgdojejimaaId8
import Derived.Test.YtfdijgdojejimaaId9
namespace Go.Proofs.Ytfdijgdojejimaa
open Go.RowKit Go.Shelf K L
set_option linter.unusedVariables false
set_option linter.unusedSimpArgs false

set_option maxRecDepth 100000 in
set_option maxHeartbeats 4000000 in
theorem rmay_plain (A : Option Addr) (n c : Nat) (w : World) (f : Fact) (Af : Option Addr) (cf : Nat) (r : Bool) (hr : (f.kind = 3 ∨ f.kind = 5) ∧ r = true ∨ (f.kind < 1 ∨ 10 < f.kind) ∧ r = false) :
    Calls Try.prog 12 #[.slice A n c, .agg (f.cells (.slice Af f.bytes.length cf)).toArray] w fun e w' => e = .returned (.bool r) ∧ Below w.heap.size w w' := by
  show Calls Try.prog 12 #[.slice A n c, .agg #[.int .i64 f.kind, .int .i64 f.node, .int .i64 f.frm, .int .u32 (f.number : Nat), .string ⟨f.name.toArray⟩, .int .i64 f.code, .slice Af f.bytes.length cf]] w _
  have hb := (Below.refl w.heap.size w).alloc (Nat.le_refl _) (.cells #[.int .i64 f.kind, .int .i64 f.node, .int .i64 f.frm, .int .u32 (f.number : Nat), .string ⟨f.name.toArray⟩, .int .i64 f.code, .slice Af f.bytes.length cf] 26)
  have HB := Lib.hid hb
  clear hb
  rcases hr with ⟨h, rfl⟩ | ⟨h, rfl⟩
  · rcases h with h | h
    · have d3 : (f.kind == 3) = true := by simp [h]
      clear h
      go_enter Try.func12, Try.ntmps12
      go_wp2
      go_ret
      exact ⟨rfl, HB.out⟩
    · have d3 : (f.kind == 3) = false := by simp [h]
      have d5 : (f.kind == 5) = true := by simp [h]
      clear h
      go_enter Try.func12, Try.ntmps12
      go_wp2
      go_ret
      exact ⟨rfl, HB.out⟩
  · have d3 : (f.kind == 3) = false := by rw [beq_eq_false_iff_ne]; omega
    have d5 : (f.kind == 5) = false := by rw [beq_eq_false_iff_ne]; omega
    by_cases h1 : f.kind < 1
    · have d1 : decide (f.kind < 1) = true := by simp [h1]
      clear h
      go_enter Try.func12, Try.ntmps12
      go_wp2
      go_ret
      exact ⟨rfl, HB.out⟩
    · have d1 : decide (f.kind < 1) = false := by simp; omega
      have d10 : decide ((10 : Int) < f.kind) = true := by simp; omega
      clear h h1
      go_enter Try.func12, Try.ntmps12
      go_wp2
      go_ret
      exact ⟨rfl, HB.out⟩

theorem rmay_any (A : Option Addr) (c : Nat) (w : World) (es : List FE) (hle : es.length ≤ 1048576) (f : Fact) (vf : Value) (hL : Ls w (.slice A es.length c) es) (hv0 : Bs w (· < w.heap.size) vf f.bytes) (hn : f.number < 4294967296) (hg : ∀ e ∈ es, e.1.number < 4294967296) :
    Calls Try.prog 12 #[.slice A es.length c, .agg (f.cells vf).toArray] w fun e w' => e = .returned (.bool (may (es.map (·.1)) f)) ∧ Below w.heap.size w w' := by
  obtain ⟨hS, hx⟩ := hL
  obtain ⟨ys, rfl⟩ := attach_fcells es hx
  rw [List.length_map] at hle hS ⊢
  have hfs : ((ys.map (·.1)).map (·.1) : List Fact) = facts ys := by unfold facts; rw [List.map_map]; rfl
  rw [hfs]
  have hg' : ∀ x ∈ facts ys, x.number < 4294967296 := by
    intro x hx
    rw [← hfs] at hx
    obtain ⟨e, he, rfl⟩ := List.mem_map.1 hx
    exact hg e he
  have hvo := hv0
  obtain ⟨Af, cf, rfl, -, -, -, -⟩ := hvo.open_
  by_cases h3 : f.kind = 3
  · rw [may_eq3 _ _ h3]; exact rmay_plain A _ c w f Af cf true (.inl ⟨.inl h3, rfl⟩)
  by_cases h5 : f.kind = 5
  · rw [may_eq5 _ _ h5]; exact rmay_plain A _ c w f Af cf true (.inl ⟨.inr h5, rfl⟩)
  by_cases hx : f.kind < 1 ∨ 10 < f.kind
  · have hm : may (facts ys) f = false := by unfold may; rw [if_neg (by omega), if_neg (by omega), if_neg (by omega), if_neg (by omega), if_neg (by omega), if_neg (by omega), if_neg (by omega), if_neg (by omega), if_neg (by omega), if_neg (by omega)]
    rw [hm]; exact rmay_plain A _ c w f Af cf false (.inr ⟨hx, rfl⟩)
  exact rmay_loop A c w ys hle f _ (by omega) hS hv0 hn hg'

set_option maxRecDepth 100000 in
set_option maxHeartbeats 4000000 in
theorem rjudge_any (v : Value) (w : World) (es : List FE) (hle : es.length ≤ 1048576) (hL : Ls w v es) (hg : ∀ e ∈ es, e.1.number < 4294967296) :
    Calls Try.prog 14 #[v] w fun e w' => e = .returned (.int .i64 (judg (es.map (·.1)) : Nat)) ∧ Below w.heap.size w w' := by
  have hL' := hL
  obtain ⟨⟨-, A, c, rfl, l1, l2, -, -⟩, -⟩ := hL
  unfold maxLen at l2
  go_enter Try.func14, Try.ntmps14
  go_wp2
  go_loopw [3] (fun i wr => ∃ k : Nat, k ≤ es.length ∧ i = .int .i64 k ∧ Below w.heap.size w wr ∧ Hid (∀ j, j < k → badAt (es.map (·.1)) j = false)) (fun i _ => es.length - (intOf i).toNat)
  case atStart => exact ⟨0, Nat.zero_le _, rfl, Below.refl _ _, Lib.hid (fun j hj => absurd hj (Nat.not_lt_zero _))⟩
  case round =>
    obtain ⟨k, hk, rfl, hb, HP⟩ := hrel
    by_cases hlt : k < es.length
    · have hLr := hL'.below hb
      obtain ⟨b, o, Ab, cb, rfl, hbl, hvb, c0, c1, c2, c3, c4, c5, c6⟩ := hLr.at k hlt
      have hLk := hLr.take k (by omega)
      have hbx := (hLr.2 _ (List.getElem_mem hlt)).1
      have hnx := hg _ (List.getElem_mem hlt)
      have hbad : badAt (es.map (·.1)) k = !may ((es.take k).map (·.1)) es[k].1 := by
        unfold badAt
        rw [← List.map_take, List.getElem?_map, List.getElem?_eq_getElem hlt]; rfl
      have hlk : (es.take k).length = k := by simp; omega
      rw [hvb] at hbx
      generalize es[k].1 = x at *
      have HB := Lib.hid hbad
      clear hbad hvb
      have hM := fun wq (hT : Below wr.heap.size wr wq) => rmay_any (some ⟨b, o, none⟩) c wq (es.take k) (by omega) x (.slice Ab x.bytes.length cb) (by rw [hlk]; exact hLk.below hT) (bs_lift hbx hT) hnx (fun e he => hg e (List.mem_of_mem_take he))
      rw [hlk] at hM
      have HM := Lib.hid hM
      have hcs := And.intro c0 (And.intro c1 (And.intro c2 (And.intro c3 (And.intro c4 (And.intro c5 c6)))))
      have HCS := Lib.hid hcs
      clear hM hLk hLr hbx hcs
      obtain ⟨r, hr⟩ : ∃ r, may ((es.take k).map (·.1)) x = r := ⟨_, rfl⟩
      have HR := Lib.hid hr
      clear hr
      go_wp2
      refine G.region_inv (by kernel_rfl) (by kernel_rfl) (fun w w' => Below w.heap.size w w') (fun _ _ _ h k => below_tr h k) (fun w _ => Below.refl _ _) (Below.refl _ _)
        (G.of [(fun (_ : World) (v : Value) => v = .slice (some ⟨b, o, none⟩) es.length c), (fun (_ : World) (v : Value) => v = .int .i64 k), (fun (_ : World) (v : Value) => v = .slice (some ⟨b, o, none⟩) k c), (fun (_ : World) (v : Value) => v = .slice (some ⟨b, o, none⟩) es.length c), (fun (_ : World) (v : Value) => v = .int .i64 k), (fun (_ : World) (v : Value) => v = .pointer (some ⟨b, o + k * 7, none⟩)), (fun (_ : World) (v : Value) => v = .agg #[.int .i64 x.kind, .int .i64 x.node, .int .i64 x.frm, .int .u32 (x.number : Nat), .string ⟨x.name.toArray⟩, .int .i64 x.code, .slice Ab x.bytes.length cb]), (fun (_ : World) (v : Value) => v = .bool r), (fun (_ : World) (v : Value) => v = .bool (!r))])
        (G.of_stays _ ?_) ?_ (G.each_ops ?_) ?_
      · exact ⟨(fun w w' v h k => h), (fun w w' v h k => h), (fun w w' v h k => h), (fun w w' v h k => h), (fun w w' v h k => h), (fun w w' v h k => h), (fun w w' v h k => h), (fun w w' v h k => h), (fun w w' v h k => h), trivial⟩
      · intro i o hi hd; exact absurd hd (G.no_none (by kernel_rfl) hi)
      · refine ⟨?_, ?_, ?_, ?_, ?_, ?_, ?_, ?_, ?_, trivial⟩
        all_goals intro a wq hT hS hp
        all_goals (have hTT : Below wr.heap.size wr wq := below_tr (Below.refl _ _).drew hT; obtain ⟨u0, u1, u2, u3, u4, u5, u6⟩ := HCS.out; have z0 := (hTT.cell (p := ⟨b, o + k * 7, none⟩) hbl).trans u0; have z1 := (hTT.cell (p := ⟨b, o + k * 7 + 1, none⟩) hbl).trans u1; have z2 := (hTT.cell (p := ⟨b, o + k * 7 + 2, none⟩) hbl).trans u2; have z3 := (hTT.cell (p := ⟨b, o + k * 7 + 3, none⟩) hbl).trans u3; have z4 := (hTT.cell (p := ⟨b, o + k * 7 + 4, none⟩) hbl).trans u4; have z5 := (hTT.cell (p := ⟨b, o + k * 7 + 5, none⟩) hbl).trans u5; have z6 := (hTT.cell (p := ⟨b, o + k * 7 + 6, none⟩) hbl).trans u6; clear u0 u1 u2 u3 u4 u5 u6)
        · refine G.wanted_yes (G.wanted_plain rfl) ?_
          have e0 : a.tmps[0]?.getD undef = .slice (some ⟨b, o, none⟩) es.length c := hS.at_ 0 rfl
          exact G.st_val (v := .slice (some ⟨b, o, none⟩) es.length c) (w' := wq) (by simp [execOp, go_sem, e0, z0, z1, z2, z3, z4, z5, z6] <;> omega) ⟨_, rfl, Below.refl _ _, rfl⟩
        · refine G.wanted_yes (G.wanted_plain rfl) ?_
          have e3 : a.tmps[3]?.getD undef = .int .i64 k := hS.at_ 3 rfl
          exact G.st_val (v := .int .i64 k) (w' := wq) (by simp [execOp, go_sem, e3, z0, z1, z2, z3, z4, z5, z6] <;> omega) ⟨_, rfl, Below.refl _ _, rfl⟩
        · refine G.wanted_yes (G.wanted_plain rfl) ?_
          have e10 : a.tmps[10]?.getD undef = .slice (some ⟨b, o, none⟩) es.length c := hp ⟨0, .data⟩ (by simp) rfl _ rfl
          have e11 : a.tmps[11]?.getD undef = .int .i64 k := hp ⟨1, .data⟩ (by simp) rfl _ rfl
          exact G.st_val (v := .slice (some ⟨b, o, none⟩) k c) (w' := wq) (by simp [execOp, go_sem, e10, e11, z0, z1, z2, z3, z4, z5, z6] <;> omega) ⟨_, rfl, Below.refl _ _, rfl⟩
        · refine G.wanted_yes (G.wanted_plain rfl) ?_
          have e0 : a.tmps[0]?.getD undef = .slice (some ⟨b, o, none⟩) es.length c := hS.at_ 0 rfl
          exact G.st_val (v := .slice (some ⟨b, o, none⟩) es.length c) (w' := wq) (by simp [execOp, go_sem, e0, z0, z1, z2, z3, z4, z5, z6] <;> omega) ⟨_, rfl, Below.refl _ _, rfl⟩
        · refine G.wanted_yes (G.wanted_plain rfl) ?_
          have e3 : a.tmps[3]?.getD undef = .int .i64 k := hS.at_ 3 rfl
          exact G.st_val (v := .int .i64 k) (w' := wq) (by simp [execOp, go_sem, e3, z0, z1, z2, z3, z4, z5, z6] <;> omega) ⟨_, rfl, Below.refl _ _, rfl⟩
        · refine G.wanted_yes (G.wanted_plain rfl) ?_
          have e13 : a.tmps[13]?.getD undef = .slice (some ⟨b, o, none⟩) es.length c := hp ⟨3, .data⟩ (by simp) rfl _ rfl
          have e14 : a.tmps[14]?.getD undef = .int .i64 k := hp ⟨4, .data⟩ (by simp) rfl _ rfl
          exact G.st_val (v := .pointer (some ⟨b, o + k * 7, none⟩)) (w' := wq) (by simp [execOp, go_sem, e13, e14, z0, z1, z2, z3, z4, z5, z6] <;> omega) ⟨_, rfl, Below.refl _ _, rfl⟩
        · refine G.wanted_yes (G.wanted_plain rfl) ?_
          have e15 : a.tmps[15]?.getD undef = .pointer (some ⟨b, o + k * 7, none⟩) := hp ⟨5, .data⟩ (by simp) rfl _ rfl
          exact G.st_val (v := .agg #[.int .i64 x.kind, .int .i64 x.node, .int .i64 x.frm, .int .u32 (x.number : Nat), .string ⟨x.name.toArray⟩, .int .i64 x.code, .slice Ab x.bytes.length cb]) (w' := wq) (by simp [execOp, go_sem, e15, z0, z1, z2, z3, z4, z5, z6] <;> omega) ⟨_, rfl, Below.refl _ _, rfl⟩
        · refine G.wanted_yes (G.wanted_plain rfl) ?_
          have e12 : a.tmps[12]?.getD undef = .slice (some ⟨b, o, none⟩) k c := hp ⟨2, .data⟩ (by simp) rfl _ rfl
          have e16 : a.tmps[16]?.getD undef = .agg #[.int .i64 x.kind, .int .i64 x.node, .int .i64 x.frm, .int .u32 (x.number : Nat), .string ⟨x.name.toArray⟩, .int .i64 x.code, .slice Ab x.bytes.length cb] := hp ⟨6, .data⟩ (by simp) rfl _ rfl
          exact G.st_call (f := 12) (args := #[.slice (some ⟨b, o, none⟩) k c, .agg #[.int .i64 x.kind, .int .i64 x.node, .int .i64 x.frm, .int .u32 (x.number : Nat), .string ⟨x.name.toArray⟩, .int .i64 x.code, .slice Ab x.bytes.length cb]]) (by simp [execOp, go_sem, e12, e16]) ((HM.out wq hTT).mono fun e w' ⟨he, hB⟩ => ⟨_, he, _, rfl, hB, by rw [HR.out]; rfl⟩)
        · refine G.wanted_yes (G.wanted_plain rfl) ?_
          have e17 : a.tmps[17]?.getD undef = .bool r := hp ⟨7, .data⟩ (by simp) rfl _ rfl
          exact G.st_val (v := .bool (!r)) (w' := wq) (by simp [execOp, go_sem, e17, z0, z1, z2, z3, z4, z5, z6] <;> omega) ⟨_, rfl, Below.refl _ _, rfl⟩
      · intro a wq hT hS hp
        have e10 : G.slot a (some 10) = .slice (some ⟨b, o, none⟩) es.length c := hp 0 _ rfl
        have e11 : G.slot a (some 11) = .int .i64 k := hp 1 _ rfl
        have e12 : G.slot a (some 12) = .slice (some ⟨b, o, none⟩) k c := hp 2 _ rfl
        have e13 : G.slot a (some 13) = .slice (some ⟨b, o, none⟩) es.length c := hp 3 _ rfl
        have e14 : G.slot a (some 14) = .int .i64 k := hp 4 _ rfl
        have e15 : G.slot a (some 15) = .pointer (some ⟨b, o + k * 7, none⟩) := hp 5 _ rfl
        have e16 : G.slot a (some 16) = .agg #[.int .i64 x.kind, .int .i64 x.node, .int .i64 x.frm, .int .u32 (x.number : Nat), .string ⟨x.name.toArray⟩, .int .i64 x.code, .slice Ab x.bytes.length cb] := hp 6 _ rfl
        have e17 : G.slot a (some 17) = .bool r := hp 7 _ rfl
        have e18 : G.slot a (some 18) = .bool (!r) := hp 8 _ rfl
        have ha := G.act_of hS
        simp only [List.foldl_cons, List.foldl_nil, Act.put, List.setIfInBounds_toArray, List.set_cons_succ, List.set_cons_zero, e10, e11, e12, e13, e14, e15, e16, e17, e18] at ha
        clear hp hS e10 e11 e12 e13 e14 e15 e16 e17 e18
        subst ha
        have hbz : Below w.heap.size w wq := below_tr hb (below_tr (Below.refl _ _).drew hT)
        clear hT
        have HBB := Lib.hid hbz
        cases hq : r
        · have hJ : judg (es.map (·.1)) = k := judg_hit _ k (by simpa using hlt) (by rw [HB.out, HR.out, hq]; rfl) HP.out
          have HJ := Lib.hid hJ
          clear hJ
          go_wp2
          go_ret
          exact ⟨ret_int (by rw [HJ.out]), HBB.out⟩
        · go_wp2
          refine ⟨⟨k + 1, by omega, by go_num, HBB.out, Lib.hid ?_⟩, by simp only [intOf]; omega⟩
          intro j hj
          by_cases hjk : j < k
          · exact HP.out j hjk
          · obtain rfl : j = k := by omega
            rw [HB.out, HR.out, hq]; rfl
    · obtain rfl : k = es.length := by omega
      have hJ : judg (es.map (·.1)) = es.length := by rw [judg_miss _ (by simpa using HP.out)]; simp
      have HJ := Lib.hid hJ
      clear hJ
      go_wp2
      go_ret
      exact ⟨ret_int (by rw [HJ.out]), hb⟩

end Go.Proofs.Ytfdijgdojejimaa
