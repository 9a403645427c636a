/- Layer 27: ideal.May whole; Judge. No condition beyond sizes. -/
import Derived.Test.YtfdijgdojejimaaId7
namespace Go.Proofs.Ytfdijgdojejimaa
open Go.RowKit Go.Shelf K L
set_option linter.unusedVariables false
set_option linter.unusedSimpArgs false

/-- Facts that a slice value reads, all of them in the world. -/
def Ls (w : World) (v : Value) (es : List FE) : Prop := Sl w (· < w.heap.size) 7 v es.length (es.flatMap FE.cells) ∧ ∀ e ∈ es, Bs w (· < w.heap.size) e.2 e.1.bytes ∧ e.1.bytes.length ≤ 1048576
theorem Ls.below {w w' : World} {v : Value} {es : List FE} (h : Ls w v es) (hb : Below w.heap.size w w') : Ls w' v es :=
  ⟨(Sl.below h.1 (by decide) hb).imp_lt (by decide), fun e he => ⟨bs_lift (h.2 e he).1 hb, (h.2 e he).2⟩⟩

theorem attach_fcells {w : World} : ∀ (es : List FE) (h : ∀ e ∈ es, Bs w (· < w.heap.size) e.2 e.1.bytes ∧ e.1.bytes.length ≤ 1048576), ∃ ys : List (FA w), ys.map (·.1) = es
  | [], _ => ⟨[], rfl⟩
  | e :: es, h => by
    obtain ⟨ys, hy⟩ := attach_fcells es (fun x hx => h x (by simp [hx]))
    exact ⟨⟨e, h e (by simp)⟩ :: ys, by rw [List.map_cons, hy]⟩

theorem may_any (A : Option Addr) (c : Nat) (w : World) (es : List FE) (hle : es.length ≤ 1048576) (f : Fact) (vf : Value) (hL : Ls w (.slice A es.length c) es) (hv0 : Bs w (· < w.heap.size) vf f.bytes) (hn : f.number < 4294967296) (hg : ∀ e ∈ es, e.1.number < 4294967296) :
    Calls Try.prog 11 #[.slice A es.length c, .agg (f.cells vf).toArray] w fun e w' => e = .returned (.bool (may (es.map (·.1)) f)) ∧ Below w.heap.size w w' := by
  obtain ⟨hS, hx⟩ := hL
  obtain ⟨ys, rfl⟩ := attach_fcells es hx
  rw [List.length_map] at hle hS ⊢
  have hfs : ((ys.map (·.1)).map (·.1) : List Fact) = facts ys := by unfold facts; rw [List.map_map]; rfl
  rw [hfs]
  have hg' : ∀ x ∈ facts ys, x.number < 4294967296 := by
    intro x hx
    rw [← hfs] at hx
    obtain ⟨e, he, rfl⟩ := List.mem_map.1 hx
    exact hg e he
  by_cases h1 : f.kind = 1
  · exact may_1 A c w ys hle f vf h1 hS hv0
  by_cases h2 : f.kind = 2
  · exact may_2 A c w ys hle f vf h2 hS hv0
  by_cases h3 : f.kind = 3
  · exact may_3 A c w ys hle f vf h3 hS hv0
  by_cases h4 : f.kind = 4
  · exact may_4 A c w ys hle f vf h4 hS hv0
  by_cases h5 : f.kind = 5
  · exact may_5 A c w ys hle f vf h5 hS hv0
  by_cases h6 : f.kind = 6
  · exact may_6 A c w ys hle f vf h6 hS hv0
  by_cases h7 : f.kind = 7
  · exact may_7 A c w ys hle f vf h7 hS hv0
  by_cases h8 : f.kind = 8
  · exact may_8 A c w ys hle f vf h8 hS hv0
  by_cases h9 : f.kind = 9
  · exact may_9 A c w ys hle f vf h9 hS hv0 hn hg'
  by_cases h10 : f.kind = 10
  · exact may_10 A c w ys hle f vf h10 hS hv0
  · exact may_x A c w ys hle f vf (by omega) hS hv0

/-- The place of the first fact that can't be. -/
def badAt (l : List Fact) (i : Nat) : Bool := !may (l.take i) (l[i]?.getD default)
def judg (l : List Fact) : Nat := (List.range l.length).findIdx (badAt l)
theorem judg_hit (l : List Fact) (i : Nat) (hi : i < l.length) (h : badAt l i = true) (hb : ∀ j, j < i → badAt l j = false) : judg l = i := by
  unfold judg
  rw [List.findIdx_eq (by simpa using hi)]
  simp only [List.getElem_range]
  exact ⟨h, hb⟩
theorem judg_miss (l : List Fact) (hb : ∀ j, j < l.length → badAt l j = false) : judg l = l.length := by
  unfold judg
  rw [List.findIdx_eq_length_of_false]
  · simp
  · intro x hx
    exact hb x (by simpa using hx)
theorem judg_le (l : List Fact) : judg l ≤ l.length := by
  unfold judg
  have := List.findIdx_le_length (xs := List.range l.length) (p := badAt l)
  simpa using this

theorem Ls.take {w : World} {A : Option Addr} {n c : Nat} {es : List FE} (h : Ls w (.slice A n c) es) (k : Nat) (hk : k ≤ es.length) : Ls w (.slice A k c) (es.take k) := by
  obtain ⟨hS, hx⟩ := h
  refine ⟨?_, fun e he => hx e (List.mem_of_mem_take he)⟩
  obtain ⟨hl, A', c', hv, h1, h2, h3, h4⟩ := hS
  cases hv
  have hlk : (es.take k).length = k := by simp; omega
  have hf : ∀ l : List FE, (l.flatMap FE.cells).length = l.length * 7 := by
    intro l
    induction l with
    | nil => rfl
    | cons x l ih => rw [List.flatMap_cons, List.length_append, ih, FE.len, List.length_cons, Nat.succ_mul]; omega
  refine ⟨by rw [hf], A, c, by rw [hlk], by omega, h2, h3, fun hp => ?_⟩
  obtain ⟨ad, hA, hF, hat⟩ := h4 (by omega)
  refine ⟨ad, hA, hF, fun j u hu => hat j u ?_⟩
  have : es.flatMap FE.cells = (es.take k).flatMap FE.cells ++ (es.drop k).flatMap FE.cells := by rw [← List.flatMap_append, List.take_append_drop]
  rw [this, List.getElem?_append_left (List.getElem?_eq_some_iff.1 hu).1]
  exact hu

theorem Ls.at {w : World} {A : Option Addr} {n c : Nat} {es : List FE} (h : Ls w (.slice A n c) es) (i : Nat) (hi : i < es.length) :
    ∃ b o Ab cb, A = some ⟨b, o, none⟩ ∧ b < w.heap.size ∧ es[i].2 = .slice Ab es[i].1.bytes.length cb ∧ w.cell? ⟨b, o + i * 7, none⟩ = some (.int .i64 es[i].1.kind) ∧ w.cell? ⟨b, o + i * 7 + 1, none⟩ = some (.int .i64 es[i].1.node) ∧ w.cell? ⟨b, o + i * 7 + 2, none⟩ = some (.int .i64 es[i].1.frm) ∧
      w.cell? ⟨b, o + i * 7 + 3, none⟩ = some (.int .u32 (es[i].1.number : Nat)) ∧ w.cell? ⟨b, o + i * 7 + 4, none⟩ = some (.string ⟨es[i].1.name.toArray⟩) ∧ w.cell? ⟨b, o + i * 7 + 5, none⟩ = some (.int .i64 es[i].1.code) ∧ w.cell? ⟨b, o + i * 7 + 6, none⟩ = some (.slice Ab es[i].1.bytes.length cb) := by
  obtain ⟨b, o, hA, -, hb, c0, c1, c2, c3, c4, c5, c6⟩ := row_at h.1 i hi
  obtain ⟨Ab, cb, hv, -, -, -, -⟩ := (h.2 _ (List.getElem_mem hi)).1.open_
  exact ⟨b, o, Ab, cb, hA, hb, hv, c0, c1, c2, c3, c4, c5, by rw [← hv]; exact c6⟩

set_option maxRecDepth 100000 in
set_option maxHeartbeats 4000000 in
theorem judge_any (v : Value) (w : World) (es : List FE) (hle : es.length ≤ 1048576) (hL : Ls w v es) (hg : ∀ e ∈ es, e.1.number < 4294967296) :
    Calls Try.prog 13 #[v] w fun e w' => e = .returned (.tuple #[.int .i64 (judg (es.map (·.1)) : Nat), .int .i64 (if judg (es.map (·.1)) = es.length then 0 else 370)]) ∧ Below w.heap.size w w' := by
  have hL' := hL
  obtain ⟨⟨-, A, c, rfl, l1, l2, -, -⟩, -⟩ := hL
  unfold maxLen at l2
  go_enter Try.func13, Try.ntmps13
  go_wp2
  go_loopw [4, 5, 8] (fun _ _ i wr => ∃ k : Nat, k ≤ es.length ∧ i = .int .i64 k ∧ Below w.heap.size w wr ∧ Hid (∀ j, j < k → badAt (es.map (·.1)) j = false)) (fun _ _ i _ => es.length - (intOf i).toNat)
  case atStart => exact ⟨0, Nat.zero_le _, rfl, Below.refl _ _, Lib.hid (fun j hj => absurd hj (Nat.not_lt_zero _))⟩
  case round =>
    obtain ⟨k, hk, rfl, hb, HP⟩ := hrel
    by_cases hlt : k < es.length
    · have hLr := hL'.below hb
      obtain ⟨b, o, Ab, cb, rfl, hbl, hvb, c0, c1, c2, c3, c4, c5, c6⟩ := hLr.at k hlt
      have hLk := hLr.take k (by omega)
      have hbx := (hLr.2 _ (List.getElem_mem hlt)).1
      have hnx := hg _ (List.getElem_mem hlt)
      have hbad : badAt (es.map (·.1)) k = !may ((es.take k).map (·.1)) es[k].1 := by
        unfold badAt
        rw [← List.map_take, List.getElem?_map, List.getElem?_eq_getElem hlt]; rfl
      have hlk : (es.take k).length = k := by simp; omega
      rw [hvb] at hbx
      generalize es[k].1 = x at *
      have HB := Lib.hid hbad
      clear hbad hvb
      have hM := fun wq (hT : Below wr.heap.size wr wq) => may_any (some ⟨b, o, none⟩) c wq (es.take k) (by omega) x (.slice Ab x.bytes.length cb) (by rw [hlk]; exact hLk.below hT) (bs_lift hbx hT) hnx (fun e he => hg e (List.mem_of_mem_take he))
      rw [hlk] at hM
      have HM := Lib.hid hM
      clear hM hLk hLr hbx
      have hX := heap_new wr (.cells #[.int .i64 x.kind, .int .i64 x.node, .int .i64 x.frm, .int .u32 (x.number : Nat), .string ⟨x.name.toArray⟩, .int .i64 x.code, .slice Ab x.bytes.length cb] 26)
      have hB1 : Below wr.heap.size wr (wr.alloc (.cells #[.int .i64 x.kind, .int .i64 x.node, .int .i64 x.frm, .int .u32 (x.number : Nat), .string ⟨x.name.toArray⟩, .int .i64 x.code, .slice Ab x.bytes.length cb] 26)) := (Below.refl _ _).alloc (Nat.le_refl _) _
      have HX := Lib.hid hX
      have HB1 := Lib.hid hB1
      clear hX hB1
      obtain ⟨r, hr⟩ : ∃ r, may ((es.take k).map (·.1)) x = r := ⟨_, rfl⟩
      have HR := Lib.hid hr
      clear hr
      go_wp2
      refine G.region_inv (by kernel_rfl) (by kernel_rfl) (fun w w' => Below w.heap.size w w') (fun _ _ _ h k => below_tr h k) (fun w _ => Below.refl _ _) (Below.refl _ _)
        (G.of [(fun (_ : World) (v : Value) => v = .slice (some ⟨b, o, none⟩) es.length c), (fun (_ : World) (v : Value) => v = .int .i64 k), (fun (_ : World) (v : Value) => v = .slice (some ⟨b, o, none⟩) k c), (fun (_ : World) (v : Value) => v = .agg #[.int .i64 x.kind, .int .i64 x.node, .int .i64 x.frm, .int .u32 (x.number : Nat), .string ⟨x.name.toArray⟩, .int .i64 x.code, .slice Ab x.bytes.length cb]), (fun (_ : World) (v : Value) => v = .bool r), (fun (_ : World) (v : Value) => v = .bool (!r))])
        (G.of_stays _ ?_) ?_ (G.each_ops ?_) ?_
      · exact ⟨(fun w w' v h k => h), (fun w w' v h k => h), (fun w w' v h k => h), (fun w w' v h k => h), (fun w w' v h k => h), (fun w w' v h k => h), trivial⟩
      · intro i o hi hd; exact absurd hd (G.no_none (by kernel_rfl) hi)
      · refine ⟨?_, ?_, ?_, ?_, ?_, ?_, trivial⟩
        all_goals intro a wq hT hS hp
        all_goals (have hff := heap_bl hT HX.out; have z0 := cell_of hff 0; have z1 := cell_of hff 1; have z2 := cell_of hff 2; have z3 := cell_of hff 3; have z4 := cell_of hff 4; have z5 := cell_of hff 5; have z6 := cell_of hff 6; simp at z0 z1 z2 z3 z4 z5 z6)
        · refine G.wanted_yes (G.wanted_plain rfl) ?_
          have e0 : a.tmps[0]?.getD undef = .slice (some ⟨b, o, none⟩) es.length c := hS.at_ 0 rfl
          exact G.st_val (v := .slice (some ⟨b, o, none⟩) es.length c) (w' := wq) (by simp [execOp, go_sem, e0, z0, z1, z2, z3, z4, z5, z6] <;> omega) ⟨_, rfl, Below.refl _ _, rfl⟩
        · refine G.wanted_yes (G.wanted_plain rfl) ?_
          have e4 : a.tmps[4]?.getD undef = .int .i64 k := hS.at_ 4 rfl
          exact G.st_val (v := .int .i64 k) (w' := wq) (by simp [execOp, go_sem, e4, z0, z1, z2, z3, z4, z5, z6] <;> omega) ⟨_, rfl, Below.refl _ _, rfl⟩
        · refine G.wanted_yes (G.wanted_plain rfl) ?_
          have e13 : a.tmps[13]?.getD undef = .slice (some ⟨b, o, none⟩) es.length c := hp ⟨0, .data⟩ (by simp) rfl _ rfl
          have e14 : a.tmps[14]?.getD undef = .int .i64 k := hp ⟨1, .data⟩ (by simp) rfl _ rfl
          exact G.st_val (v := .slice (some ⟨b, o, none⟩) k c) (w' := wq) (by simp [execOp, go_sem, e13, e14, z0, z1, z2, z3, z4, z5, z6] <;> omega) ⟨_, rfl, Below.refl _ _, rfl⟩
        · refine G.wanted_yes (G.wanted_plain rfl) ?_
          have e5 : a.tmps[5]?.getD undef = .pointer (some ⟨wr.heap.size, 0, none⟩) := hS.at_ 5 rfl
          exact G.st_val (v := .agg #[.int .i64 x.kind, .int .i64 x.node, .int .i64 x.frm, .int .u32 (x.number : Nat), .string ⟨x.name.toArray⟩, .int .i64 x.code, .slice Ab x.bytes.length cb]) (w' := wq) (by simp [execOp, go_sem, e5, z0, z1, z2, z3, z4, z5, z6] <;> omega) ⟨_, rfl, Below.refl _ _, rfl⟩
        · refine G.wanted_yes (G.wanted_plain rfl) ?_
          have e15 : a.tmps[15]?.getD undef = .slice (some ⟨b, o, none⟩) k c := hp ⟨2, .data⟩ (by simp) rfl _ rfl
          have e16 : a.tmps[16]?.getD undef = .agg #[.int .i64 x.kind, .int .i64 x.node, .int .i64 x.frm, .int .u32 (x.number : Nat), .string ⟨x.name.toArray⟩, .int .i64 x.code, .slice Ab x.bytes.length cb] := hp ⟨3, .data⟩ (by simp) rfl _ rfl
          exact G.st_call (f := 11) (args := #[.slice (some ⟨b, o, none⟩) k c, .agg #[.int .i64 x.kind, .int .i64 x.node, .int .i64 x.frm, .int .u32 (x.number : Nat), .string ⟨x.name.toArray⟩, .int .i64 x.code, .slice Ab x.bytes.length cb]]) (by simp [execOp, go_sem, e15, e16]) ((HM.out wq (below_tr HB1.out.drew hT)).mono fun e w' ⟨he, hB⟩ => ⟨_, he, _, rfl, hB, by rw [HR.out]; rfl⟩)
        · refine G.wanted_yes (G.wanted_plain rfl) ?_
          have e17 : a.tmps[17]?.getD undef = .bool r := hp ⟨4, .data⟩ (by simp) rfl _ rfl
          exact G.st_val (v := .bool (!r)) (w' := wq) (by simp [execOp, go_sem, e17, z0, z1, z2, z3, z4, z5, z6] <;> omega) ⟨_, rfl, Below.refl _ _, rfl⟩
      · intro a wq hT hS hp
        have e13 : G.slot a (some 13) = .slice (some ⟨b, o, none⟩) es.length c := hp 0 _ rfl
        have e14 : G.slot a (some 14) = .int .i64 k := hp 1 _ rfl
        have e15 : G.slot a (some 15) = .slice (some ⟨b, o, none⟩) k c := hp 2 _ rfl
        have e16 : G.slot a (some 16) = .agg #[.int .i64 x.kind, .int .i64 x.node, .int .i64 x.frm, .int .u32 (x.number : Nat), .string ⟨x.name.toArray⟩, .int .i64 x.code, .slice Ab x.bytes.length cb] := hp 3 _ rfl
        have e17 : G.slot a (some 17) = .bool r := hp 4 _ rfl
        have e18 : G.slot a (some 18) = .bool (!r) := hp 5 _ rfl
        have ha := G.act_of hS
        simp only [List.foldl_cons, List.foldl_nil, Act.put, List.setIfInBounds_toArray, List.set_cons_succ, List.set_cons_zero, e13, e14, e15, e16, e17, e18] at ha
        clear hp hS e13 e14 e15 e16 e17 e18
        subst ha
        have hbq := below_tr HB1.out.drew hT
        have hbz : Below w.heap.size w wq := below_tr hb hbq
        clear hT hbq
        have HBB := Lib.hid hbz
        cases hq : r
        · have hJ : judg (es.map (·.1)) = k := judg_hit _ k (by simpa using hlt) (by rw [HB.out, HR.out, hq]; rfl) HP.out
          have hJ2 : ¬ judg (es.map (·.1)) = es.length := by omega
          have HJ := Lib.hid hJ
          have HJ2 := Lib.hid hJ2
          clear hJ hJ2
          go_wp2
          refine bodyPost_ret (v := .tuple #[.int .i64 k, .int .i64 370]) (by simp [results, Try.results13, go_sem]) rfl ⟨?_, HBB.out⟩
          first | rfl | rw [HJ.out] | rw [HJ.out, if_neg (by omega)]
        · go_wp2
          refine ⟨⟨k + 1, by omega, by go_num, HBB.out, Lib.hid ?_⟩, by simp only [intOf]; omega⟩
          intro j hj
          by_cases hjk : j < k
          · exact HP.out j hjk
          · obtain rfl : j = k := by omega
            rw [HB.out, HR.out, hq]; rfl
    · obtain rfl : k = es.length := by omega
      have hJ : judg (es.map (·.1)) = es.length := by rw [judg_miss _ (by simpa using HP.out)]; simp
      have HJ := Lib.hid hJ
      clear hJ
      go_wp2
      refine bodyPost_ret (v := .tuple #[.int .i64 (es.length : Nat), .int .i64 0]) (by simp [results, Try.results13, go_sem]) rfl ⟨?_, hb⟩
      first | rfl | rw [HJ.out, if_pos rfl]

end Go.Proofs.Ytfdijgdojejimaa
