/- Layer 2's walks: pending writes made safe; crashes. No condition beyond sizes. -/
import Derived.Test.YthjlmkmijehnjaaDk2
import Derived.Test.YthjlmkmijehnjaaG4
namespace Go.Proofs.Ythjlmkmijehnjaa
open Go.RowKit Go.Shelf K L
set_option linter.unusedVariables false
set_option linter.unusedSimpArgs false

/-- A call of a function value that turns nothing, as a step. -/
theorem upon_still {P : Program} {g : Nat} {args : Array Value} {w : World} {o : Oper} {a : Act} {next : Act → World → Prop} {Q : Exit → Act → World → Prop} {v : Value}
    (eg : ∀ args w, (callFunc g args).run P w = .ok (.enter g args) w) (h : Calls P g args w fun r w' => r = .returned v ∧ w = w') (k : next (a.put o.dst v) w) :
    o.upon P a next Q ((callFunc g args).run P w) := by
  rw [eg, Oper.upon_enter]
  refine h.mono ?_
  rintro e w' ⟨rfl, rfl⟩
  exact k

/-- A function value that tells which live, while memory but S stands. -/
def Tells (g : Nat) (lb : Array Value) (live : Nat → Bool) (n : Nat) (S : Nat → Prop) (w : World) : Prop :=
  (∀ args w, (callFunc g args).run Try.prog w = .ok (.enter g args) w) ∧
  ∀ (i : Nat) (W : World), i < n → Upd S w W → Calls Try.prog g (#[.int .i64 (i : Nat)] ++ lb) W fun r w' => r = .returned (.bool (live i)) ∧ W = w'

theorem Dk.with_safe {w : World} {S : Nat → Prop} {b g n c : Nat} {vp : Value} {d : PD} (h : Dk w S b (.slice (some ⟨g, 0, none⟩) n c) vp d) (i : Nat) (x : Blk) (hi : i < d.safe.length) (hx : x.length = 64) :
    Dk (w.setCells g (i * 64) (bvs x)) S b (.slice (some ⟨g, 0, none⟩) n c) vp { d with safe := d.safe.set i x } := by
  obtain rfl : n = d.safe.length := by obtain ⟨_, _, e, -⟩ := own_form h.safe h.ok.some; cases e; rfl
  have hg := h.ss g rfl
  have hu : Upd (· = g) w (w.setCells g (i * 64) (bvs x)) := setCells_upd (S := (· = g)) g rfl _ _ _
  refine ⟨hu.heap h.hd hg.2.symm, ?_, hu.own h.pend fun p hp e => ((h.sp p hp).2.2 (by rw [e]; rfl)), fun x hx => Nat.lt_of_lt_of_le (h.lt x hx) hu.size, h.sb, h.ss, h.sp, ?_⟩
  · have := own_set (fun a ha => by rw [bvs_len]; exact h.ok.blk a ha) h.safe rfl i hi x (by rw [bvs_len]; exact hx)
    simpa using this
  · exact ⟨by simpa using h.ok.some, by simpa using h.ok.few, fun y hy => (List.mem_or_eq_of_mem_set hy).elim (h.ok.blk y) (fun e => by rw [e]; exact hx), fun p hp => ⟨by simpa using (h.ok.pnd p hp).1, (h.ok.pnd p hp).2⟩, h.ok.num, h.ok.lo, h.ok.hi, h.ok.arm, h.ok.f0, h.ok.f1⟩

theorem Dk.safe_form {w : World} {S : Nat → Prop} {b : Nat} {vs vp : Value} {d : PD} (h : Dk w S b vs vp d) : ∃ g c, vs = .slice (some ⟨g, 0, none⟩) d.safe.length c ∧ d.safe.length ≤ c ∧ c ≤ maxLen ∧ g < w.heap.size := by
  obtain ⟨g, c, e, h1, h2, h3, h4⟩ := own_form h.safe h.ok.some
  exact ⟨g, c, e, h1, h2, h4⟩

/-- The disk behind k of the pending writes. -/
def PD.upto (d : PD) (live : Nat → Bool) (k : Nat) : PD := { d with safe := settle live 0 (d.pend.take k) d.safe }
theorem PD.upto_len (d : PD) (live : Nat → Bool) (k : Nat) : (d.upto live k).safe.length = d.safe.length := settle_len _ _ _ _
theorem PD.upto_no {d : PD} {live : Nat → Bool} {k : Nat} (hk : k < d.pend.length) (h : live k = false) : d.upto live (k + 1) = d.upto live k := by
  unfold PD.upto
  rw [take_snoc d.pend k hk, settle_snoc, List.length_take, Nat.min_eq_left (by omega), Nat.zero_add, h]; rfl
theorem PD.upto_yes {d : PD} {live : Nat → Bool} {k : Nat} (hk : k < d.pend.length) (h : live k = true) : d.upto live (k + 1) = { d.upto live k with safe := (d.upto live k).safe.set d.pend[k].1 d.pend[k].2 } := by
  unfold PD.upto
  rw [take_snoc d.pend k hk, settle_snoc, List.length_take, Nat.min_eq_left (by omega), Nat.zero_add, h]; rfl
theorem PD.upto_all (d : PD) (live : Nat → Bool) : d.live live = { d.upto live d.pend.length with pend := [] } := by
  unfold PD.upto PD.live; rw [List.take_length]

set_option maxRecDepth 100000 in
set_option maxHeartbeats 8000000 in
theorem settle_any {w : World} {S : Nat → Prop} {b : Nat} {vs vp : Value} {d : PD} (h : Dk w S b vs vp d) (hn : d.ops < 1073741824) (g : Nat) (lb : Array Value) (live : Nat → Bool) (ht : Tells g lb live d.pend.length S w) :
    Calls Try.prog 47 #[.pointer (some ⟨b, 0, none⟩), .func (.func g) #[] lb] w fun e w' => (∃ u, e = .returned u) ∧ Dk w' S b vs (.slice none 0 0) (d.live live) ∧ Upd S w w' := by
  obtain ⟨-, c1, -, -, -, -, -⟩ := h.hd.cells
  have H := Lib.hid h
  have hnum := h.ok.num
  obtain ⟨A, c, rfl, hle, hmx, -, -⟩ := own_slice h.pend
  obtain ⟨gs, cs, rfl, hs1, hs2, -⟩ := h.safe_form
  have EG := Lib.hid ht.1
  have HT := Lib.hid ht.2
  clear h ht
  go_enter Try.func47, Try.ntmps47
  go_wp2
  go_loopw [11] (fun i wr => ∃ k : Nat, k ≤ d.pend.length ∧ i = .int .i64 k ∧ Dk wr S b (.slice (some ⟨gs, 0, none⟩) d.safe.length cs) (.slice A d.pend.length c) (d.upto live k) ∧ Upd S w wr) (fun i _ => d.pend.length - (intOf i).toNat)
  case atStart => exact ⟨0, Nat.zero_le _, rfl, H.out, Upd.refl _ _⟩
  case round =>
    obtain ⟨k, hk, rfl, hD, hU⟩ := hrel
    by_cases hlt : k < d.pend.length
    · obtain ⟨q, c', he, -, -, -, hq, hr, -⟩ := own_range (fun p hp => wcells_len p (H.out.ok.pnd p hp).2) hD.pend rfl k hlt
      cases he
      have hp64 := (H.out.ok.pnd _ (List.getElem_mem hlt)).2
      have hpin := (H.out.ok.pnd _ (List.getElem_mem hlt)).1
      have hyes := PD.upto_yes (live := live) hlt
      have hno := PD.upto_no (live := live) hlt
      change wr.rangeAt q (k * 65) (wcells d.pend[k]) at hr
      generalize d.pend[k] = p at *
      obtain ⟨W4, hW4⟩ : ∃ W4, wr.alloc (.cells (wcells p).toArray 80) = W4 := ⟨_, rfl⟩
      have hb4 : Below wr.heap.size wr W4 := by rw [← hW4]; exact below_al (Below.refl _ _) _
      have hx4 : W4.heap[wr.heap.size]? = some (.cells (wcells p).toArray 80 (0, 0)) := by rw [← hW4]; exact heap_alloc_last _ _
      have hD4 := hD.below hb4
      have hU4 := hU.trans (T := fun _ => False) (Upd.of_below hb4) (fun _ _ h => h.elim)
      have HC := Lib.hid (HT.out k W4 hlt hU4)
      have HD4 := Lib.hid hD4
      have HU4 := Lib.hid hU4
      have HX4 := Lib.hid hx4
      have HP := Lib.hid hp64
      have HR := Lib.hid hr
      have HW4 := Lib.hid hW4
      have HYES := Lib.hid hyes
      have HNO := Lib.hid hno
      obtain ⟨k0, -⟩ := hD4.hd.cells
      have x0 := (wbox hx4).1
      have hpl : p.1 < d.safe.length := hpin
      clear hD hU hp64 hr hb4 hx4 hW4 hD4 hU4 hyes hno
      cases hv : live k
      case false =>
        rw [hv] at HC
        have HN := Lib.hid (HNO.out hv)
        clear hv
        go_wp2_with (first | (refine wpList_load_mid rfl 80 _ rfl _ _ rfl _ _ HR.out Try.underlying80 rfl (size_wrote' HP.out) ?_) | (refine wl_alloc rfl 80 rfl zero_wrote ?_) | (refine wl_store_new rfl 80 _ _ rfl _ _ _ rfl rfl (size_wrote HP.out) (size_zw HP.out) (one_wcells p) ?_; rw [HW4.out]) | fail)
        refine upon_still EG.out HC.out ?_
        go_wp2
        exact ⟨⟨k + 1, by omega, by go_num, by rw [HN.out]; exact HD4.out, HU4.out⟩, by simp only [intOf]; omega⟩
      case true =>
        rw [hv] at HC
        have HN := Lib.hid (HYES.out hv)
        clear hv
        go_wp2_with (first | (refine wpList_load_mid rfl 80 _ rfl _ _ rfl _ _ HR.out Try.underlying80 rfl (size_wrote' HP.out) ?_) | (refine wl_alloc rfl 80 rfl zero_wrote ?_) | (refine wl_store_new rfl 80 _ _ rfl _ _ _ rfl rfl (size_wrote HP.out) (size_zw HP.out) (one_wcells p) ?_; rw [HW4.out]) | fail)
        refine upon_still EG.out HC.out ?_
        go_wp2
        refine G.region_split 9 (by kernel_rfl) (by kernel_rfl) (G.any_inv (by kernel_rfl) (fun w w' => Below w.heap.size w w') (fun _ _ _ h k => below_tr h k) (fun w _ => Below.refl _ _) (Below.refl _ _)
          (G.of [(fun (_ : World) (v : Value) => v = .pointer (some ⟨b, 0, none⟩)), (fun (_ : World) (v : Value) => v = .pointer (some ⟨b, 0, none⟩)), (fun (_ : World) (v : Value) => v = .pointer (some ⟨b, 0, none⟩)), (fun (_ : World) (v : Value) => v = .slice (some ⟨gs, 0, none⟩) d.safe.length cs), (fun (_ : World) (v : Value) => v = .pointer (some ⟨wr.heap.size, 0, none⟩)), (fun (_ : World) (v : Value) => v = .int .i64 (p.1 : Nat)), (fun (_ : World) (v : Value) => v = .pointer (some ⟨wr.heap.size, 1, none⟩)), (fun (_ : World) (v : Value) => v = .agg (bvs p.2).toArray), (fun (_ : World) (v : Value) => v = .pointer (some ⟨gs, p.1 * 64, none⟩))])
          (G.of_stays _ ?_) ?_ (G.each_ops ?_) ?_)
        · exact ⟨(fun w w' v h k => h), (fun w w' v h k => h), (fun w w' v h k => h), (fun w w' v h k => h), (fun w w' v h k => h), (fun w w' v h k => h), (fun w w' v h k => h), (fun w w' v h k => h), (fun w w' v h k => h), trivial⟩
        · intro i o hi hd; exact absurd hd (G.no_none (by kernel_rfl) hi)
        · refine ⟨?_, ?_, ?_, ?_, ?_, ?_, ?_, ?_, ?_, trivial⟩
          all_goals intro a wq hT hS hp
          all_goals (have hT' : Below W4.heap.size W4 wq := below_tr (Below.refl _ _).drew hT; have z0 := (HD4.out.below hT').hd.cells.1; have z1 := (wbox (heap_bl hT' HX4.out)).1)
          · refine G.wanted_yes (G.wanted_plain rfl) ?_
            have e0 : a.tmps[0]?.getD undef = .pointer (some ⟨b, 0, none⟩) := hS.at_ 0 rfl
            exact G.st_val (v := .pointer (some ⟨b, 0, none⟩)) (w' := wq) (by simp [execOp, go_sem, e0, z0, z1, hpl] <;> omega) ⟨_, rfl, Below.refl _ _, rfl⟩
          · refine G.wanted_yes (G.wanted_plain rfl) ?_
            have e19 : a.tmps[19]?.getD undef = .pointer (some ⟨b, 0, none⟩) := hp ⟨0, .data⟩ (by simp) rfl _ rfl
            exact G.st_val (v := .pointer (some ⟨b, 0, none⟩)) (w' := wq) (by simp [execOp, go_sem, e19, z0, z1, hpl] <;> omega) ⟨_, rfl, Below.refl _ _, rfl⟩
          · refine G.wanted_yes (G.wanted_plain rfl) ?_
            have e20 : a.tmps[20]?.getD undef = .pointer (some ⟨b, 0, none⟩) := hp ⟨1, .data⟩ (by simp) rfl _ rfl
            exact G.st_val (v := .pointer (some ⟨b, 0, none⟩)) (w' := wq) (by simp [execOp, go_sem, e20, z0, z1, hpl] <;> omega) ⟨_, rfl, Below.refl _ _, rfl⟩
          · refine G.wanted_yes (G.wanted_plain rfl) ?_
            have e21 : a.tmps[21]?.getD undef = .pointer (some ⟨b, 0, none⟩) := hp ⟨2, .data⟩ (by simp) rfl _ rfl
            exact G.st_val (v := .slice (some ⟨gs, 0, none⟩) d.safe.length cs) (w' := wq) (by simp [execOp, go_sem, e21, z0, z1, hpl] <;> omega) ⟨_, rfl, Below.refl _ _, rfl⟩
          · refine G.wanted_yes (G.wanted_plain rfl) ?_
            have e5 : a.tmps[5]?.getD undef = .pointer (some ⟨wr.heap.size, 0, none⟩) := hS.at_ 5 rfl
            exact G.st_val (v := .pointer (some ⟨wr.heap.size, 0, none⟩)) (w' := wq) (by simp [execOp, go_sem, e5, z0, z1, hpl] <;> omega) ⟨_, rfl, Below.refl _ _, rfl⟩
          · refine G.wanted_yes (G.wanted_plain rfl) ?_
            have e23 : a.tmps[23]?.getD undef = .pointer (some ⟨wr.heap.size, 0, none⟩) := hp ⟨4, .data⟩ (by simp) rfl _ rfl
            exact G.st_val (v := .int .i64 (p.1 : Nat)) (w' := wq) (by simp [execOp, go_sem, e23, z0, z1, hpl] <;> omega) ⟨_, rfl, Below.refl _ _, rfl⟩
          · refine G.wanted_yes (G.wanted_plain rfl) ?_
            have e5 : a.tmps[5]?.getD undef = .pointer (some ⟨wr.heap.size, 0, none⟩) := hS.at_ 5 rfl
            exact G.st_val (v := .pointer (some ⟨wr.heap.size, 1, none⟩)) (w' := wq) (by simp [execOp, go_sem, e5, z0, z1, hpl] <;> omega) ⟨_, rfl, Below.refl _ _, rfl⟩
          · refine G.wanted_yes (G.wanted_plain rfl) ?_
            have e25 : a.tmps[25]?.getD undef = .pointer (some ⟨wr.heap.size, 1, none⟩) := hp ⟨6, .data⟩ (by simp) rfl _ rfl
            exact G.st_val (v := .agg (bvs p.2).toArray) (w' := wq) (ex_load 27 _ rfl wr.heap.size 1 (by rw [G.eval_tmp]; exact e25) _ _ (wbox (heap_bl hT' HX4.out)).2 Try.underlying27 rfl (size_blk' HP.out)) ⟨_, rfl, Below.refl _ _, rfl⟩
          · refine G.wanted_yes (G.wanted_plain rfl) ?_
            have e22 : a.tmps[22]?.getD undef = .slice (some ⟨gs, 0, none⟩) d.safe.length cs := hp ⟨3, .data⟩ (by simp) rfl _ rfl
            have e24 : a.tmps[24]?.getD undef = .int .i64 (p.1 : Nat) := hp ⟨5, .data⟩ (by simp) rfl _ rfl
            exact G.st_val (v := .pointer (some ⟨gs, p.1 * 64, none⟩)) (w' := wq) (by simp [execOp, go_sem, e22, e24, z0, z1, hpl] <;> omega) ⟨_, rfl, Below.refl _ _, rfl⟩
        · intro a wq hT hS hp
          have e19 : G.slot a (some 19) = .pointer (some ⟨b, 0, none⟩) := hp 0 _ rfl
          have e20 : G.slot a (some 20) = .pointer (some ⟨b, 0, none⟩) := hp 1 _ rfl
          have e21 : G.slot a (some 21) = .pointer (some ⟨b, 0, none⟩) := hp 2 _ rfl
          have e22 : G.slot a (some 22) = .slice (some ⟨gs, 0, none⟩) d.safe.length cs := hp 3 _ rfl
          have e23 : G.slot a (some 23) = .pointer (some ⟨wr.heap.size, 0, none⟩) := hp 4 _ rfl
          have e24 : G.slot a (some 24) = .int .i64 (p.1 : Nat) := hp 5 _ rfl
          have e25 : G.slot a (some 25) = .pointer (some ⟨wr.heap.size, 1, none⟩) := hp 6 _ rfl
          have e26 : G.slot a (some 26) = .agg (bvs p.2).toArray := hp 7 _ rfl
          have e27 : G.slot a (some 27) = .pointer (some ⟨gs, p.1 * 64, none⟩) := hp 8 _ rfl
          have ha := G.act_of hS
          simp only [List.take_succ_cons, List.take_zero, List.foldl_cons, List.foldl_nil, Act.put, List.setIfInBounds_toArray, List.set_cons_succ, List.set_cons_zero, e19, e20, e21, e22, e23, e24, e25, e26, e27] at ha
          clear hp hS e19 e20 e21 e22 e23 e24 e25 e26 e27
          subst ha
          show wpList _ _ _ _ _ _
          simp only [List.drop_succ_cons, List.drop_zero]
          have hT2 : Below W4.heap.size W4 wq := below_tr (Below.refl _ _).drew hT
          have hDq := HD4.out.below hT2
          obtain ⟨q1, c1', e1, -, -, -, -, -, hth⟩ := own_range (fun x hx => by rw [bvs_len]; exact hDq.ok.blk x hx) hDq.safe rfl p.1 (by rw [PD.upto_len]; exact hpl)
          simp only [Value.slice.injEq, Option.some.injEq, Addr.mk.injEq] at e1
          obtain ⟨⟨rfl, -, -⟩, -, -⟩ := e1
          have HDn := Lib.hid (hDq.with_safe p.1 p.2 (by rw [PD.upto_len]; exact hpl) HP.out)
          have HUn := Lib.hid ((HU4.out.trans (T := fun _ => False) (Upd.of_below hT2) (fun _ _ h => h.elim)).trans (setCells_upd (S := S) gs (H.out.ss gs rfl).1 (bvs p.2) (p.1 * 64) wq) (fun _ _ h => h))
          have HTH := Lib.hid (show wq.there gs (p.1 * 64) (bvs p.2).toArray.size by rw [List.size_toArray, bvs_len, HP.out]; exact hth)
          clear hth hDq hT2 hT HT HC EG
          go_wp2_with (refine wl_store_mid rfl 27 _ _ rfl gs (p.1 * 64) (bvs p.2).toArray rfl rfl HTH.out (size_blk HP.out) (one_blk p.2) ?_)
          exact ⟨⟨k + 1, by omega, by go_num, by rw [HN.out]; exact HDn.out, HUn.out⟩, by simp only [intOf]; omega⟩
    · obtain rfl : k = d.pend.length := by omega
      have hsl := hD.hd.cells.2.1
      have hdl : Dk (wr.setCell ⟨b, 1, none⟩ (.slice none 0 0)) S b (.slice (some ⟨gs, 0, none⟩) d.safe.length cs) (.slice none 0 0) (d.live live) := by
        have hu : Upd (· = b) wr (wr.setCell ⟨b, 1, none⟩ (.slice none 0 0)) := (Upd.refl _ _).setCell _ _ (fun _ => rfl)
        rw [PD.upto_all]
        exact ⟨(hD.hd.pend _).any rfl rfl rfl rfl rfl, hu.own hD.safe fun g hg => (hD.ss g hg).2, World.ownsRow_nil _ _ _ _, fun x hx => Nat.lt_of_lt_of_le (hD.lt x hx) hu.size, hD.sb, hD.ss, fun g hg => (by cases hg), by have := PD.ok_live H.out.ok live; rw [PD.upto_all] at this; exact this⟩
      have HDL := Lib.hid hdl
      have HUL := Lib.hid (hU.trans (upd_head (S := S) hD.sb 1 (.slice none 0 0)) (fun _ _ h => h))
      have f1 := hD.hd.frozen 1
      clear hdl hD hU HT EG
      go_wp2
      go_end0
      exact ⟨⟨_, rfl⟩, HDL.out, HUL.out⟩

end Go.Proofs.Ythjlmkmijehnjaa
