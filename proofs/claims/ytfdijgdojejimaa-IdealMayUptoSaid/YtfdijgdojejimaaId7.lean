/- Layer 27: ideal.May at each kind. No condition beyond sizes. (Printed by genmay.py.) -/
import Derived.Test.YtfdijgdojejimaaId6
import Derived.Laws.EntriesVeiled
namespace Go.Proofs.Ytfdijgdojejimaa
open Go.RowKit Go.Shelf K L
set_option linter.unusedVariables false
set_option linter.unusedSimpArgs false

/-- May's boxes. -/
structure Env (W w0 : World) (N : Nat) (es : List (FA w0)) (f : Fact) (vf : Value) : Prop where
  low : Below w0.heap.size w0 W
  past : PB W N w0 es
  fact : FB W (N + 1) f vf
  bytes : Bs W (· < W.heap.size) vf f.bytes
  back : W.heap[N + 1 + 1]? = some (.cells #[.func (.func 18) #[] #[.pointer (some ⟨N + 1, 0, none⟩)]] 48)
  forth : W.heap[N + 1 + 1 + 1]? = some (.cells #[.func (.func 19) #[] #[.pointer (some ⟨N + 1, 0, none⟩)]] 48)
  have_ : HB W (N + 1 + 1 + 1 + 1) N
  crash : W.heap[N + 1 + 1 + 1 + 1 + 1]? = some (.cells #[.func (.func 24) #[] #[.pointer (some ⟨N + 1 + 1 + 1 + 1, 0, none⟩)]] 55)

theorem Env.below {W W' w0 : World} {N : Nat} {es : List (FA w0)} {f : Fact} {vf : Value} (E : Env W w0 N es f vf) (hb : Below W.heap.size W W') : Env W' w0 N es f vf :=
  ⟨E.low.trans (hb.mono E.low.size), E.past.below hb, heap_bl hb E.fact, bs_lift E.bytes hb, heap_bl hb E.back, heap_bl hb E.forth, heap_bl hb E.have_, heap_bl hb E.crash⟩

theorem Env.cells {W w0 : World} {N : Nat} {es : List (FA w0)} {f : Fact} {vf : Value} (E : Env W w0 N es f vf) :
    W.cell? ⟨N + 1, 0, none⟩ = some (.int .i64 f.kind) ∧ W.cell? ⟨N + 1, 1, none⟩ = some (.int .i64 f.node) ∧ W.cell? ⟨N + 1, 2, none⟩ = some (.int .i64 f.frm) ∧ W.cell? ⟨N + 1, 3, none⟩ = some (.int .u32 (f.number : Nat)) ∧ W.cell? ⟨N + 1, 5, none⟩ = some (.int .i64 f.code) ∧
    W.cell? ⟨N + 1 + 1 + 1, 0, none⟩ = some (.func (.func 19) #[] #[.pointer (some ⟨N + 1, 0, none⟩)]) ∧ W.cell? ⟨N + 1 + 1 + 1 + 1, 0, none⟩ = some (.func (.func 20) #[] #[.pointer (some ⟨N, 0, none⟩)]) ∧ W.cell? ⟨N + 1 + 1 + 1 + 1 + 1, 0, none⟩ = some (.func (.func 24) #[] #[.pointer (some ⟨N + 1 + 1 + 1 + 1, 0, none⟩)]) := by
  obtain ⟨z0, z1, z2, z3, z4, z5, z6⟩ := E.fact.cells
  exact ⟨z0, z1, z2, z3, z5, cell_of E.forth 0, cell_of E.have_ 0, cell_of E.crash 0⟩

theorem Env.hav {W w0 : World} {N : Nat} {es : List (FA w0)} {f : Fact} {vf : Value} (E : Env W w0 N es f vf) (hle : es.length ≤ 1048576) (k : Int) (g : Nat) (lb : Array Value) (p : Fact → Bool) (hp : Holds g lb p W) :
    Calls Try.prog 20 #[.int .i64 k, .func (.func g) #[] lb, .pointer (some ⟨N, 0, none⟩)] W fun e w' => e = .returned (.bool (hv (facts es) k p)) ∧ Below W.heap.size W w' :=
  have_any w0 N es hle k g lb p W hp E.low W (Below.refl _ _) E.past

/-- The world behind the boxes. -/
def W6 (w : World) (v : Value) (f : Fact) (vf : Value) : World :=
  (((((w.alloc (.cells #[v] 22)).alloc (.cells #[.int .i64 f.kind, .int .i64 f.node, .int .i64 f.frm, .int .u32 (f.number : Nat), .string ⟨f.name.toArray⟩, .int .i64 f.code, vf] 26)).alloc (.cells #[.func (.func 18) #[] #[.pointer (some ⟨w.heap.size + 1, 0, none⟩)]] 48)).alloc
    (.cells #[.func (.func 19) #[] #[.pointer (some ⟨w.heap.size + 1, 0, none⟩)]] 48)).alloc (.cells #[.func (.func 20) #[] #[.pointer (some ⟨w.heap.size, 0, none⟩)]] 54)).alloc
    (.cells #[.func (.func 24) #[] #[.pointer (some ⟨w.heap.size + 1 + 1 + 1 + 1, 0, none⟩)]] 55)

theorem W6_env (w : World) (v : Value) (es : List (FA w)) (f : Fact) (vf : Value) (hS : Sl w (· < w.heap.size) 7 v es.length (fcells es)) (hv : Bs w (· < w.heap.size) vf f.bytes) : Env (W6 w v f vf) w w.heap.size es f vf := by
  unfold W6
  have a1 := heap_new w (.cells #[v] 22)
  have b1 : Below w.heap.size w (w.alloc (.cells #[v] 22)) := (Below.refl _ _).alloc (Nat.le_refl _) _
  generalize hW1 : w.alloc (.cells #[v] 22) = W1 at *
  have s1 : W1.heap.size = w.heap.size + 1 := by rw [← hW1, World.size_alloc]
  have a2 := heap_new W1 (.cells #[.int .i64 f.kind, .int .i64 f.node, .int .i64 f.frm, .int .u32 (f.number : Nat), .string ⟨f.name.toArray⟩, .int .i64 f.code, vf] 26)
  rw [s1] at a2
  have b2 := b1.alloc b1.size (.cells #[.int .i64 f.kind, .int .i64 f.node, .int .i64 f.frm, .int .u32 (f.number : Nat), .string ⟨f.name.toArray⟩, .int .i64 f.code, vf] 26)
  replace a1 := heap_al a1 (.cells #[.int .i64 f.kind, .int .i64 f.node, .int .i64 f.frm, .int .u32 (f.number : Nat), .string ⟨f.name.toArray⟩, .int .i64 f.code, vf] 26)
  generalize hW2 : W1.alloc (.cells #[.int .i64 f.kind, .int .i64 f.node, .int .i64 f.frm, .int .u32 (f.number : Nat), .string ⟨f.name.toArray⟩, .int .i64 f.code, vf] 26) = W2 at *
  have s2 : W2.heap.size = w.heap.size + 1 + 1 := by rw [← hW2, World.size_alloc, s1]
  have a3 := heap_new W2 (.cells #[.func (.func 18) #[] #[.pointer (some ⟨w.heap.size + 1, 0, none⟩)]] 48)
  rw [s2] at a3
  have b3 := b2.alloc b2.size (.cells #[.func (.func 18) #[] #[.pointer (some ⟨w.heap.size + 1, 0, none⟩)]] 48)
  replace a1 := heap_al a1 (.cells #[.func (.func 18) #[] #[.pointer (some ⟨w.heap.size + 1, 0, none⟩)]] 48)
  replace a2 := heap_al a2 (.cells #[.func (.func 18) #[] #[.pointer (some ⟨w.heap.size + 1, 0, none⟩)]] 48)
  generalize hW3 : W2.alloc (.cells #[.func (.func 18) #[] #[.pointer (some ⟨w.heap.size + 1, 0, none⟩)]] 48) = W3 at *
  have s3 : W3.heap.size = w.heap.size + 1 + 1 + 1 := by rw [← hW3, World.size_alloc, s2]
  have a4 := heap_new W3 (.cells #[.func (.func 19) #[] #[.pointer (some ⟨w.heap.size + 1, 0, none⟩)]] 48)
  rw [s3] at a4
  have b4 := b3.alloc b3.size (.cells #[.func (.func 19) #[] #[.pointer (some ⟨w.heap.size + 1, 0, none⟩)]] 48)
  replace a1 := heap_al a1 (.cells #[.func (.func 19) #[] #[.pointer (some ⟨w.heap.size + 1, 0, none⟩)]] 48)
  replace a2 := heap_al a2 (.cells #[.func (.func 19) #[] #[.pointer (some ⟨w.heap.size + 1, 0, none⟩)]] 48)
  replace a3 := heap_al a3 (.cells #[.func (.func 19) #[] #[.pointer (some ⟨w.heap.size + 1, 0, none⟩)]] 48)
  generalize hW4 : W3.alloc (.cells #[.func (.func 19) #[] #[.pointer (some ⟨w.heap.size + 1, 0, none⟩)]] 48) = W4 at *
  have s4 : W4.heap.size = w.heap.size + 1 + 1 + 1 + 1 := by rw [← hW4, World.size_alloc, s3]
  have a5 := heap_new W4 (.cells #[.func (.func 20) #[] #[.pointer (some ⟨w.heap.size, 0, none⟩)]] 54)
  rw [s4] at a5
  have b5 := b4.alloc b4.size (.cells #[.func (.func 20) #[] #[.pointer (some ⟨w.heap.size, 0, none⟩)]] 54)
  replace a1 := heap_al a1 (.cells #[.func (.func 20) #[] #[.pointer (some ⟨w.heap.size, 0, none⟩)]] 54)
  replace a2 := heap_al a2 (.cells #[.func (.func 20) #[] #[.pointer (some ⟨w.heap.size, 0, none⟩)]] 54)
  replace a3 := heap_al a3 (.cells #[.func (.func 20) #[] #[.pointer (some ⟨w.heap.size, 0, none⟩)]] 54)
  replace a4 := heap_al a4 (.cells #[.func (.func 20) #[] #[.pointer (some ⟨w.heap.size, 0, none⟩)]] 54)
  generalize hW5 : W4.alloc (.cells #[.func (.func 20) #[] #[.pointer (some ⟨w.heap.size, 0, none⟩)]] 54) = W5 at *
  have s5 : W5.heap.size = w.heap.size + 1 + 1 + 1 + 1 + 1 := by rw [← hW5, World.size_alloc, s4]
  have a6 := heap_new W5 (.cells #[.func (.func 24) #[] #[.pointer (some ⟨w.heap.size + 1 + 1 + 1 + 1, 0, none⟩)]] 55)
  rw [s5] at a6
  have b6 := b5.alloc b5.size (.cells #[.func (.func 24) #[] #[.pointer (some ⟨w.heap.size + 1 + 1 + 1 + 1, 0, none⟩)]] 55)
  exact ⟨b6, ⟨v, heap_al a1 _, (Sl.below hS (by decide) b6).imp_lt (by decide)⟩, heap_al a2 _, bs_lift hv b6, heap_al a3 _, heap_al a4 _, heap_al a5 _, a6⟩

theorem may_eq1 (l : List Fact) (f : Fact) (h : f.kind = 1) : may l f = (decide (f.number = 0) || decide (great l 1 (fun x => x.node == f.node) < f.number)) := by
  unfold may; rw [if_pos h]
theorem may_eq2 (l : List Fact) (f : Fact) (h : f.kind = 2) : may l f = (decide (f.number = 0) || decide (great l 2 (fun x => x.node == f.node && x.name == f.name) < f.number)) := by
  unfold may; rw [if_neg (by omega), if_pos h]
theorem may_eq3 (l : List Fact) (f : Fact) (h : f.kind = 3) : may l f = (true) := by
  unfold may; rw [if_neg (by omega), if_neg (by omega), if_pos h]
theorem may_eq4 (l : List Fact) (f : Fact) (h : f.kind = 4) : may l f = (decide (f.number = 0) || decide (great l 4 f.forth < f.number)) := by
  unfold may; rw [if_neg (by omega), if_neg (by omega), if_neg (by omega), if_pos h]
theorem may_eq5 (l : List Fact) (f : Fact) (h : f.kind = 5) : may l f = (true) := by
  unfold may; rw [if_neg (by omega), if_neg (by omega), if_neg (by omega), if_neg (by omega), if_pos h]
theorem may_eq6 (l : List Fact) (f : Fact) (h : f.kind = 6) : may l f = (hv l 1 (fun x => f.back x && f.like x && f.fits x) && !hv l 6 (fun x => f.forth x && f.num x)) := by
  unfold may; rw [if_neg (by omega), if_neg (by omega), if_neg (by omega), if_neg (by omega), if_neg (by omega), if_pos h]
theorem may_eq7 (l : List Fact) (f : Fact) (h : f.kind = 7) : may l f = (hv l 1 (fun x => f.forth x && f.fits x) && !hv l 7 (fun x => x.node == f.node && f.num x) && (decide (f.code ≠ 0) || (crashed l f.frm || hv l 6 (fun x => f.back x && f.num x)))) := by
  unfold may; rw [if_neg (by omega), if_neg (by omega), if_neg (by omega), if_neg (by omega), if_neg (by omega), if_neg (by omega), if_pos h]
theorem may_eq8 (l : List Fact) (f : Fact) (h : f.kind = 8) : may l f = (decide (0 < f.number) && hv l 2 (fun x => x.node == f.frm && f.like x && f.fits x) && hv l 3 f.same && !hv l 8 (fun x => f.same x && decide ((f.number : Int) ≤ x.number))) := by
  unfold may; rw [if_neg (by omega), if_neg (by omega), if_neg (by omega), if_neg (by omega), if_neg (by omega), if_neg (by omega), if_neg (by omega), if_pos h]
theorem may_eq9 (l : List Fact) (f : Fact) (h : f.kind = 9) : may l f = (decide (great l 9 f.forth < f.number) && (decide (f.number - great l 9 f.forth = 1) || crashed l f.node) && hv l 4 (fun x => f.back x && f.fits x)) := by
  unfold may; rw [if_neg (by omega), if_neg (by omega), if_neg (by omega), if_neg (by omega), if_neg (by omega), if_neg (by omega), if_neg (by omega), if_neg (by omega), if_pos h]
theorem may_eq10 (l : List Fact) (f : Fact) (h : f.kind = 10) : may l f = (hv l 4 (fun x => f.forth x && f.fits x) && !hv l 10 (fun x => f.forth x && f.num x) && (crashed l f.frm || hv l 9 (fun x => f.back x && f.num x && x.code == f.code))) := by
  unfold may; rw [if_neg (by omega), if_neg (by omega), if_neg (by omega), if_neg (by omega), if_neg (by omega), if_neg (by omega), if_neg (by omega), if_neg (by omega), if_neg (by omega), if_pos h]

set_option maxRecDepth 100000 in
set_option maxHeartbeats 4000000 in
theorem may_1 (A : Option Addr) (c : Nat) (w : World) (es : List (FA w)) (hle : es.length ≤ 1048576) (f : Fact) (vf : Value) (hf : f.kind = 1) (hS : Sl w (· < w.heap.size) 7 (.slice A es.length c) es.length (fcells es)) (hv0 : Bs w (· < w.heap.size) vf f.bytes) :
    Calls Try.prog 11 #[.slice A es.length c, .agg (f.cells vf).toArray] w fun e w' => e = .returned (.bool (may (facts es) f)) ∧ Below w.heap.size w w' := by
  obtain ⟨Af, cf, hvf, -, -, -, -⟩ := hv0.open_
  have hE := W6_env w (.slice A es.length c) es f vf hS hv0
  have hm := may_eq1 (facts es) f hf
  have hk := hf
  clear hf
  have HM := Lib.hid hm
  clear hm
  subst hvf
  show Calls Try.prog 11 #[.slice A es.length c, .agg #[.int .i64 f.kind, .int .i64 f.node, .int .i64 f.frm, .int .u32 (f.number : Nat), .string ⟨f.name.toArray⟩, .int .i64 f.code, .slice Af f.bytes.length cf]] w _
  rw [show f.kind = 1 from hk]
  have HE := Lib.hid hE
  have HS := Lib.hid hS
  clear hE hS hv0
  have HK := Lib.hid hk
  clear hk
  go_enter Try.func11, Try.ntmps11
  go_wp2_with fail
  obtain ⟨W, hW⟩ : ∃ W, W6 w (.slice A es.length c) f (.slice Af f.bytes.length cf) = W := ⟨_, rfl⟩
  have E := HE.out
  rw [hW] at E
  have hW2 := hW
  unfold W6 at hW2
  rw [HK.out] at hW2
  rw [hW2]
  clear hW hW2 HE
  refine (rises_any w (w.heap.size) (w.heap.size + 1) es hle f (.slice Af f.bytes.length cf) 28 #[.pointer (some ⟨w.heap.size + 1, 0, none⟩)] _ W E.low (cl6 (w.heap.size + 1) f _ W E.fact E.bytes) E.past E.fact).mono ?_
  rintro e w1 ⟨rfl, hb⟩
  go_wp2
  go_ret
  exact ⟨ret_bool (by rw [HM.out, HK.out]), E.low.trans (hb.mono E.low.size)⟩

set_option maxRecDepth 100000 in
set_option maxHeartbeats 4000000 in
theorem may_2 (A : Option Addr) (c : Nat) (w : World) (es : List (FA w)) (hle : es.length ≤ 1048576) (f : Fact) (vf : Value) (hf : f.kind = 2) (hS : Sl w (· < w.heap.size) 7 (.slice A es.length c) es.length (fcells es)) (hv0 : Bs w (· < w.heap.size) vf f.bytes) :
    Calls Try.prog 11 #[.slice A es.length c, .agg (f.cells vf).toArray] w fun e w' => e = .returned (.bool (may (facts es) f)) ∧ Below w.heap.size w w' := by
  obtain ⟨Af, cf, hvf, -, -, -, -⟩ := hv0.open_
  have hE := W6_env w (.slice A es.length c) es f vf hS hv0
  have hm := may_eq2 (facts es) f hf
  have hk := hf
  clear hf
  have HM := Lib.hid hm
  clear hm
  subst hvf
  show Calls Try.prog 11 #[.slice A es.length c, .agg #[.int .i64 f.kind, .int .i64 f.node, .int .i64 f.frm, .int .u32 (f.number : Nat), .string ⟨f.name.toArray⟩, .int .i64 f.code, .slice Af f.bytes.length cf]] w _
  rw [show f.kind = 2 from hk]
  have HE := Lib.hid hE
  have HS := Lib.hid hS
  clear hE hS hv0
  have HK := Lib.hid hk
  clear hk
  go_enter Try.func11, Try.ntmps11
  go_wp2_with fail
  obtain ⟨W, hW⟩ : ∃ W, W6 w (.slice A es.length c) f (.slice Af f.bytes.length cf) = W := ⟨_, rfl⟩
  have E := HE.out
  rw [hW] at E
  have hW2 := hW
  unfold W6 at hW2
  rw [HK.out] at hW2
  rw [hW2]
  clear hW hW2 HE
  refine (rises_any w (w.heap.size) (w.heap.size + 1) es hle f (.slice Af f.bytes.length cf) 29 #[.pointer (some ⟨w.heap.size + 1, 0, none⟩)] _ W E.low (cl7 (w.heap.size + 1) f _ W E.fact E.bytes) E.past E.fact).mono ?_
  rintro e w1 ⟨rfl, hb⟩
  go_wp2
  go_ret
  exact ⟨ret_bool (by rw [HM.out, HK.out]), E.low.trans (hb.mono E.low.size)⟩

set_option maxRecDepth 100000 in
set_option maxHeartbeats 4000000 in
theorem may_3 (A : Option Addr) (c : Nat) (w : World) (es : List (FA w)) (hle : es.length ≤ 1048576) (f : Fact) (vf : Value) (hf : f.kind = 3) (hS : Sl w (· < w.heap.size) 7 (.slice A es.length c) es.length (fcells es)) (hv0 : Bs w (· < w.heap.size) vf f.bytes) :
    Calls Try.prog 11 #[.slice A es.length c, .agg (f.cells vf).toArray] w fun e w' => e = .returned (.bool (may (facts es) f)) ∧ Below w.heap.size w w' := by
  obtain ⟨Af, cf, hvf, -, -, -, -⟩ := hv0.open_
  have hE := W6_env w (.slice A es.length c) es f vf hS hv0
  have hm := may_eq3 (facts es) f hf
  have hk := hf
  clear hf
  have HM := Lib.hid hm
  clear hm
  subst hvf
  show Calls Try.prog 11 #[.slice A es.length c, .agg #[.int .i64 f.kind, .int .i64 f.node, .int .i64 f.frm, .int .u32 (f.number : Nat), .string ⟨f.name.toArray⟩, .int .i64 f.code, .slice Af f.bytes.length cf]] w _
  rw [show f.kind = 3 from hk]
  have HE := Lib.hid hE
  have HS := Lib.hid hS
  clear hE hS hv0
  have HK := Lib.hid hk
  clear hk
  go_enter Try.func11, Try.ntmps11
  go_wp2
  go_ret
  have hb := HE.out.low
  unfold W6 at hb
  rw [HK.out] at hb
  exact ⟨ret_bool (by rw [HM.out]), hb⟩

set_option maxRecDepth 100000 in
set_option maxHeartbeats 4000000 in
theorem may_4 (A : Option Addr) (c : Nat) (w : World) (es : List (FA w)) (hle : es.length ≤ 1048576) (f : Fact) (vf : Value) (hf : f.kind = 4) (hS : Sl w (· < w.heap.size) 7 (.slice A es.length c) es.length (fcells es)) (hv0 : Bs w (· < w.heap.size) vf f.bytes) :
    Calls Try.prog 11 #[.slice A es.length c, .agg (f.cells vf).toArray] w fun e w' => e = .returned (.bool (may (facts es) f)) ∧ Below w.heap.size w w' := by
  obtain ⟨Af, cf, hvf, -, -, -, -⟩ := hv0.open_
  have hE := W6_env w (.slice A es.length c) es f vf hS hv0
  have hm := may_eq4 (facts es) f hf
  have hk := hf
  clear hf
  have HM := Lib.hid hm
  clear hm
  subst hvf
  show Calls Try.prog 11 #[.slice A es.length c, .agg #[.int .i64 f.kind, .int .i64 f.node, .int .i64 f.frm, .int .u32 (f.number : Nat), .string ⟨f.name.toArray⟩, .int .i64 f.code, .slice Af f.bytes.length cf]] w _
  rw [show f.kind = 4 from hk]
  have HE := Lib.hid hE
  have HS := Lib.hid hS
  clear hE hS hv0
  have HK := Lib.hid hk
  clear hk
  go_enter Try.func11, Try.ntmps11
  go_wp2_with fail
  obtain ⟨W, hW⟩ : ∃ W, W6 w (.slice A es.length c) f (.slice Af f.bytes.length cf) = W := ⟨_, rfl⟩
  have E := HE.out
  rw [hW] at E
  have hW2 := hW
  unfold W6 at hW2
  rw [HK.out] at hW2
  rw [hW2]
  clear hW hW2 HE
  refine (rises_any w (w.heap.size) (w.heap.size + 1) es hle f (.slice Af f.bytes.length cf) 19 #[.pointer (some ⟨w.heap.size + 1, 0, none⟩)] _ W E.low (cl2 (w.heap.size + 1) f _ W E.fact E.bytes) E.past E.fact).mono ?_
  rintro e w1 ⟨rfl, hb⟩
  go_wp2
  go_ret
  exact ⟨ret_bool (by rw [HM.out, HK.out]), E.low.trans (hb.mono E.low.size)⟩

set_option maxRecDepth 100000 in
set_option maxHeartbeats 4000000 in
theorem may_5 (A : Option Addr) (c : Nat) (w : World) (es : List (FA w)) (hle : es.length ≤ 1048576) (f : Fact) (vf : Value) (hf : f.kind = 5) (hS : Sl w (· < w.heap.size) 7 (.slice A es.length c) es.length (fcells es)) (hv0 : Bs w (· < w.heap.size) vf f.bytes) :
    Calls Try.prog 11 #[.slice A es.length c, .agg (f.cells vf).toArray] w fun e w' => e = .returned (.bool (may (facts es) f)) ∧ Below w.heap.size w w' := by
  obtain ⟨Af, cf, hvf, -, -, -, -⟩ := hv0.open_
  have hE := W6_env w (.slice A es.length c) es f vf hS hv0
  have hm := may_eq5 (facts es) f hf
  have hk := hf
  clear hf
  have HM := Lib.hid hm
  clear hm
  subst hvf
  show Calls Try.prog 11 #[.slice A es.length c, .agg #[.int .i64 f.kind, .int .i64 f.node, .int .i64 f.frm, .int .u32 (f.number : Nat), .string ⟨f.name.toArray⟩, .int .i64 f.code, .slice Af f.bytes.length cf]] w _
  rw [show f.kind = 5 from hk]
  have HE := Lib.hid hE
  have HS := Lib.hid hS
  clear hE hS hv0
  have HK := Lib.hid hk
  clear hk
  go_enter Try.func11, Try.ntmps11
  go_wp2
  go_ret
  have hb := HE.out.low
  unfold W6 at hb
  rw [HK.out] at hb
  exact ⟨ret_bool (by rw [HM.out]), hb⟩

set_option maxRecDepth 100000 in
set_option maxHeartbeats 4000000 in
theorem may_6 (A : Option Addr) (c : Nat) (w : World) (es : List (FA w)) (hle : es.length ≤ 1048576) (f : Fact) (vf : Value) (hf : f.kind = 6) (hS : Sl w (· < w.heap.size) 7 (.slice A es.length c) es.length (fcells es)) (hv0 : Bs w (· < w.heap.size) vf f.bytes) :
    Calls Try.prog 11 #[.slice A es.length c, .agg (f.cells vf).toArray] w fun e w' => e = .returned (.bool (may (facts es) f)) ∧ Below w.heap.size w w' := by
  obtain ⟨Af, cf, hvf, -, -, -, -⟩ := hv0.open_
  have hE := W6_env w (.slice A es.length c) es f vf hS hv0
  have hm := may_eq6 (facts es) f hf
  have hk := hf
  clear hf
  have HM := Lib.hid hm
  clear hm
  subst hvf
  show Calls Try.prog 11 #[.slice A es.length c, .agg #[.int .i64 f.kind, .int .i64 f.node, .int .i64 f.frm, .int .u32 (f.number : Nat), .string ⟨f.name.toArray⟩, .int .i64 f.code, .slice Af f.bytes.length cf]] w _
  rw [show f.kind = 6 from hk]
  have HE := Lib.hid hE
  have HS := Lib.hid hS
  clear hE hS hv0
  have HK := Lib.hid hk
  clear hk
  go_enter Try.func11, Try.ntmps11
  go_wp2_with fail
  obtain ⟨W, hW⟩ : ∃ W, W6 w (.slice A es.length c) f (.slice Af f.bytes.length cf) = W := ⟨_, rfl⟩
  have E := HE.out
  rw [hW] at E
  have hW2 := hW
  unfold W6 at hW2
  rw [HK.out] at hW2
  rw [hW2]
  clear hW hW2 HE
  refine (E.hav hle 1 30 #[.pointer (some ⟨w.heap.size + 1 + 1, 0, none⟩), .pointer (some ⟨w.heap.size + 1, 0, none⟩)] (fun x => f.back x && f.like x && f.fits x) (cl8 (w.heap.size + 1 + 1) (w.heap.size + 1) f _ W E.fact E.bytes E.back)).mono ?_
  rintro e w1 ⟨rfl, hb1⟩
  have E1 := E.below hb1
  obtain ⟨x00, x01, x02, x03, x04, x05, x06, x07⟩ := E1.cells
  cases q0 : hv (facts es) 1 (fun x => f.back x && f.like x && f.fits x)
  · go_wp2
    go_ret
    exact ⟨ret_bool (by rw [HM.out]; simp only [q0]; simp), E1.low⟩
  ·
    go_wp2_with fail
    refine (E1.hav hle 6 33 #[.pointer (some ⟨w.heap.size + 1 + 1 + 1, 0, none⟩), .pointer (some ⟨w.heap.size + 1, 0, none⟩)] (fun x => f.forth x && f.num x) (cl9 (w.heap.size + 1 + 1 + 1) (w.heap.size + 1) f _ w1 E1.fact E1.bytes E1.forth)).mono ?_
    rintro e w2 ⟨rfl, hb2⟩
    have E2 := E1.below hb2
    obtain ⟨x10, x11, x12, x13, x14, x15, x16, x17⟩ := E2.cells
    cases q1 : hv (facts es) 6 (fun x => f.forth x && f.num x)
    rotate_left
    · go_wp2
      go_ret
      exact ⟨ret_bool (by rw [HM.out]; simp only [q0, q1]; simp), E2.low⟩
    ·
      go_wp2
      go_ret
      exact ⟨ret_bool (by rw [HM.out]; simp only [q0, q1]; simp), E2.low⟩

set_option maxRecDepth 100000 in
set_option maxHeartbeats 4000000 in
theorem may_7 (A : Option Addr) (c : Nat) (w : World) (es : List (FA w)) (hle : es.length ≤ 1048576) (f : Fact) (vf : Value) (hf : f.kind = 7) (hS : Sl w (· < w.heap.size) 7 (.slice A es.length c) es.length (fcells es)) (hv0 : Bs w (· < w.heap.size) vf f.bytes) :
    Calls Try.prog 11 #[.slice A es.length c, .agg (f.cells vf).toArray] w fun e w' => e = .returned (.bool (may (facts es) f)) ∧ Below w.heap.size w w' := by
  obtain ⟨Af, cf, hvf, -, -, -, -⟩ := hv0.open_
  have hE := W6_env w (.slice A es.length c) es f vf hS hv0
  have hm := may_eq7 (facts es) f hf
  have hk := hf
  clear hf
  have HM := Lib.hid hm
  clear hm
  subst hvf
  show Calls Try.prog 11 #[.slice A es.length c, .agg #[.int .i64 f.kind, .int .i64 f.node, .int .i64 f.frm, .int .u32 (f.number : Nat), .string ⟨f.name.toArray⟩, .int .i64 f.code, .slice Af f.bytes.length cf]] w _
  rw [show f.kind = 7 from hk]
  have HE := Lib.hid hE
  have HS := Lib.hid hS
  clear hE hS hv0
  have HK := Lib.hid hk
  clear hk
  go_enter Try.func11, Try.ntmps11
  go_wp2_with fail
  obtain ⟨W, hW⟩ : ∃ W, W6 w (.slice A es.length c) f (.slice Af f.bytes.length cf) = W := ⟨_, rfl⟩
  have E := HE.out
  rw [hW] at E
  have hW2 := hW
  unfold W6 at hW2
  rw [HK.out] at hW2
  rw [hW2]
  clear hW hW2 HE
  refine (E.hav hle 1 36 #[.pointer (some ⟨w.heap.size + 1 + 1 + 1, 0, none⟩), .pointer (some ⟨w.heap.size + 1, 0, none⟩)] (fun x => f.forth x && f.fits x) (cl11 (w.heap.size + 1 + 1 + 1) (w.heap.size + 1) f _ W E.fact E.bytes E.forth)).mono ?_
  rintro e w1 ⟨rfl, hb1⟩
  have E1 := E.below hb1
  obtain ⟨x00, x01, x02, x03, x04, x05, x06, x07⟩ := E1.cells
  cases q0 : hv (facts es) 1 (fun x => f.forth x && f.fits x)
  · go_wp2
    go_ret
    exact ⟨ret_bool (by rw [HM.out]; simp only [q0]; simp), E1.low⟩
  ·
    go_wp2_with fail
    refine (E1.hav hle 7 37 #[.pointer (some ⟨w.heap.size + 1, 0, none⟩)] (fun x => x.node == f.node && f.num x) (cl12 (w.heap.size + 1) f _ w1 E1.fact E1.bytes)).mono ?_
    rintro e w2 ⟨rfl, hb2⟩
    have E2 := E1.below hb2
    obtain ⟨x10, x11, x12, x13, x14, x15, x16, x17⟩ := E2.cells
    cases q1 : hv (facts es) 7 (fun x => x.node == f.node && f.num x)
    rotate_left
    · go_wp2
      go_ret
      exact ⟨ret_bool (by rw [HM.out]; simp only [q0, q1]; simp), E2.low⟩
    ·
      by_cases hc : f.code = 0
      · have hd : (f.code != 0) = false := by simp [hc]
        have HCC := Lib.hid hc
        clear hc
        go_wp2_with fail
        refine (there_any w (w.heap.size) (w.heap.size + 1 + 1 + 1 + 1) (w.heap.size + 1 + 1 + 1 + 1 + 1) (w.heap.size + 1 + 1) (w.heap.size + 1) es hle f (.slice Af f.bytes.length cf) w2 E2.low E2.past E2.have_ E2.fact E2.bytes E2.crash E2.back).mono ?_
        rintro e w3 ⟨rfl, hb3⟩
        have E3 := E2.below hb3
        go_wp2
        go_ret
        exact ⟨ret_bool (by rw [HM.out]; simp only [q0, q1, HCC.out]; simp), E3.low⟩
      · have hd : (f.code != 0) = true := by simp [hc]
        have HCC := Lib.hid hc
        clear hc
        go_wp2
        go_ret
        exact ⟨ret_bool (by rw [HM.out]; simp only [q0, q1]; simp [HCC.out]), E2.low⟩

set_option maxRecDepth 100000 in
set_option maxHeartbeats 4000000 in
theorem may_8 (A : Option Addr) (c : Nat) (w : World) (es : List (FA w)) (hle : es.length ≤ 1048576) (f : Fact) (vf : Value) (hf : f.kind = 8) (hS : Sl w (· < w.heap.size) 7 (.slice A es.length c) es.length (fcells es)) (hv0 : Bs w (· < w.heap.size) vf f.bytes) :
    Calls Try.prog 11 #[.slice A es.length c, .agg (f.cells vf).toArray] w fun e w' => e = .returned (.bool (may (facts es) f)) ∧ Below w.heap.size w w' := by
  obtain ⟨Af, cf, hvf, -, -, -, -⟩ := hv0.open_
  have hE := W6_env w (.slice A es.length c) es f vf hS hv0
  have hm := may_eq8 (facts es) f hf
  have hk := hf
  clear hf
  have HM := Lib.hid hm
  clear hm
  subst hvf
  show Calls Try.prog 11 #[.slice A es.length c, .agg #[.int .i64 f.kind, .int .i64 f.node, .int .i64 f.frm, .int .u32 (f.number : Nat), .string ⟨f.name.toArray⟩, .int .i64 f.code, .slice Af f.bytes.length cf]] w _
  rw [show f.kind = 8 from hk]
  have HE := Lib.hid hE
  have HS := Lib.hid hS
  clear hE hS hv0
  have HK := Lib.hid hk
  clear hk
  go_enter Try.func11, Try.ntmps11
  by_cases h0 : f.number = 0
  · have hd : decide ((0 : Int) < (f.number : Int)) = false := by simp [h0]
    have hd2 : ¬ ((0 : Int) < (f.number : Int)) := by omega
    have HZ := Lib.hid h0
    clear h0
    go_wp2
    go_ret
    have hb := (HE.out.low).alloc (HE.out.low).size (.cells #[.func (.func 39) #[] #[.pointer (some ⟨w.heap.size + 1 + 1 + 1, 0, none⟩), .pointer (some ⟨w.heap.size + 1, 0, none⟩)]] 48)
    unfold W6 at hb
    rw [HK.out] at hb
    exact ⟨ret_bool (by rw [HM.out, HZ.out]; simp), hb⟩
  · have hd : decide ((0 : Int) < (f.number : Int)) = true := by simp; omega
    have hd2 : ((0 : Int) < (f.number : Int)) := by omega
    have HZ := Lib.hid h0
    clear h0
    go_wp2_with fail
    obtain ⟨W6x, hW⟩ : ∃ W, W6 w (.slice A es.length c) f (.slice Af f.bytes.length cf) = W := ⟨_, rfl⟩
    have hsz : W6x.heap.size = w.heap.size + 1 + 1 + 1 + 1 + 1 + 1 := by rw [← hW]; unfold W6; simp only [World.size_alloc]
    have E0 := HE.out
    rw [hW] at E0
    have hW2 := hW
    unfold W6 at hW2
    rw [HK.out] at hW2
    rw [hW2]
    clear hW hW2 HE
    have E := E0.below ((Below.refl _ _).alloc (Nat.le_refl _) (.cells #[.func (.func 39) #[] #[.pointer (some ⟨w.heap.size + 1 + 1 + 1, 0, none⟩), .pointer (some ⟨w.heap.size + 1, 0, none⟩)]] 48))
    have hSm := heap_new W6x (.cells #[.func (.func 39) #[] #[.pointer (some ⟨w.heap.size + 1 + 1 + 1, 0, none⟩), .pointer (some ⟨w.heap.size + 1, 0, none⟩)]] 48)
    rw [hsz] at hSm
    generalize W6x.alloc (.cells #[.func (.func 39) #[] #[.pointer (some ⟨w.heap.size + 1 + 1 + 1, 0, none⟩), .pointer (some ⟨w.heap.size + 1, 0, none⟩)]] 48) = W at *
    clear E0 hsz
    refine (E.hav hle 2 38 #[.pointer (some ⟨w.heap.size + 1, 0, none⟩)] (fun x => x.node == f.frm && f.like x && f.fits x) (cl13 (w.heap.size + 1) f _ W E.fact E.bytes)).mono ?_
    rintro e w1 ⟨rfl, hb1⟩
    have E1 := E.below hb1
    have hS1 := heap_bl hb1 hSm
    have s1 := cell_of hS1 0
    simp at s1
    obtain ⟨x00, x01, x02, x03, x04, x05, x06, x07⟩ := E1.cells
    cases q0 : hv (facts es) 2 (fun x => x.node == f.frm && f.like x && f.fits x)
    · go_wp2
      go_ret
      exact ⟨ret_bool (by rw [HM.out]; simp only [q0]; simp), E1.low⟩
    · go_wp2_with fail
      refine (E1.hav hle 3 39 #[.pointer (some ⟨w.heap.size + 1 + 1 + 1, 0, none⟩), .pointer (some ⟨w.heap.size + 1, 0, none⟩)] f.same (cl14 (w.heap.size + 1 + 1 + 1) (w.heap.size + 1) f _ w1 E1.fact E1.bytes E1.forth)).mono ?_
      rintro e w2 ⟨rfl, hb2⟩
      have E2 := E1.below hb2
      have hS2 := heap_bl hb2 hS1
      have s2 := cell_of hS2 0
      simp at s2
      obtain ⟨x10, x11, x12, x13, x14, x15, x16, x17⟩ := E2.cells
      cases q1 : hv (facts es) 3 f.same
      · go_wp2
        go_ret
        exact ⟨ret_bool (by rw [HM.out]; simp only [q0, q1]; simp), E2.low⟩
      · go_wp2_with fail
        refine (E2.hav hle 8 40 #[.pointer (some ⟨w.heap.size + 1 + 1 + 1 + 1 + 1 + 1, 0, none⟩), .pointer (some ⟨w.heap.size + 1, 0, none⟩)] (fun x => f.same x && decide ((f.number : Int) ≤ x.number)) (cl15 (w.heap.size + 1 + 1 + 1 + 1 + 1 + 1) (w.heap.size + 1 + 1 + 1) (w.heap.size + 1) f _ w2 E2.fact E2.bytes hS2 E2.forth)).mono ?_
        rintro e w3 ⟨rfl, hb3⟩
        have E3 := E2.below hb3
        go_wp2
        go_ret
        exact ⟨ret_bool (by rw [HM.out]; simp only [q0, q1]; simp; have := HZ.out; omega), E3.low⟩

set_option maxRecDepth 100000 in
set_option maxHeartbeats 4000000 in
theorem may_9 (A : Option Addr) (c : Nat) (w : World) (es : List (FA w)) (hle : es.length ≤ 1048576) (f : Fact) (vf : Value) (hf : f.kind = 9) (hS : Sl w (· < w.heap.size) 7 (.slice A es.length c) es.length (fcells es)) (hv0 : Bs w (· < w.heap.size) vf f.bytes) (hn : f.number < 4294967296) (hg : ∀ x ∈ facts es, x.number < 4294967296) :
    Calls Try.prog 11 #[.slice A es.length c, .agg (f.cells vf).toArray] w fun e w' => e = .returned (.bool (may (facts es) f)) ∧ Below w.heap.size w w' := by
  obtain ⟨Af, cf, hvf, -, -, -, -⟩ := hv0.open_
  have hE := W6_env w (.slice A es.length c) es f vf hS hv0
  have hm := may_eq9 (facts es) f hf
  have hk := hf
  clear hf
  have HM := Lib.hid hm
  clear hm
  subst hvf
  show Calls Try.prog 11 #[.slice A es.length c, .agg #[.int .i64 f.kind, .int .i64 f.node, .int .i64 f.frm, .int .u32 (f.number : Nat), .string ⟨f.name.toArray⟩, .int .i64 f.code, .slice Af f.bytes.length cf]] w _
  rw [show f.kind = 9 from hk]
  have HE := Lib.hid hE
  have HS := Lib.hid hS
  clear hE hS hv0
  have HK := Lib.hid hk
  clear hk
  go_enter Try.func11, Try.ntmps11
  go_wp2_with fail
  obtain ⟨W, hW⟩ : ∃ W, W6 w (.slice A es.length c) f (.slice Af f.bytes.length cf) = W := ⟨_, rfl⟩
  have E := HE.out
  rw [hW] at E
  have hW2 := hW
  unfold W6 at hW2
  rw [HK.out] at hW2
  rw [hW2]
  clear hW hW2 HE
  refine (greatest_any w _ 9 es hle 19 #[.pointer (some ⟨w.heap.size + 1, 0, none⟩)] f.forth W (cl2 (w.heap.size + 1) f _ W E.fact E.bytes) E.low W (Below.refl _ _) ((Sl.below HS.out (by decide) E.low).imp_lt (by decide))).mono ?_
  rintro e w1 ⟨rfl, hb1⟩
  have E1 := E.below hb1
  obtain ⟨x00, x01, x02, x03, x04, x05, x06, x07⟩ := E1.cells
  have hgl := great_lt (facts es) 9 f.forth hg
  clear hg
  generalize great (facts es) 9 f.forth = G at *
  by_cases h1 : G < f.number
  · have hd1 : ((G : Int) < (f.number : Int)) := by omega
    by_cases h2 : f.number - G = 1
    · have hd2 : ((f.number : Int) - (G : Int)) = 1 := by omega
      have HH := Lib.hid h2
      clear h2
      go_wp2_with fail
      refine (E1.hav hle 4 41 #[.pointer (some ⟨w.heap.size + 1 + 1, 0, none⟩), .pointer (some ⟨w.heap.size + 1, 0, none⟩)] (fun x => f.back x && f.fits x) (cl16 (w.heap.size + 1 + 1) (w.heap.size + 1) f _ w1 E1.fact E1.bytes E1.back)).mono ?_
      rintro e w2 ⟨rfl, hbx⟩
      have Ex := E1.below hbx
      go_wp2
      go_ret
      exact ⟨ret_bool (by rw [HM.out, decide_eq_true h1, decide_eq_true HH.out]; simp), Ex.low⟩
    · have hd2 : (((f.number : Int) - (G : Int)) == 1) = false := by simp; omega
      have HH := Lib.hid h2
      clear h2
      go_wp2_with fail
      refine (crashed_any w (w.heap.size) (w.heap.size + 1 + 1 + 1 + 1) es hle f.node w1 E1.low E1.past E1.have_).mono ?_
      rintro e w2 ⟨rfl, hb2⟩
      have E2 := E1.below hb2
      obtain ⟨x10, x11, x12, x13, x14, x15, x16, x17⟩ := E2.cells
      cases q1 : crashed (facts es) f.node
      · go_wp2
        go_ret
        exact ⟨ret_bool (by rw [HM.out, decide_eq_true h1, decide_eq_false HH.out, q1]; simp), E2.low⟩
      ·
        go_wp2_with fail
        refine (E2.hav hle 4 41 #[.pointer (some ⟨w.heap.size + 1 + 1, 0, none⟩), .pointer (some ⟨w.heap.size + 1, 0, none⟩)] (fun x => f.back x && f.fits x) (cl16 (w.heap.size + 1 + 1) (w.heap.size + 1) f _ w2 E2.fact E2.bytes E2.back)).mono ?_
        rintro e w3 ⟨rfl, hbx⟩
        have Ex := E2.below hbx
        go_wp2
        go_ret
        exact ⟨ret_bool (by rw [HM.out, decide_eq_true h1, decide_eq_false HH.out, q1]; simp), Ex.low⟩
  · have hd1 : decide ((G : Int) < (f.number : Int)) = false := by simp; omega
    have hd3 : ¬ ((G : Int) < (f.number : Int)) := by omega
    have HH := Lib.hid h1
    clear h1
    go_wp2
    go_ret
    exact ⟨ret_bool (by rw [HM.out, decide_eq_false HH.out]; simp), E1.low⟩

set_option maxRecDepth 100000 in
set_option maxHeartbeats 4000000 in
theorem may_10 (A : Option Addr) (c : Nat) (w : World) (es : List (FA w)) (hle : es.length ≤ 1048576) (f : Fact) (vf : Value) (hf : f.kind = 10) (hS : Sl w (· < w.heap.size) 7 (.slice A es.length c) es.length (fcells es)) (hv0 : Bs w (· < w.heap.size) vf f.bytes) :
    Calls Try.prog 11 #[.slice A es.length c, .agg (f.cells vf).toArray] w fun e w' => e = .returned (.bool (may (facts es) f)) ∧ Below w.heap.size w w' := by
  obtain ⟨Af, cf, hvf, -, -, -, -⟩ := hv0.open_
  have hE := W6_env w (.slice A es.length c) es f vf hS hv0
  have hm := may_eq10 (facts es) f hf
  have hk := hf
  clear hf
  have HM := Lib.hid hm
  clear hm
  subst hvf
  show Calls Try.prog 11 #[.slice A es.length c, .agg #[.int .i64 f.kind, .int .i64 f.node, .int .i64 f.frm, .int .u32 (f.number : Nat), .string ⟨f.name.toArray⟩, .int .i64 f.code, .slice Af f.bytes.length cf]] w _
  rw [show f.kind = 10 from hk]
  have HE := Lib.hid hE
  have HS := Lib.hid hS
  clear hE hS hv0
  have HK := Lib.hid hk
  clear hk
  go_enter Try.func11, Try.ntmps11
  go_wp2_with fail
  obtain ⟨W, hW⟩ : ∃ W, W6 w (.slice A es.length c) f (.slice Af f.bytes.length cf) = W := ⟨_, rfl⟩
  have E := HE.out
  rw [hW] at E
  have hW2 := hW
  unfold W6 at hW2
  rw [HK.out] at hW2
  rw [hW2]
  clear hW hW2 HE
  refine (E.hav hle 4 43 #[.pointer (some ⟨w.heap.size + 1 + 1 + 1, 0, none⟩), .pointer (some ⟨w.heap.size + 1, 0, none⟩)] (fun x => f.forth x && f.fits x) (cl18 (w.heap.size + 1 + 1 + 1) (w.heap.size + 1) f _ W E.fact E.bytes E.forth)).mono ?_
  rintro e w1 ⟨rfl, hb1⟩
  have E1 := E.below hb1
  obtain ⟨x00, x01, x02, x03, x04, x05, x06, x07⟩ := E1.cells
  cases q0 : hv (facts es) 4 (fun x => f.forth x && f.fits x)
  · go_wp2
    go_ret
    exact ⟨ret_bool (by rw [HM.out]; simp only [q0]; simp), E1.low⟩
  ·
    go_wp2_with fail
    refine (E1.hav hle 10 44 #[.pointer (some ⟨w.heap.size + 1 + 1 + 1, 0, none⟩), .pointer (some ⟨w.heap.size + 1, 0, none⟩)] (fun x => f.forth x && f.num x) (cl19 (w.heap.size + 1 + 1 + 1) (w.heap.size + 1) f _ w1 E1.fact E1.bytes E1.forth)).mono ?_
    rintro e w2 ⟨rfl, hb2⟩
    have E2 := E1.below hb2
    obtain ⟨x10, x11, x12, x13, x14, x15, x16, x17⟩ := E2.cells
    cases q1 : hv (facts es) 10 (fun x => f.forth x && f.num x)
    rotate_left
    · go_wp2
      go_ret
      exact ⟨ret_bool (by rw [HM.out]; simp only [q0, q1]; simp), E2.low⟩
    ·
      go_wp2_with fail
      refine (crashed_any w (w.heap.size) (w.heap.size + 1 + 1 + 1 + 1) es hle f.frm w2 E2.low E2.past E2.have_).mono ?_
      rintro e w3 ⟨rfl, hb3⟩
      have E3 := E2.below hb3
      obtain ⟨x30, x31, x32, x33, x34, x35, x36, x37⟩ := E3.cells
      cases q3 : crashed (facts es) f.frm
      · go_wp2_with fail
        refine (E3.hav hle 9 42 #[.pointer (some ⟨w.heap.size + 1 + 1, 0, none⟩), .pointer (some ⟨w.heap.size + 1, 0, none⟩)] (fun x => f.back x && f.num x && x.code == f.code) (cl17 (w.heap.size + 1 + 1) (w.heap.size + 1) f _ w3 E3.fact E3.bytes E3.back)).mono ?_
        rintro e w4 ⟨rfl, hb4⟩
        have E4 := E3.below hb4
        go_wp2
        go_ret
        exact ⟨ret_bool (by rw [HM.out]; simp only [q0, q1, q3]; simp), E4.low⟩
      · go_wp2
        go_ret
        exact ⟨ret_bool (by rw [HM.out]; simp only [q0, q1, q3]; simp), E3.low⟩

set_option maxRecDepth 100000 in
set_option maxHeartbeats 4000000 in
theorem may_x (A : Option Addr) (c : Nat) (w : World) (es : List (FA w)) (hle : es.length ≤ 1048576) (f : Fact) (vf : Value) (hf : f.kind < 1 ∨ 10 < f.kind) (hS : Sl w (· < w.heap.size) 7 (.slice A es.length c) es.length (fcells es)) (hv0 : Bs w (· < w.heap.size) vf f.bytes) :
    Calls Try.prog 11 #[.slice A es.length c, .agg (f.cells vf).toArray] w fun e w' => e = .returned (.bool (may (facts es) f)) ∧ Below w.heap.size w w' := by
  obtain ⟨Af, cf, hvf, -, -, -, -⟩ := hv0.open_
  have hE := W6_env w (.slice A es.length c) es f vf hS hv0
  have hm : may (facts es) f = false := by unfold may; rw [if_neg (by omega), if_neg (by omega), if_neg (by omega), if_neg (by omega), if_neg (by omega), if_neg (by omega), if_neg (by omega), if_neg (by omega), if_neg (by omega), if_neg (by omega)]
  have d1 : (f.kind == 1) = false := by rw [beq_eq_false_iff_ne]; omega
  have d2 : (f.kind == 2) = false := by rw [beq_eq_false_iff_ne]; omega
  have d3 : (f.kind == 3) = false := by rw [beq_eq_false_iff_ne]; omega
  have d4 : (f.kind == 4) = false := by rw [beq_eq_false_iff_ne]; omega
  have d5 : (f.kind == 5) = false := by rw [beq_eq_false_iff_ne]; omega
  have d6 : (f.kind == 6) = false := by rw [beq_eq_false_iff_ne]; omega
  have d7 : (f.kind == 7) = false := by rw [beq_eq_false_iff_ne]; omega
  have d8 : (f.kind == 8) = false := by rw [beq_eq_false_iff_ne]; omega
  have d9 : (f.kind == 9) = false := by rw [beq_eq_false_iff_ne]; omega
  have d10 : (f.kind == 10) = false := by rw [beq_eq_false_iff_ne]; omega
  clear hf
  have HM := Lib.hid hm
  clear hm
  subst hvf
  show Calls Try.prog 11 #[.slice A es.length c, .agg #[.int .i64 f.kind, .int .i64 f.node, .int .i64 f.frm, .int .u32 (f.number : Nat), .string ⟨f.name.toArray⟩, .int .i64 f.code, .slice Af f.bytes.length cf]] w _
  have HE := Lib.hid hE
  have HS := Lib.hid hS
  clear hE hS hv0
  go_enter Try.func11, Try.ntmps11
  go_wp2
  go_ret
  have hb := HE.out.low
  unfold W6 at hb
  exact ⟨ret_bool (by rw [HM.out]), hb⟩

end Go.Proofs.Ytfdijgdojejimaa
