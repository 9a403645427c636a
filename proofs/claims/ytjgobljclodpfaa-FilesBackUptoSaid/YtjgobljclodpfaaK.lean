/- Words for memory that all texts of this seat use: which cells a slice reads, what a call leaves unturned. No condition. -/
import Derived.WalkKit
import Derived.BigFrame
import Derived.Below
import Derived.Laws.OwnMore
import Derived.Deep.Draws
import Derived.Laws.AppendOwnNone
import Derived.WalkSpells
import Derived.Lib.Hide
import Derived.Laws.IdiomStrings
import Derived.Lib.BufferRead
namespace Go.Proofs.Ytjgobljclodpfaa.K
open Go.RowKit

theorem block_add (a : Addr) (n : Nat) : (a.add n).block = a.block := by unfold Addr.add; split <;> rfl

theorem below_dn {B : Nat} {a w : World} (h : Below B a w) (n : Nat) : Below B a (w.drewN n) := ⟨h.os, h.tape, h.output, h.size, h.block⟩
theorem below_al {a w : World} (h : Below a.heap.size a w) (o : Obj) : Below a.heap.size a (w.alloc o) := h.alloc h.size o
theorem below_sc {B : Nat} {a w : World} (h : Below B a w) {p : Addr} (hp : B ≤ p.block) (u : Value) : Below B a (w.setCell p u) := h.setCell hp u
/-- Behind a call that writes one block of the caller's own. -/
theorem below_gr {a w w' : World} {b : Nat} (h : Below a.heap.size a w) (hg : w.grownBy w' (some b)) (hb : a.heap.size ≤ b) : Below a.heap.size a w' :=
  h.grown hg h.size (fun k e => by cases e; exact hb)
/-- Behind a call that writes nothing that was there. -/
theorem below_tr {a w w' : World} (h : Below a.heap.size a w) (k : Below w.heap.size w w') : Below a.heap.size a w' := h.trans (k.mono h.size)

/-- From address ad on the cells read xs. -/
def At (w : World) (ad : Addr) (xs : List Value) : Prop := ∀ j u, xs[j]? = some u → w.cell? (ad.add j) = some u

/-- Slice value v: n elements of k cells each; its cells read xs; its block is one of F. -/
def Sl (w : World) (F : Nat → Prop) (k : Nat) (v : Value) (n : Nat) (xs : List Value) : Prop :=
  xs.length = n * k ∧ ∃ A c, v = .slice A n c ∧ n ≤ c ∧ c ≤ maxLen ∧ (A = none → c = 0) ∧ (0 < n → ∃ ad, A = some ad ∧ F ad.block ∧ At w ad xs)

theorem At.keep {w w' : World} {ad : Addr} {xs : List Value} (h : At w ad xs) (hb : w'.heap[ad.block]? = w.heap[ad.block]?) : At w' ad xs :=
  fun j u hu => (World.cell?_of_block (by rw [block_add]; exact hb)).trans (h j u hu)

theorem At.lt {w : World} {ad : Addr} {xs : List Value} (h : At w ad xs) (hn : 0 < xs.length) : ad.block < w.heap.size := by
  have := World.block_lt_of_cell? w _ (h 0 _ (List.getElem?_eq_getElem hn))
  rwa [block_add] at this

theorem Sl.nil (w : World) (F : Nat → Prop) (k : Nat) : Sl w F k (.slice none 0 0) 0 [] :=
  ⟨by simp, none, 0, rfl, Nat.le_refl _, by simp [maxLen], fun _ => rfl, fun h => absurd h (by omega)⟩

theorem Sl.imp {w : World} {F G : Nat → Prop} {k n : Nat} {v : Value} {xs : List Value} (h : Sl w F k v n xs) (hF : ∀ b, b < w.heap.size → F b → G b) (hk : 0 < k) : Sl w G k v n xs := by
  obtain ⟨hl, A, c, hv, h1, h2, h3, h4⟩ := h
  refine ⟨hl, A, c, hv, h1, h2, h3, fun hn => ?_⟩
  obtain ⟨ad, ha, hf, hat⟩ := h4 hn
  exact ⟨ad, ha, hF _ (hat.lt (by rw [hl]; exact Nat.mul_pos hn hk)) hf, hat⟩

theorem Sl.keep {w w' : World} {F : Nat → Prop} {k n : Nat} {v : Value} {xs : List Value} (h : Sl w F k v n xs) (hk : 0 < k) (hb : ∀ b, b < w.heap.size → F b → w'.heap[b]? = w.heap[b]?) : Sl w' F k v n xs := by
  obtain ⟨hl, A, c, hv, h1, h2, h3, h4⟩ := h
  refine ⟨hl, A, c, hv, h1, h2, h3, fun hn => ?_⟩
  obtain ⟨ad, ha, hf, hat⟩ := h4 hn
  exact ⟨ad, ha, hf, hat.keep (hb _ (hat.lt (by rw [hl]; exact Nat.mul_pos hn hk)) hf)⟩

/-- Whatever only adds blocks keeps it. -/
theorem Sl.below {w w' : World} {F : Nat → Prop} {k n : Nat} {v : Value} {xs : List Value} (h : Sl w F k v n xs) (hk : 0 < k) (hb : Below w.heap.size w w') : Sl w' F k v n xs :=
  h.keep hk fun b hl _ => hb.block b hl

theorem Sl.belowB {w w' : World} {B k n : Nat} {v : Value} {xs : List Value} (h : Sl w (· < B) k v n xs) (hk : 0 < k) (hb : Below B w w') : Sl w' (· < B) k v n xs :=
  h.keep hk fun b _ hl => hb.block b hl

theorem Sl.len {w : World} {F : Nat → Prop} {k n : Nat} {v : Value} {xs : List Value} (h : Sl w F k v n xs) : n ≤ maxLen := by
  obtain ⟨_, A, c, _, h1, h2, _⟩ := h; omega

/-- An owned row reads so. -/
theorem Sl.of_own {w : World} {base : Nat} {e : TypeId} {k n : Nat} {v : Value} {xs : List Value} (h : w.ownsRow base e k v n xs) : Sl w (base ≤ ·) k v n xs := by
  obtain ⟨hl, h2⟩ := h
  rcases h2 with ⟨rfl, rfl⟩ | ⟨g, cap, cur, rfl, hb, hh, hn, hc, hs, ht⟩
  · obtain rfl : xs = [] := List.eq_nil_of_length_eq_zero (by simpa using hl)
    exact Sl.nil _ _ _
  · refine ⟨hl, some ⟨g, 0, none⟩, cap, rfl, hn, hc, (fun h => by cases h), fun _ => ⟨_, rfl, hb, ?_⟩⟩
    exact World.ownsRow.cells (g := g) (v := .slice (some ⟨g, 0, none⟩) n cap) ⟨hl, .inr ⟨g, cap, cur, rfl, hb, hh, hn, hc, hs, ht⟩⟩ rfl

/-- Bytes as values. -/
def bv (x : UInt8) : Value := .int .u8 x.toNat
def bvs (xs : List UInt8) : List Value := xs.map bv

/-- v is a slice of the bytes xs. -/
def Bs (w : World) (F : Nat → Prop) (v : Value) (xs : List UInt8) : Prop := Sl w F 1 v xs.length (bvs xs)

theorem Bs.below {w w' : World} {F : Nat → Prop} {v : Value} {xs : List UInt8} (h : Bs w F v xs) (hb : Below w.heap.size w w') : Bs w' F v xs := Sl.below h (by omega) hb
theorem Bs.belowB {w w' : World} {B : Nat} {v : Value} {xs : List UInt8} (h : Bs w (· < B) v xs) (hb : Below B w w') : Bs w' (· < B) v xs := Sl.belowB h (by omega) hb
theorem Bs.imp {w : World} {F G : Nat → Prop} {v : Value} {xs : List UInt8} (h : Bs w F v xs) (hF : ∀ b, b < w.heap.size → F b → G b) : Bs w G v xs := Sl.imp h hF (by omega)

theorem Sl.imp_lt {w : World} {F : Nat → Prop} {k n : Nat} {v : Value} {xs : List Value} (h : Sl w F k v n xs) (hk : 0 < k) : Sl w (· < w.heap.size) k v n xs := h.imp (fun _ hb _ => hb) hk
theorem Bs.lt {w : World} {F : Nat → Prop} {v : Value} {xs : List UInt8} (h : Bs w F v xs) : Bs w (· < w.heap.size) v xs := Sl.imp_lt h (by omega)

/-- What a walk needs of a slice of bytes: its form, and each cell. -/
theorem Bs.open_ {w : World} {F : Nat → Prop} {v : Value} {xs : List UInt8} (h : Bs w F v xs) :
    ∃ A c, v = .slice A xs.length c ∧ xs.length ≤ c ∧ c ≤ maxLen ∧ (A = none → c = 0) ∧
      ∀ j (hj : j < xs.length), ∃ ad, A = some ad ∧ F ad.block ∧ ad.block < w.heap.size ∧ w.cell? (ad.add j) = some (.int .u8 (xs[j].toNat : Int)) := by
  obtain ⟨hl, A, c, hv, h1, h2, h3, h4⟩ := h
  refine ⟨A, c, hv, h1, h2, h3, fun j hj => ?_⟩
  obtain ⟨ad, ha, hf, hat⟩ := h4 (by omega)
  refine ⟨ad, ha, hf, hat.lt (by simp [bvs]; omega), hat j _ ?_⟩
  simp [bvs, bv, hj]

theorem Bs.cell {w : World} {F : Nat → Prop} {A : Option Addr} {n c : Nat} {xs : List UInt8} (h : Bs w F (.slice A n c) xs) (j : Nat) (hj : j < xs.length) :
    ∃ ad, A = some ad ∧ F ad.block ∧ ad.block < w.heap.size ∧ w.cell? (ad.add j) = some (.int .u8 (xs[j].toNat : Int)) := by
  obtain ⟨A', c', hv, _, _, _, hc⟩ := h.open_
  cases hv
  exact hc j hj

/-- A slice type t of elements e: k cells, so many bytes, zero value z. -/
structure Elem (P : Program) (t e k bytes : Nat) (z : Value) : Prop where
  ut : P.underlying t = some (.slice e)
  info : (P.info? e).map (fun i => (i.zero, i.size, i.bytes)) = some (some z, k, bytes)
  zs : z.cells.size = k
  pos : 0 < k

/-- Whatever the source, nil too: 'append(v, x...)' onto a row of the call's own. -/
theorem run_app {P : Program} {w : World} {t e k bytes : Nat} {z : Value} (E : Elem P t e k bytes z) (ty : TypeId) (base : Nat) {F : Nat → Prop} {v vx : Value} {n m : Nat} {xs news : List Value}
    (hown : w.ownsRow base e k v n xs) (hsrc : Sl w F k vx m news) (h1 : ∀ u ∈ news, u.oneCell' = true) (hb : n + m ≤ 1073741824) (hby : bytes ≤ 65536) (hbase : base ≤ w.heap.size) :
    ∃ v' w', (Builtin.append_ #[t, t] ty #[v, vx]).run P w = .ok v' w' ∧ w'.ownsRow base e k v' (n + m) (xs ++ news) ∧ w.grownBy w' v.ownBlock := by
  obtain ⟨i, hi, hz, hs, hb'⟩ := info_parts E.info
  have hbb : (n + m) * bytes ≤ 140737488355328 := Nat.le_trans (Nat.mul_le_mul hb hby) (by decide)
  have hml : n + m ≤ maxLen := by simp only [maxLen]; omega
  obtain ⟨hl, A, c, rfl, hmc, hcm, hnil, hat⟩ := hsrc
  cases A with
  | none =>
    obtain rfl : c = 0 := hnil rfl
    obtain rfl : m = 0 := by omega
    obtain rfl : news = [] := List.eq_nil_of_length_eq_zero (by simpa using hl)
    refine ⟨v, w, run_append_owned_none (P := P) (w := w) base t ty e i k E.ut hi v n xs hown, by simpa using hown, ⟨rfl, rfl, rfl, Nat.le_refl _, fun _ _ _ => rfl⟩⟩
  | some ad =>
    have hnews : ∀ j u, news[j]? = some u → w.cell? (ad.add j) = some u := by
      by_cases hm : 0 < m
      · obtain ⟨ad', e', _, h⟩ := hat hm; cases e'; exact h
      · obtain rfl : m = 0 := by omega
        obtain rfl : news = [] := List.eq_nil_of_length_eq_zero (by simpa using hl)
        intro j u hu; simp at hu
    obtain ⟨v', w', a, b, c', _⟩ := run_append_own (P := P) w base t ty e i z k bytes E.ut hi hz hs hb' E.zs E.pos v n xs hown ad m c news hl hnews h1 hml hbb hbase
    exact ⟨v', w', a, b, c'⟩

/-- .. as a step of the walk. -/
theorem app {P : Program} {w : World} {t e k bytes : Nat} {z : Value} (E : Elem P t e k bytes z) {ops : Array Oper} {rest : List Oper} {o : Oper} {a : Act} {Q : Exit → Act → World → Prop}
    (hw : Region.wanted o (yielded ops a.tmps) = true) (s x : Operand) (ho : o.op = .call { callee := .builtin .append, args := #[s, x], argTypes := #[t, t] }) (base : Nat) {F : Nat → Prop} {v vx : Value} {n m : Nat} {xs news : List Value}
    (hown : w.ownsRow base e k v n xs) (hsrc : Sl w F k vx m news) (hs : a.eval s = v) (hx : a.eval x = vx) (h1 : ∀ u ∈ news, u.oneCell' = true) (hb : n + m ≤ 1073741824) (hby : bytes ≤ 65536) (hbase : base ≤ w.heap.size)
    (h : ∀ v' w', w'.ownsRow base e k v' (n + m) (xs ++ news) → w.grownBy w' v.ownBlock → wpList P ops Q rest (a.put o.dst v') w') : wpList P ops Q (o :: rest) a w := by
  refine BigFrame.wpList_want hw fun K hK => ?_
  obtain ⟨v', w', hr, h2, h3⟩ := run_app E o.type base hown hsrc h1 hb hby hbase
  unfold Oper.wp execOp
  simp only [ho, resolve, invoke, builtin, Sem.run_bind, Sem.run_pure, Result.andThen_ok, List.map_toArray, List.map_cons, List.map_nil, hs, hx, hr]
  exact hK _ _ (h v' w' h2 h3)

/-- The literal that was just laid. -/
theorem Sl.lit (w : World) (cs : List Value) (e k n : Nat) (hl : cs.length = n * k) (hm : n ≤ maxLen) :
    Sl (w.alloc (.cells cs.toArray e)) (· = w.heap.size) k (.slice (some ⟨w.heap.size, 0, none⟩) n n) n cs :=
  ⟨hl, _, n, rfl, Nat.le_refl _, hm, (fun h => by cases h), fun _ => ⟨_, rfl, rfl, fun j u hu => by
    have := World.ownsRow.cells (w := w.alloc (.cells cs.toArray e)) (base := w.heap.size) (e := e) (size := k) (v := .slice (some ⟨w.heap.size, 0, none⟩) n n) (n := n) (xs := cs) (g := w.heap.size)
      (by have := World.ownsRow_lit (base := w.heap.size) (e := e) (size := k) w cs.toArray n (Nat.le_refl _) hm (by simpa using hl); simpa using this) rfl
    exact this j u hu⟩⟩

theorem own_below {B : Nat} {w wr w1 : World} {e k n : Nat} {v : Value} {xs : List Value} (h : Below B w wr) (ho : wr.ownsRow B e k v n xs) (hg : wr.grownBy w1 v.ownBlock) (hB : B ≤ w.heap.size) : Below B w w1 :=
  h.grown hg (Nat.le_trans hB h.size) fun j hj => (ho.lt j hj).1

theorem one_bvs (xs : List UInt8) : ∀ u ∈ bvs xs, u.oneCell' = true := by
  intro u hu
  obtain ⟨x, _, rfl⟩ := List.mem_map.1 hu
  rfl

theorem bvs_len (xs : List UInt8) : (bvs xs).length = xs.length := by simp [bvs]
theorem bvs_append (xs ys : List UInt8) : bvs (xs ++ ys) = bvs xs ++ bvs ys := by simp [bvs]

/-- A row of bytes of the call's own. -/
def Ob (w : World) (base e : Nat) (v : Value) (xs : List UInt8) : Prop := w.ownsRow base e 1 v xs.length (bvs xs)
theorem Ob.bs {w : World} {base e : Nat} {v : Value} {xs : List UInt8} (h : Ob w base e v xs) : Bs w (base ≤ ·) v xs := Sl.of_own h
theorem Ob.nil (w : World) (base e : Nat) : Ob w base e (.slice none 0 0) [] := World.ownsRow_nil w base e 1
theorem own_low {w : World} {B B' e k n : Nat} {v : Value} {xs : List Value} (h : w.ownsRow B e k v n xs) (hB : B' ≤ B) : w.ownsRow B' e k v n xs := by
  obtain ⟨h1, h2 | ⟨g, cap, cur, a, b, c⟩⟩ := h
  · exact ⟨h1, .inl h2⟩
  · exact ⟨h1, .inr ⟨g, cap, cur, a, Nat.le_trans hB b, c⟩⟩
theorem Ob.low {w : World} {B B' e : Nat} {v : Value} {xs : List UInt8} (h : Ob w B e v xs) (hB : B' ≤ B) : Ob w B' e v xs := own_low h hB

theorem Ob.push {w : World} {base e : Nat} {v : Value} {xs : List UInt8} {q : Int} (b : UInt8) (h : w.ownsRow base e 1 v (xs.length + 1) (bvs xs ++ [.int .u8 q])) (hq : q = b.toNat) : Ob w base e v (xs ++ [b]) := by
  unfold Ob
  rw [bvs_append, List.length_append]
  subst hq
  exact h
theorem Ob.more {w : World} {base e m : Nat} {v : Value} {xs ys : List UInt8} (h : w.ownsRow base e 1 v (xs.length + m) (bvs xs ++ bvs ys)) (hm : m = ys.length) : Ob w base e v (xs ++ ys) := by
  unfold Ob
  rw [bvs_append, List.length_append, ← hm]
  exact h

/-- Below, behind an append of what was just laid. -/
theorem push_below {B : Nat} {w wr w1 : World} {e k n : Nat} {v : Value} {xs : List Value} {o : Obj} (h : Below B w wr) (ho : wr.ownsRow B e k v n xs) (hg : (wr.alloc o).grownBy w1 v.ownBlock) (hB : B ≤ w.heap.size) : Below B w w1 :=
  own_below (h.alloc (Nat.le_trans hB h.size) o) (World.ownsRow.alloc ho o) hg hB

theorem add_add (a : Addr) (i j : Nat) : (a.add i).add j = a.add (i + j) := by
  unfold Addr.add
  by_cases hi : i = 0 <;> by_cases hj : j = 0 <;> simp [hi, hj, Nat.add_assoc]

/-- A cut s[lo:lo+m], as the model writes it. -/
theorem Sl.sub {w : World} {F : Nat → Prop} {k : Nat} {A : Option Addr} {n c : Nat} {xs : List Value} (h : Sl w F k (.slice A n c) n xs) (lo m : Nat) (hm : lo + m ≤ n) :
    Sl w F k (.slice (if c = lo then A else A.map (·.add (lo * k))) m (c - lo)) m ((xs.drop (lo * k)).take (m * k)) := by
  obtain ⟨hl, A', c', hv, h1, h2, h3, h4⟩ := h
  cases hv
  have hmk : lo * k + m * k ≤ n * k := by rw [← Nat.add_mul]; exact Nat.mul_le_mul_right _ hm
  refine ⟨by rw [List.length_take, List.length_drop, hl]; omega, _, _, rfl, by omega, by omega, ?_, ?_⟩
  · split
    · intro e; have := h3 e; omega
    · intro e; cases A with
      | none => have := h3 rfl; omega
      | some a => simp at e
  · intro hpos
    obtain ⟨ad, rfl, hf, hat⟩ := h4 (by omega)
    rw [if_neg (by omega)]
    refine ⟨ad.add (lo * k), rfl, by rw [block_add]; exact hf, fun j u hu => ?_⟩
    rw [add_add]
    refine hat _ _ ?_
    rw [List.getElem?_take] at hu
    split at hu
    · rwa [List.getElem?_drop] at hu
    · cases hu

theorem Bs.sub {w : World} {F : Nat → Prop} {A : Option Addr} {c : Nat} {xs : List UInt8} (h : Bs w F (.slice A xs.length c) xs) (lo m : Nat) (hm : lo + m ≤ xs.length) :
    Bs w F (.slice (if c = lo then A else A.map (·.add lo)) m (c - lo)) ((xs.drop lo).take m) := by
  have := Sl.sub h lo m hm
  have hl : ((xs.drop lo).take m).length = m := by simp; omega
  unfold Bs
  rw [hl]
  simpa [bvs, List.map_take, List.map_drop] using this

/-- Slice v of elements of k cells each, whose cells mean xs by R. -/
def SlR {α : Type} (w : World) (F : Nat → Prop) (k : Nat) (R : World → (Nat → Prop) → List Value → α → Prop) (v : Value) (xs : List α) : Prop :=
  ∃ css : List (List Value), css.length = xs.length ∧ (∀ (j : Nat) (c : List Value) (x : α), css[j]? = some c → xs[j]? = some x → c.length = k ∧ R w F c x) ∧ Sl w F k v xs.length css.flatten

theorem flatten_get {k : Nat} : ∀ (css : List (List Value)), (∀ c ∈ css, c.length = k) → ∀ (i j : Nat), i < css.length → j < k → css.flatten[i * k + j]? = (css[i]?).bind (·[j]?)
  | [], _, i, j, hi, _ => by simp at hi
  | c :: css, h, i, j, hi, hj => by
    have hc := h c (by simp)
    cases i with
    | zero => simp [List.getElem?_append, hc, hj]
    | succ i =>
      have := flatten_get css (fun c hc => h c (by simp [hc])) i j (by simpa using hi) hj
      rw [List.flatten_cons, List.getElem?_append_right (by rw [hc, Nat.succ_mul]; omega), hc, Nat.succ_mul]
      rw [show i * k + k + j - k = i * k + j from by omega, this]
      simp

theorem flatten_len {k : Nat} : ∀ (css : List (List Value)), (∀ c ∈ css, c.length = k) → css.flatten.length = css.length * k
  | [], _ => by simp
  | c :: css, h => by
    have := flatten_len css (fun c hc => h c (by simp [hc]))
    rw [List.flatten_cons, List.length_append, this, h c (by simp), List.length_cons, Nat.succ_mul]; omega

theorem css_map {α : Type} (f : α → List Value) (css : List (List Value)) (xs : List α) (hl : css.length = xs.length) (h : ∀ (j : Nat) c x, css[j]? = some c → xs[j]? = some x → c = f x) : css = xs.map f := by
  apply List.ext_getElem?
  intro j
  rw [List.getElem?_map]
  cases hj : css[j]? with
  | none => rw [List.getElem?_eq_none_iff] at hj; rw [List.getElem?_eq_none (by omega)]; rfl
  | some c =>
    have hlt := (List.getElem?_eq_some_iff.1 hj).1
    have hx := List.getElem?_eq_getElem (l := xs) (i := j) (by omega)
    rw [hx, h j c _ hj hx]; rfl
theorem flatten_one {α : Type} (f : α → Value) : ∀ l : List α, (l.map fun y => [f y]).flatten = l.map f
  | [] => rfl
  | y :: ys => by rw [List.map_cons, List.flatten_cons, flatten_one f ys]; rfl

/-- 'string(b)', nil too. -/
theorem run_string {P : Program} (w : World) {src dst e : TypeId} {F : Nat → Prop} {v : Value} {xs : List UInt8} (h : Bs w F v xs) (hs : P.underlying src = some (.slice e)) (he : P.underlying e = some (.int .u8)) (hd : P.underlying dst = some .string) :
    (convert src dst v).run P w = .ok (.string ⟨xs.toArray⟩) w := by
  obtain ⟨A, c, rfl, h1, h2, h3, hc⟩ := h.open_
  cases A with
  | none =>
    obtain rfl : c = 0 := h3 rfl
    obtain rfl : xs = [] := List.eq_nil_of_length_eq_zero (by omega)
    exact Lib.run_convert_nil_bytes w src dst e 0 hs he hd
  | some ad =>
    exact run_convert_bytes_back w src dst e ad c xs hs he hd fun j hj => by
      obtain ⟨ad', e', _, _, hx⟩ := hc j hj
      cases e'; exact hx

theorem addr_plain {w : World} {ad : Addr} {v : Value} (h : w.cell? (ad.add 0) = some v) : ∃ b o, ad = ⟨b, o, none⟩ := by
  obtain ⟨b, o, t⟩ := ad
  cases t with
  | none => exact ⟨b, o, rfl⟩
  | some t =>
    exfalso
    simp only [Addr.add, if_pos, World.cell?] at h
    split at h
    · simp at h
    · cases h

/-- A slice's cells at an address written out. -/
theorem Sl.cells {w : World} {F : Nat → Prop} {k n c : Nat} {A : Option Addr} {xs : List Value} (h : Sl w F k (.slice A n c) n xs) (hn : 0 < n) (hk : 0 < k) :
    ∃ b o, A = some ⟨b, o, none⟩ ∧ F b ∧ b < w.heap.size ∧ ∀ (j : Nat) u, xs[j]? = some u → w.cell? ⟨b, o + j, none⟩ = some u := by
  obtain ⟨hl, A', c', hv, h1, h2, h3, h4⟩ := h
  cases hv
  obtain ⟨ad, rfl, hf, hat⟩ := h4 hn
  have hpos : 0 < xs.length := by rw [hl]; exact Nat.mul_pos hn hk
  obtain ⟨b, o, rfl⟩ := addr_plain (hat 0 _ (List.getElem?_eq_getElem hpos))
  refine ⟨b, o, rfl, hf, hat.lt hpos, fun j u hu => ?_⟩
  have := hat j u hu
  by_cases hj : j = 0
  · subst hj; simpa [Addr.add] using this
  · simpa [Addr.add, hj] using this

/-- A cell that is there stays behind a new block. -/
theorem cell_al {w : World} {a : Addr} {v : Value} (h : w.cell? a = some v) (o : Obj) : (w.alloc o).cell? a = some v :=
  (World.cell?_of_block (Below.heap_alloc w o a.block (World.block_lt_of_cell? w a h))).trans h

theorem gr_cell {w w' : World} {b : Nat} (hg : w.grownBy w' (some b)) {q o : Nat} {v : Value} (h : w.cell? ⟨q, o, none⟩ = some v) (hne : q ≠ b) : w'.cell? ⟨q, o, none⟩ = some v :=
  hg.cell h (by simpa using hne)
theorem gr_froz {w w' : World} {b : Nat} (hg : w.grownBy w' (some b)) {q o : Nat} {f : Bool} (h : w.frozen? ⟨q, o, none⟩ = f) (hlt : q < w.heap.size) (hne : q ≠ b) : w'.frozen? ⟨q, o, none⟩ = f :=
  (World.frozen?_of_block (hg.block q hlt (by simpa using hne))).trans h
theorem gr_heap {w w' : World} {b : Nat} (hg : w.grownBy w' (some b)) {q : Nat} {o : Obj} (h : w.heap[q]? = some o) (hne : q ≠ b) : w'.heap[q]? = some o :=
  (hg.block q (Array.getElem?_eq_some_iff.1 h).1 (by simpa using hne)).trans h
theorem heap_al {w : World} {q : Nat} {x : Obj} (h : w.heap[q]? = some x) (o : Obj) : (w.alloc o).heap[q]? = some x :=
  (Below.heap_alloc w o q (Array.getElem?_eq_some_iff.1 h).1).trans h
theorem heap_bl {w w' : World} (hb : Below w.heap.size w w') {q : Nat} {x : Obj} (h : w.heap[q]? = some x) : w'.heap[q]? = some x :=
  (hb.block q (Array.getElem?_eq_some_iff.1 h).1).trans h
theorem heap_sc {w : World} {q : Nat} {x : Obj} (h : w.heap[q]? = some x) (a : Addr) (u : Value) (hne : q ≠ a.block) : (w.setCell a u).heap[q]? = some x :=
  (Below.heap_setCell w a u q hne).trans h

end Go.Proofs.Ytjgobljclodpfaa.K
