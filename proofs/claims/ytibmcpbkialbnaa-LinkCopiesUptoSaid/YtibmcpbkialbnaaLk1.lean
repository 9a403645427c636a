/- Bytes on their way: links as plain lists by pairs, and as they lie in memory; New. No condition. -/
import Derived.Test.YtibmcpbkialbnaaMp
import Derived.Test.YtibmcpbkialbnaaRl
import Derived.Test.YtibmcpbkialbnaaTab
import Derived.Test.YtibmcpbkialbnaaBy
import Derived.Test.YtibmcpbkialbnaaEd3
import Derived.DeepKeys4
import Derived.WideKeyArr
namespace Go.Proofs.Ytibmcpbkialbnaa
open Go.RowKit K L E
open Go.Maps (Keyed)
set_option linter.unusedVariables false
set_option linter.unusedSimpArgs false

/-- A flight. -/
structure PF where
  frm : Int
  dst : Int
  tick : Int
  bytes : List UInt8
abbrev PK := Int × Int
def kv (p : PK) : Value := .agg #[.int .i64 p.1, .int .i64 p.2]
def i64 (x : Int) : Prop := -9223372036854775808 ≤ x ∧ x ≤ 9223372036854775807
/-- Links. -/
structure PL where
  m : PK → List PF
  n : Nat

theorem keyOf_pair {P : Program} {k e : TypeId} {q : IntKind} (A : WideMaps.ArrKey P k e 2) (he : P.underlying e = some (.int q)) (hkt : P.keyType k = true) {a b : Int} (wa : (Lit.int q a).wf = true) (wb : (Lit.int q b).wf = true) (hsz : ∃ m, P.types.size = m + 1) :
    ∃ l, keyOf P k (.agg #[.int q a, .int q b]) = some l := by
  obtain ⟨m, hm⟩ := hsz
  have hf : (Value.agg #[.int q a, .int q b]).formed P k = true := by simp [Value.formed, A.hu, A.size]
  unfold keyOf
  rw [A.hu]
  simp only [hkt, hf, Bool.and_self, if_true, hm]
  suffices h : P.keyLits (m + 1 + 1) k (Value.agg #[Value.int q a, Value.int q b]).cells.toList = some [.int q a, .int q b] by
    rw [h]; exact ⟨_, rfl⟩
  unfold Program.keyLits
  rw [A.hu]
  simp [Value.cells, A.size, A.one, show List.range 2 = [0, 1] from rfl, Program.keyLits, he, wa, wb, List.mapM_cons]

theorem Try.arrKey : WideMaps.ArrKey Try.prog 66 3 2 := ⟨Try.underlying66, by kernel_rfl, by kernel_rfl, by kernel_rfl⟩
theorem Try.keyed : Keyed Try.prog 66 := Keyed.of_law Try.arrKey.law
theorem keyOf_kv (p : PK) (h1 : i64 p.1) (h2 : i64 p.2) : ∃ l, keyOf Try.prog 66 (kv p) = some l := by
  obtain ⟨a1, a2⟩ := h1
  obtain ⟨b1, b2⟩ := h2
  exact keyOf_pair Try.arrKey Try.underlying3 (by kernel_rfl) (by simp [Lit.wf, IntKind.min, IntKind.max, IntKind.signed, IntKind.bits]; omega) (by simp [Lit.wf, IntKind.min, IntKind.max, IntKind.signed, IntKind.bits]; omega) ⟨Try.prog.types.size - 1, by kernel_rfl⟩

def PF.cells (f : PF) (v : Value) : List Value := [.int .i64 f.frm, .int .i64 f.dst, .int .i64 f.tick, v]
def aBy (v : Value) (bs : List UInt8) : Ass := aRow 5 1 v bs.length (bvs bs)
/-- Flights in a row of their own, the bytes of each in a block of its own. -/
def aFl (v : Value) (fs : List PF) : Ass := aEx fun vs : List Value => aIf (vs.length = fs.length) (aSep (aLr 24 4 v fs.length (List.zipWith PF.cells fs vs).flatten) (aAll (List.zipWith (fun v (f : PF) => aBy v f.bytes) vs fs)))
def pk : Value → PK
  | .agg #[.int _ a, .int _ b] => (a, b)
  | _ => (0, 0)
structure EsOk (l : PL) (es : List MapEntry) : Prop where
  keys : ∀ e ∈ es, ∃ p : PK, e.key = kv p ∧ i64 p.1 ∧ i64 p.2
  rest : ∀ p : PK, (∀ e ∈ es, e.key ≠ kv p) → l.m p = []
  sum : (es.map fun e => (l.m (pk e.key)).length).sum = l.n
  top : l.n ≤ 512
def aLk (b : Nat) (l : PL) : Ass := aEx fun x : Nat × List MapEntry × Nat => aIf (EsOk l x.2.1)
  (aSep (aBox b [.map (some x.1), .int .i64 (l.n : Nat)]) (aSep (aMap Try.prog 66 x.1 x.2.1 x.2.2) (aAll (x.2.1.map fun e => aFl e.val (l.m (pk e.key))))))
theorem pk_kv (p : PK) : pk (kv p) = p := rfl
theorem kv_inj {p q : PK} (h : kv p = kv q) : p = q := by rw [← pk_kv p, h, pk_kv]
/-- Links, laid open and shut. -/
theorem E.Mem.lk {w : World} {b : Nat} {l : PL} {Os Zs : List Ass} (M : Mem w (aLk b l :: Os) Zs) : ∃ g es c, EsOk l es ∧ Mem w (aBox b [.map (some g), .int .i64 (l.n : Nat)] :: aMap Try.prog 66 g es c :: ((es.map fun e => aFl e.val (l.m (pk e.key))) ++ Os)) Zs := by
  obtain ⟨⟨g, es, c⟩, M⟩ := M.ex
  obtain ⟨hk, M⟩ := M.cond
  exact ⟨g, es, c, hk, M.split.under1 fun M => M.split.under1 fun M => M.unall⟩
theorem E.Mem.mkLk {w : World} {b g c : Nat} {l : PL} {es : List MapEntry} {Os Zs : List Ass} (hk : EsOk l es) (M : Mem w (aBox b [.map (some g), .int .i64 (l.n : Nat)] :: aMap Try.prog 66 g es c :: ((es.map fun e => aFl e.val (l.m (pk e.key))) ++ Os)) Zs) : Mem w (aLk b l :: Os) Zs :=
  Mem.mkEx (f := fun x : Nat × List MapEntry × Nat => _) (g, es, c) (Mem.mkIf hk (M.under1 fun M => (M.under1 fun M => M.all).join).join)

end Go.Proofs.Ytibmcpbkialbnaa
namespace Go.Proofs.Ytibmcpbkialbnaa
open Go.RowKit K L E
open Go.Maps (Keyed)
set_option linter.unusedVariables false
set_option linter.unusedSimpArgs false

theorem build_lk (g : Nat) (w : World) : (Instr.build 65 #[(0, .map (some g))]).run Try.prog w = .ok (.agg #[.map (some g), .int .i64 0]) w := by kernel_rfl
theorem build_pair (a b : Int) (w : World) : (Instr.build 66 #[(0, .int .i64 a), (1, .int .i64 b)]).run Try.prog w = .ok (kv (a, b)) w := by kernel_rfl
theorem zero_fls (w : World) : (zeroValue 43).run Try.prog w = .ok (.slice none 0 0) w := by kernel_rfl
variable {w : World} {b : Nat} {l : PL} {Os Zs : List Ass}
theorem new0_M (M : Mem w Os Zs) : Calls Try.prog 11 #[] w fun r w' => ∃ b g, r = .returned (.pointer (some ⟨b, 0, none⟩)) ∧ Mem w' (aBox b [.map (some g), .int .i64 (0 : Nat)] :: aMap Try.prog 66 g [] 0 :: Os) Zs := by
  refine enter Try.func11 rfl Try.ntmps11 rfl rfl ?_
  (repeat (first | (refine WR.id ?_; first | refine WR.nil ?_ | refine WR.s ?_ | refine WR.g ?_) | (refine W.id ?_; first | refine W.seq fun _ _ => ?_ | refine W.region ?_ | refine W.s ?_ | refine W.e ?_) | (refine Ends.id ?_; first | refine Ends.seq (by assumption) ?_ | refine Ends.s ?_)))
  refine WR.makeMap (k := 66) rfl fun w1 hb1 hm hs1 => ?_
  refine WR.buildRun (vs := #[(0, .map (some w.heap.size))]) (fun a ha => by rw [List.map_toArray]; simp only [List.map_cons, List.map_nil, ha.ev (x := .tmp 1) rfl]) rfl (build_lk _ _) ?_
  refine WR.box rfl (cs := #[.map (some w.heap.size), .int .i64 0]) rfl rfl fun w2 hb2 hx hs2 => ?_
  (repeat (first | (refine WR.id ?_; first | refine WR.nil ?_ | refine WR.s ?_ | refine WR.g ?_) | (refine W.id ?_; first | refine W.seq fun _ _ => ?_ | refine W.region ?_ | refine W.s ?_ | refine W.e ?_) | (refine Ends.id ?_; first | refine Ends.seq (by assumption) ?_ | refine Ends.s ?_)))
  refine Ends.ret1 rfl rfl ⟨_, w.heap.size, rfl, ?_⟩
  have M1 : Mem w1 (aMap Try.prog 66 w.heap.size [] 0 :: Os) Zs := M.new hb1 (F := fun x => x = w.heap.size) ⟨fun _ => Iff.rfl, hm⟩ fun b hb => by omega
  exact M1.newBox hb2 hx
theorem new_M (M : Mem w Os Zs) : Calls Try.prog 11 #[] w fun r w' => ∃ b, r = .returned (.pointer (some ⟨b, 0, none⟩)) ∧ Mem w' (aLk b ⟨fun _ => [], 0⟩ :: Os) Zs :=
  (new0_M M).mono fun r w' ⟨b, g, hr, M2⟩ => ⟨b, hr, E.Mem.mkLk (es := []) ⟨fun e he => (by cases he), fun p _ => rfl, rfl, Nat.zero_le _⟩ M2⟩

end Go.Proofs.Ytibmcpbkialbnaa
